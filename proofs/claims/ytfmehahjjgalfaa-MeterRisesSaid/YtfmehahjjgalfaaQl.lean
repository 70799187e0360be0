/- Quiet steps of a drawn region: a guard that holds; a struct loaded whole; a call. -/
import Derived.Test.YtfmehahjjgalfaaGs
import Derived.Deep.Quiet
namespace Go.Proofs.Ytfmehahjjgalfaa
open Go Go.RowKit

section
variable {P : Program} {ops : Array Oper} {C : World → Prop} {Q : Act → Prop} {K : Act → Prop} {a : Act} {o : Oper} {rest : List Oper}
theorem wpQuiet_yes (h : ∀ K : Act → Prop, (∀ a, wpQuiet P ops C Q rest a → K a) → o.quiet P a C K) (hw : Region.wanted o (yielded ops a.tmps) = true) : wpQuiet P ops C Q (o :: rest) a := by
  unfold wpQuiet
  rw [if_pos hw]
  exact h _ fun _ h => h
theorem quiet_value (v : Value) (h : ∀ w, C w → (execOp a.eval o).run P w = .ok (.value v) w) (hK : K (a.put o.dst v)) : o.quiet P a C K :=
  ⟨v, fun w hw => by unfold Oper.quietAt; rw [h w hw]; exact ⟨rfl, rfl⟩, hK⟩
theorem exec_load_mid {w : World} (ty : TypeId) (x : Operand) (ho : o.op = .load ty x) (b off : Nat) (cells : Array Value) (hx : a.eval x = .pointer (some ⟨b, off, none⟩))
    (hb : w.rangeAt b off cells.toList) {d : TypeDesc} (hu : P.underlying ty = some d) (hd : d.isRow = true) (hi : (P.info? ty).map (·.size) = some cells.size) : (execOp a.eval o).run P w = .ok (.value (.agg cells)) w := by
  have hr := run_loadVar_mid (P := P) w b off ty cells.toList d hb hu hd (by simpa using hi)
  have hl : (Instr.loadAt ty (.pointer (some ⟨b, off, none⟩))).run P w = .ok (.agg cells) w := by
    simp only [Instr.loadAt, Instr.sureAddr, Sem.run_bind, Sem.run_pure, Result.andThen_ok]
    simpa using hr
  unfold execOp
  simp only [ho, hx, Sem.run_bind, hl, Sem.run_pure, Result.andThen_ok]
theorem quiet_load (ty : TypeId) (x : Operand) (ho : o.op = .load ty x) (b off : Nat) (cells : Array Value) (hx : a.eval x = .pointer (some ⟨b, off, none⟩))
    (hb : ∀ w, C w → w.rangeAt b off cells.toList) {d : TypeDesc} (hu : P.underlying ty = some d) (hd : d.isRow = true) (hi : (P.info? ty).map (·.size) = some cells.size) (hK : K (a.put o.dst (.agg cells))) : o.quiet P a C K :=
  quiet_value _ (fun _ hw => exec_load_mid ty x ho b off cells hx (hb _ hw) hu hd hi) hK
theorem rangeAt_block {w : World} {b : Nat} {cells : Array Value} {T : TypeId} {fr : Nat × Nat} (h : w.heap[b]? = some (.cells cells T fr)) (off : Nat) (l : List Value) (hl : (cells.toList.drop off).take l.length = l) : w.rangeAt b off l := by
  intro j v hv
  refine cell_of h ?_
  have hj : j < l.length := (List.getElem?_eq_some_iff.1 hv).1
  rw [← hl] at hv
  rw [List.getElem?_take, if_pos hj, List.getElem?_drop] at hv
  simpa using hv
end
end Go.Proofs.Ytfmehahjjgalfaa
