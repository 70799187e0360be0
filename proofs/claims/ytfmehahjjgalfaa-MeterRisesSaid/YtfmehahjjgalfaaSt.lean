/- A struct stored whole into, loaded whole out of, a block of its own; a result that lies in a cell. -/
import Derived.Test.YtfmehahjjgalfaaAp
import Derived.Deep.MidRow
import Derived.Laws.ResultCell
namespace Go.Proofs.Ytfmehahjjgalfaa
open Go.RowKit

section
variable {P : Program} {ops : Array Oper} {rest : List Oper} {o : Oper} {a : Act} {Q : Exit → Act → World → Prop} {w : World}
theorem run_store_whole {ty T : TypeId} {b : Nat} {cur cells : Array Value} (hb : w.heap[b]? = some (.cells cur T (0, 0))) (hs : cur.size = cells.size) (hi : (P.info? ty).map (·.size) = some cells.size) (h1 : cells.all (·.oneCell') = true) :
    ∃ w1, (Instr.storeAt ty (.pointer (some ⟨b, 0, none⟩)) (.agg cells)).run P w = .ok () w1 ∧ w1.heap[b]? = some (.cells cells T (0, 0)) ∧ SetB w w1 b (.cells cells T (0, 0)) := by
  obtain ⟨w1, cur', e1, e2, e3, e4, e5⟩ := Rep.run_storeCells' (P := P) b 0 T cells.toList 0 w cur hb (fun v hv => (Array.all_eq_true_iff_forall_mem.1 h1) v (by simpa using hv)) (by simp; omega)
  have hc : cur' = cells := by
    apply Array.ext_getElem?
    intro q
    rw [e4 q]
    simp only [Nat.add_zero, Nat.zero_add, Nat.zero_le, true_and, Nat.sub_zero, Array.length_toList]
    split
    · simp
    · rw [Array.getElem?_eq_none (by omega), Array.getElem?_eq_none (by omega)]
  subst hc
  refine ⟨w1, ?_, e2, e5⟩
  cases hq : P.info? ty with
  | none => simp [hq] at hi
  | some i =>
    have hs : cur'.size = i.size := by simp [hq] at hi; omega
    simp only [Instr.storeAt, Instr.sureAddr, Sem.run_bind, Sem.run_pure, Result.andThen_ok]
    simp [storeVar, sizeOf, typeInfo, hq, Value.cells, hs, e1]
/-- the walk stops ahead of a store of such a type -/
theorem halt_store (ty : TypeId) {x y : Operand} (_ho : o.op = .store ty x y) (h : Halted (wpList P ops Q (o :: rest) a w)) : wpList P ops Q (o :: rest) a w := h
theorem store_whole (hgd : o.guard = none) (ty : TypeId) (x y : Operand) (ho : o.op = .store ty x y) (b : Nat) (cells : Array Value) (hx : a.eval x = .pointer (some ⟨b, 0, none⟩)) (hy : a.eval y = .agg cells)
    {cur : Array Value} {T : TypeId} (hb : w.heap[b]? = some (.cells cur T (0, 0))) (hs : cur.size = cells.size) (hi : (P.info? ty).map (·.size) = some cells.size) (h1 : cells.all (·.oneCell') = true)
    (h : ∀ w1, w1.heap[b]? = some (.cells cells T (0, 0)) → SetB w w1 b (.cells cells T (0, 0)) → wpList P ops Q rest (a.put o.dst undef) w1) : wpList P ops Q (o :: rest) a w :=
  wpList_plain hgd fun K hK => by
    obtain ⟨w1, e1, e2, e3⟩ := run_store_whole (P := P) (w := w) hb hs hi h1
    have hk := hK _ _ (h w1 e2 e3)
    unfold Oper.wp execOp
    simp only [ho, hx, hy, Sem.run_bind, e1, Sem.run_pure, Result.andThen_ok]
    exact hk
theorem run_load_whole {ty T : TypeId} {b : Nat} {cells : Array Value} {fr : Nat × Nat} (hb : w.heap[b]? = some (.cells cells T fr)) {d : TypeDesc} (hu : P.underlying ty = some d) (hd : d.isRow = true) (hi : (P.info? ty).map (·.size) = some cells.size) :
    (loadVar ty ⟨b, 0, none⟩).run P w = .ok (.agg cells) w := by
  have hc : w.rangeAt b 0 cells.toList := fun j v hv => by rw [Nat.zero_add]; exact cell_of hb (by simpa using hv)
  have := run_loadVar_mid (P := P) w b 0 ty cells.toList d hc hu hd (by simpa using hi)
  simpa using this
/-- a function's one result lies in a cell -/
theorem ret_cell {fn : Func} {R : Ending → World → Prop} {p : Tmp} {ty T : TypeId} {b : Nat} {cells : Array Value} {fr : Nat × Nat} (hr : fn.results = #[.cell p ty]) (hp : a.tmps.getD p undef = .pointer (some ⟨b, 0, none⟩)) (hd : a.defers = [])
    (hb : w.heap[b]? = some (.cells cells T fr)) {d : TypeDesc} (hu : P.underlying ty = some d) (hdr : d.isRow = true) (hi : (P.info? ty).map (·.size) = some cells.size) (h : R (.returned (.agg cells)) w) : bodyPost P fn R .ret a w := by
  refine bodyPost_ret ?_ hd h
  simp only [results, hr]
  have hp' : a.tmps[p]?.getD undef = .pointer (some ⟨b, 0, none⟩) := by simpa using hp
  simp [asAddr, hp', run_load_whole (P := P) hb hu hdr hi]
end
end Go.Proofs.Ytfmehahjjgalfaa
