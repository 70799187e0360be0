/- A struct loaded whole, as one of those that read ahead of a write. -/
import Derived.Test.YtfmehahjjgalfaaPc
import Derived.Test.YtfmehahjjgalfaaQl
import Derived.Test.YtfmehahjjgalfaaGd
namespace Go.Proofs.Ytfmehahjjgalfaa
open Go Go.RowKit
section
variable {P : Program} {ops : Array Oper} {S : World → Prop} {L : Act → Prop} {K : Act → Prop} {a : Act} {o : Oper} {rest : List Oper}
theorem wpRead_yes (h : ∀ K : Act → Prop, (∀ a, wpRead P ops S L rest a → K a) → ∃ v, (∀ w, S w → (execOp a.eval o).run P w = .ok (.value v) w) ∧ K (a.put o.dst v)) (hw : Region.wanted o (yielded ops a.tmps) = true) : wpRead P ops S L (o :: rest) a := by
  unfold wpRead
  rw [if_pos hw]
  exact h _ fun _ h => h
theorem read_load (ty : TypeId) (x : Operand) (ho : o.op = .load ty x) (b off : Nat) (cells : Array Value) (hx : a.eval x = .pointer (some ⟨b, off, none⟩))
    (hb : ∀ w, S w → w.rangeAt b off cells.toList) {d : TypeDesc} (hu : P.underlying ty = some d) (hd : d.isRow = true) (hi : (P.info? ty).map (·.size) = some cells.size) (hK : K (a.put o.dst (.agg cells))) : ∃ v, (∀ w, S w → (execOp a.eval o).run P w = .ok (.value v) w) ∧ K (a.put o.dst v) :=
  ⟨_, fun _ hw => exec_load_mid ty x ho b off cells hx (hb _ hw) hu hd hi, hK⟩
end
end Go.Proofs.Ytfmehahjjgalfaa
