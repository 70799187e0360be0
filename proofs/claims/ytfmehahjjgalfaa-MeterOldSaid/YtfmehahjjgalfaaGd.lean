/- Small facts on lists; a class of worlds behind a name. -/
import Derived.Test.YtfmehahjjgalfaaMem
namespace Go.Proofs.Ytfmehahjjgalfaa
open Go.RowKit
theorem getD_mem {α : Type} [Inhabited α] {M : List α} {i : Nat} (h : i < M.length) : M.getD i default ∈ M := by
  rw [List.getD_eq_getElem?_getD, List.getElem?_eq_getElem h]; exact List.getElem_mem _
def ExtS (w w' : World) : Prop := Below w.heap.size w w'
end Go.Proofs.Ytfmehahjjgalfaa
