/- least, by each of the five numbers. -/
import Derived.Test.YtlgmoiilfigamaaWe
import Derived.Test.YtlgmoiilfigamaaQt
namespace Go.Proofs.Ytlgmoiilfigamaa
open Go.RowKit

def minOf (f : Rt → Int) : List Cd → Int
  | [] => 0
  | c :: r => r.foldl (fun a d => min a (f d.1)) (f c.1)
theorem minOf_take (f : Rt → Int) (L : List Cd) (k : Nat) (h : k + 1 < L.length) : minOf f (L.take (k + 2)) = min (minOf f (L.take (k + 1))) (f (L.getD (k + 1) default).1) := by
  cases L with
  | nil => simp at h
  | cons c r =>
    simp only [List.take_succ_cons, minOf, List.getD_cons_succ]
    simp only [List.length_cons] at h
    rw [List.take_succ_eq_append_getElem (by omega : k < r.length), List.foldl_append]
    have : r.getD k default = r[k] := by simp [List.getD_eq_getElem?_getD, show k < r.length by omega]
    rw [this]
    rfl
def leastOf' (f : Rt → Int) (L : List Cd) : List Cd := L.filter (fun c => !(f c.1 != minOf f L))
/-- all candidates may be looked at -/
def AllOk (w : World) (B : Nat) (L : List Cd) : Prop := ∀ c ∈ L, RtOk w B c.1 ∧ Small c.1
end Go.Proofs.Ytlgmoiilfigamaa
