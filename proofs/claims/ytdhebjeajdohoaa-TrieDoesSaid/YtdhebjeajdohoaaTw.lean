/- What calls make of a list of things in order. -/
import Derived.Test.YtdhebjeajdohoaaTv
namespace Go.Proofs.Ytdhebjeajdohoaa
open Go.RowKit

section
variable {α : Type}
def setL (E : List ((Nat × Nat) × α)) (a : Nat) (l : Int) (v : α) : List ((Nat × Nat) × α) := if okP a l then insE (a, l.toNat) v E else E
def delL (E : List ((Nat × Nat) × α)) (a : Nat) (l : Int) : List ((Nat × Nat) × α) := if okP a l then delE (a, l.toNat) E else E
def keysIn (E : List ((Nat × Nat) × α)) (a : Nat) (m : Int) : List (Nat × Nat) := (E.map (·.1)).filter (fun p => inP a m p.1 p.2)
theorem setL_length (E : List ((Nat × Nat) × α)) (hs : (E.map (·.1)).Pairwise ltK) (a : Nat) (l : Int) (v : α) : (setL E a l v).length ≤ E.length + 1 := by
  unfold setL
  split
  · rw [ins_length _ _ _ hs]; split <;> omega
  · omega
theorem keysIn_length (E : List ((Nat × Nat) × α)) (a : Nat) (m : Int) : (keysIn E a m).length ≤ E.length := by
  unfold keysIn
  exact Nat.le_trans (List.length_filter_le _ _) (by simp)
theorem okP_key {a : Nat} {l : Int} (ha : a < 4294967296) (h : okP a l = true) : Key a l.toNat ∧ l = (l.toNat : Int) := by
  obtain ⟨h1, h2, h3⟩ := okP_iff.1 h
  exact ⟨⟨by omega, h3, ha⟩, by omega⟩
end
end Go.Proofs.Ytdhebjeajdohoaa
