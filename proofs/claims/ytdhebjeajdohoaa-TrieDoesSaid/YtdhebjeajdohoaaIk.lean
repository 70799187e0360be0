/- Delete, Get, Len, by the list of things. -/
import Derived.Test.YtdhebjeajdohoaaIj
namespace Go.Proofs.Ytdhebjeajdohoaa
open Go.RowKit

def hasI (E : List ((Nat × Nat) × Int)) (a : Nat) (l : Int) : Bool := okP a l && decide ((a, l.toNat) ∈ E.map (·.1))
theorem look_hasI {M : Nat → Nat → Option Int} {E : List ((Nat × Nat) × Int)} (h : RefOk E M) (a : Nat) (l : Int) : (look M a l).isSome = hasI E a l := by
  unfold look hasI
  cases hok : okP a l with
  | false => rfl
  | true =>
    simp only [if_true, Bool.true_and]
    rw [Bool.eq_iff_iff, decide_eq_true_eq]
    exact h.some _ _
theorem delEI {w : World} {b : Nat} {N : Nat → Nat → Option Nat} {E : List ((Nat × Nat) × Int)} (h : TrieEI w b N E) (hE : E.length < 4611686018427387904) (a : Nat) (l : Int) (ha : a < 4294967296) :
    Calls Try.prog 12 #[.pointer (some ⟨b, 0, none⟩), pfx a l] w fun e w' => e = .returned (.bool (hasI E a l)) ∧ ∃ N', TrieEI w' b N' (delL E a l) ∧ Moved w w' (foot b N) (foot b N') := by
  obtain ⟨M, h1, h2⟩ := h
  have hlk := look_hasI h2 a l
  have hlen := del_length (a, l.toNat) E h2.sorted
  cases hh : hasI E a l with
  | false =>
    rw [hh] at hlk
    have hn : look M a l = none := by cases e : look M a l with | none => rfl | some x => rw [e] at hlk; cases hlk
    have hd : delL E a l = E := by
      unfold delL
      unfold hasI at hh
      split
      · rename_i hok
        rw [hok, Bool.true_and, decide_eq_false_iff_not] at hh
        unfold delE
        refine List.filter_eq_self.2 fun e he => ?_
        simp only [decide_eq_true_eq]
        exact fun e2 => hh (List.mem_map.2 ⟨e, he, e2⟩)
      · rfl
    rw [hd]
    exact (delI_no h1 a l ha hn).mono fun e w' ⟨h3, h4⟩ => ⟨h3, N, ⟨M, h1.below h4, h2⟩, Moved.of_below h4 _⟩
  | true =>
    unfold hasI at hh
    simp only [Bool.and_eq_true, decide_eq_true_eq] at hh
    obtain ⟨hok, hm⟩ := hh
    obtain ⟨hk, hl⟩ := okP_key ha hok
    unfold delL
    rw [hok, if_pos rfl]
    rw [if_pos hm] at hlen
    obtain ⟨y, hy⟩ := Option.isSome_iff_exists.1 ((h2.some _ _).2 hm)
    rw [← hlen] at h1
    rw [hl] at hok ⊢
    simp only [Int.toNat_natCast]
    exact (delI_yes h1 a l.toNat ha hok (by omega) y hy).mono fun e w' ⟨h3, N', h4, h5⟩ => ⟨h3, N', ⟨_, h4, h2.del (a, l.toNat)⟩, h5⟩
end Go.Proofs.Ytdhebjeajdohoaa
