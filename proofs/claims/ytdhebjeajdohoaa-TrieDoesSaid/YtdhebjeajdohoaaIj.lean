/- A trie and the list of its things in order. -/
import Derived.Test.YtdhebjeajdohoaaIh
import Derived.Test.YtdhebjeajdohoaaTw
namespace Go.Proofs.Ytdhebjeajdohoaa
open Go.RowKit

def TrieEI (w : World) (b : Nat) (N : Nat → Nat → Option Nat) (E : List ((Nat × Nat) × Int)) : Prop := ∃ M, TrieI w b N E.length M ∧ RefOk E M
theorem TrieEI.keep {w w' : World} {b : Nat} {N : Nat → Nat → Option Nat} {E : List ((Nat × Nat) × Int)} (h : TrieEI w b N E) (e : ∀ k, foot b N k → w'.heap[k]? = w.heap[k]?) : TrieEI w' b N E := by
  obtain ⟨M, h1, h2⟩ := h; exact ⟨M, h1.keep e, h2⟩
theorem TrieEI.below {w w' : World} {b : Nat} {N : Nat → Nat → Option Nat} {E : List ((Nat × Nat) × Int)} (h : TrieEI w b N E) (hb : Below w.heap.size w w') : TrieEI w' b N E := by
  obtain ⟨M, h1, h2⟩ := h; exact ⟨M, h1.below hb, h2⟩
theorem TrieEI.lt {w : World} {b : Nat} {N : Nat → Nat → Option Nat} {E : List ((Nat × Nat) × Int)} (h : TrieEI w b N E) {k : Nat} (hk : foot b N k) : k < w.heap.size := by
  obtain ⟨M, h1, h2⟩ := h; exact h1.lt hk
theorem TrieEI.sorted {w : World} {b : Nat} {N : Nat → Nat → Option Nat} {E : List ((Nat × Nat) × Int)} (h : TrieEI w b N E) : (E.map (·.1)).Pairwise ltK := by
  obtain ⟨M, h1, h2⟩ := h; exact h2.sorted
theorem newEI (w : World) : Calls Try.prog 8 #[] w fun e w' => e = .returned (.pointer (some ⟨w.heap.size + 1, 0, none⟩)) ∧ ∃ N, TrieEI w' (w.heap.size + 1) N [] ∧ (∀ k, foot (w.heap.size + 1) N k → w.heap.size ≤ k) ∧ Below w.heap.size w w' :=
  (newI_any w).mono fun e w' ⟨h1, h2, h3⟩ => ⟨h1, _, ⟨_, h2, RefOk.nil⟩, (fun k hk => by
    rcases hk with rfl | ⟨x, d, hk⟩
    · omega
    · dsimp only at hk
      split at hk
      · injection hk with hk; omega
      · cases hk), h3⟩
theorem setEI {w : World} {b : Nat} {N : Nat → Nat → Option Nat} {E : List ((Nat × Nat) × Int)} (h : TrieEI w b N E) (hE : E.length < 4611686018427387904) (a : Nat) (l : Int) (ha : a < 4294967296) (v : Int) :
    Calls Try.prog 10 #[.pointer (some ⟨b, 0, none⟩), pfx a l, .int .i64 v] w fun e w' => e = .returned (.int .i64 (if okP a l then 0 else 20)) ∧ ∃ N', TrieEI w' b N' (setL E a l v) ∧ Moved w w' (foot b N) (foot b N') := by
  obtain ⟨M, h1, h2⟩ := h
  unfold setL
  cases hok : okP a l with
  | false => exact (setI_bad h1 a l ha hok v).mono fun e w' ⟨h3, h4⟩ => ⟨h3, N, ⟨M, h1.below h4, h2⟩, Moved.of_below h4 _⟩
  | true =>
    obtain ⟨hk, hl⟩ := okP_key ha hok
    rw [hl] at hok ⊢
    simp only [if_true, Int.toNat_natCast]
    refine (setI_any h1 a l.toNat ha hok hE v).mono fun e w' ⟨h3, N', h4, h5⟩ => ⟨h3, N', ⟨_, ?_, h2.put (k := (a, l.toNat)) hk v⟩, h5⟩
    have hn : (if (M a l.toNat).isSome = true then E.length else E.length + 1) = (insE (a, l.toNat) v E).length := by
      rw [ins_length _ _ _ h2.sorted]
      by_cases hm : (M a l.toNat).isSome = true
      · rw [if_pos hm, if_pos ((h2.some _ _).1 hm)]
      · rw [if_neg hm, if_neg (fun h => hm ((h2.some _ _).2 h))]
    rw [← hn]; exact h4
theorem withinEI {w : World} {b : Nat} {N : Nat → Nat → Option Nat} {E : List ((Nat × Nat) × Int)} (h : TrieEI w b N E) (hE : E.length ≤ 4294967296) (a : Nat) (m : Int) (ha : a < 4294967296) :
    Calls Try.prog 22 #[.pointer (some ⟨b, 0, none⟩), pfx a m] w fun e w' => ∃ v, e = .returned v ∧ RP.Own w' w.heap.size v (keysIn E a m) ∧ Below w.heap.size w w' := by
  obtain ⟨M, h1, h2⟩ := h
  have e : heldI M a m = keysIn E a m := held_filter h2 a m ha
  have := withinI_any h1 a m ha (by rw [e]; exact Nat.le_trans (keysIn_length E a m) hE)
  rw [e] at this
  exact this
theorem prefixesEI {w : World} {b : Nat} {N : Nat → Nat → Option Nat} {E : List ((Nat × Nat) × Int)} (h : TrieEI w b N E) (hE : E.length ≤ 4294967296) :
    Calls Try.prog 16 #[.pointer (some ⟨b, 0, none⟩)] w fun e w' => ∃ v, e = .returned v ∧ RP.Own w' w.heap.size v (E.map (·.1)) ∧ Below w.heap.size w w' := by
  obtain ⟨M, h1, h2⟩ := h
  have e : heldI M 0 0 = E.map (·.1) := (held_filter h2 0 0 (by decide)).trans h2.in00
  have := prefixesI_any h1 (by rw [e]; simpa using hE)
  rw [e] at this
  exact this
end Go.Proofs.Ytdhebjeajdohoaa
