/- A trie's prefixes in order are those of the sorted list of its things. -/
import Derived.Test.YtdhebjeajdohoaaRb
import Derived.Test.YtdhebjeajdohoaaWk
namespace Go.Proofs.Ytdhebjeajdohoaa
open Go.RowKit

def ltK (x y : Nat × Nat) : Prop := x.1 < y.1 ∨ (x.1 = y.1 ∧ x.2 < y.2)
theorem ltK_irrefl (x : Nat × Nat) : ¬ ltK x x := by unfold ltK; omega
theorem ltK_trans {x y z : Nat × Nat} (h : ltK x y) (k : ltK y z) : ltK x z := by unfold ltK at *; omega
theorem sorted_ext : ∀ {L M : List (Nat × Nat)}, L.Pairwise ltK → M.Pairwise ltK → (∀ p, p ∈ L ↔ p ∈ M) → L = M
  | [], [], _, _, _ => rfl
  | [], y :: M, _, _, h => absurd ((h y).2 (by simp)) (by simp)
  | x :: L, [], _, _, h => absurd ((h x).1 (by simp)) (by simp)
  | x :: L, y :: M, hL, hM, h => by
    obtain ⟨h1, hL'⟩ := List.pairwise_cons.1 hL
    obtain ⟨h2, hM'⟩ := List.pairwise_cons.1 hM
    have hxy : x = y := by
      have hx := (h x).1 (by simp)
      have hy := (h y).2 (by simp)
      rcases List.mem_cons.1 hx with e | e
      · exact e
      · rcases List.mem_cons.1 hy with e2 | e2
        · exact e2.symm
        · exact absurd (ltK_trans (h1 y e2) (h2 x e)) (ltK_irrefl _)
    subst hxy
    rw [sorted_ext hL' hM' fun p => ?_]
    have hp := h p
    constructor
    · intro hm
      rcases List.mem_cons.1 (hp.1 (by simp [hm])) with e | e
      · subst e; exact absurd (h1 p hm) (ltK_irrefl _)
      · exact e
    · intro hm
      rcases List.mem_cons.1 (hp.2 (by simp [hm])) with e | e
      · subst e; exact absurd (h2 p hm) (ltK_irrefl _)
      · exact e
section
variable {α : Type} {M : Nat → Nat → Option α}
theorem cut_ge {x d a : Nat} (h : cut x d = a) : a ≤ x := h ▸ cut_le x d
theorem mem_trav (hM : ∀ a d, (M a d).isSome → Key a d) : ∀ (f a d : Nat), d + f = 33 → Key a d → ∀ p : Nat × Nat, p ∈ trav M f a d ↔ (M p.1 p.2).isSome ∧ d ≤ p.2 ∧ cut p.1 d = a
  | 0, a, d, hf, hk, p => by have := hk.le; omega
  | f + 1, a, d, hf, hk, p => by
    have hroot : p ∈ (if (M a d).isSome then [(a, d)] else []) ↔ (M p.1 p.2).isSome ∧ p = (a, d) := by
      split
      · rename_i h; simp; rintro rfl; exact h
      · rename_i h; simp; rintro h1 rfl; exact h h1
    rw [trav, List.mem_append, List.mem_append, hroot]
    by_cases hd : d ≤ 31
    · rw [mem_trav hM f _ _ (by omega) (hk.kid hd false), mem_trav hM f _ _ (by omega) (hk.kid hd true)]
      constructor
      · rintro (⟨h1, rfl⟩ | ⟨h1, h2, h3⟩ | ⟨h1, h2, h3⟩)
        · exact ⟨h1, Nat.le_refl _, hk.is⟩
        · exact ⟨h1, by omega, by rw [← cut_cut p.1 (Nat.le_succ d), h3, kid_cut hk hd]⟩
        · exact ⟨h1, by omega, by rw [← cut_cut p.1 (Nat.le_succ d), h3, kid_cut hk hd]⟩
      · rintro ⟨h1, h2, h3⟩
        rcases Nat.eq_or_lt_of_le h2 with h4 | h4
        · refine .inl ⟨h1, ?_⟩
          have := (hM _ _ h1).is
          rw [← h4, h3] at this
          exact Prod.ext this.symm h4.symm
        · refine .inr ?_
          have h5 := cut_kid p.1 hd
          rw [h3] at h5
          cases hb : p.1.testBit (31 - d) with
          | false => rw [hb] at h5; exact .inl ⟨h1, h4, h5⟩
          | true => rw [hb] at h5; exact .inr ⟨h1, h4, h5⟩
    · obtain rfl : f = 0 := by omega
      simp only [trav, List.not_mem_nil, or_false]
      constructor
      · rintro ⟨h1, rfl⟩; exact ⟨h1, Nat.le_refl _, hk.is⟩
      · rintro ⟨h1, h2, h3⟩
        have h6 := hM _ _ h1
        have h7 := h6.le
        have h8 : p.2 = d := by omega
        refine ⟨h1, Prod.ext ?_ h8⟩
        have := h6.is
        rw [h8, h3] at this
        exact this.symm
theorem sorted_trav (hM : ∀ a d, (M a d).isSome → Key a d) : ∀ (f a d : Nat), d + f = 33 → Key a d → (trav M f a d).Pairwise ltK
  | 0, a, d, hf, hk => List.Pairwise.nil
  | f + 1, a, d, hf, hk => by
    rw [trav]
    have hbig : ∀ c, ∀ p ∈ trav M f (kid a d c) (d + 1), a ≤ p.1 ∧ d < p.2 ∧ (c = true → a + 2 ^ (31 - d) ≤ p.1) ∧ (c = false → p.1 < a + 2 ^ (31 - d)) := by
      intro c p hp
      by_cases hd : d ≤ 31
      · obtain ⟨h1, h2, h3⟩ := (mem_trav hM f _ _ (by omega) (hk.kid hd c) p).1 hp
        have h4 := cut_ge h3
        refine ⟨?_, by omega, fun hc => ?_, fun hc => ?_⟩
        · have h9 := pow_pos2 (31 - d)
          cases c
          · exact h4
          · have h4' : a + 2 ^ (31 - d) ≤ p.1 := h4
            omega
        · subst hc; exact h4
        · subst hc
          have h3' : cut p.1 (d + 1) = a := h3
          unfold cut at h3'
          rw [show 32 - (d + 1) = 31 - d by omega] at h3'
          have h5 := Nat.div_add_mod p.1 (2 ^ (31 - d))
          have h6 := Nat.mod_lt p.1 (pow_pos2 (31 - d))
          rw [Nat.mul_comm] at h5
          omega
      · obtain rfl : f = 0 := by omega
        simp [trav] at hp
    have hrec : ∀ c, (trav M f (kid a d c) (d + 1)).Pairwise ltK := by
      intro c
      by_cases hd : d ≤ 31
      · exact sorted_trav hM f _ _ (by omega) (hk.kid hd c)
      · obtain rfl : f = 0 := by omega
        exact List.Pairwise.nil
    refine List.pairwise_append.2 ⟨by split <;> simp, List.pairwise_append.2 ⟨hrec false, hrec true, fun p hp q hq => ?_⟩, fun p hp q hq => ?_⟩
    · have h1 := (hbig false p hp).2.2.2 rfl
      have h2 := (hbig true q hq).2.2.1 rfl
      exact .inl (by omega)
    · have e : p = (a, d) := by
        split at hp
        · simpa using hp
        · cases hp
      subst e
      have h1 : a ≤ q.1 ∧ d < q.2 := by
        rcases List.mem_append.1 hq with h | h
        · exact ⟨(hbig false q h).1, (hbig false q h).2.1⟩
        · exact ⟨(hbig true q h).1, (hbig true q h).2.1⟩
      unfold ltK
      dsimp only
      omega
/-- a list of things in order, and what it says of each prefix -/
structure RefOk (E : List ((Nat × Nat) × α)) (M : Nat → Nat → Option α) : Prop where
  sorted : (E.map (·.1)).Pairwise ltK
  key : ∀ e ∈ E, Key e.1.1 e.1.2
  is : ∀ x d v, M x d = some v ↔ ((x, d), v) ∈ E
theorem RefOk.some {E : List ((Nat × Nat) × α)} (h : RefOk E M) (x d : Nat) : (M x d).isSome ↔ (x, d) ∈ E.map (·.1) := by
  rw [Option.isSome_iff_exists]
  constructor
  · rintro ⟨v, hv⟩; exact List.mem_map.2 ⟨_, (h.is x d v).1 hv, rfl⟩
  · intro hm
    obtain ⟨⟨p, v⟩, h1, h2⟩ := List.mem_map.1 hm
    dsimp only at h2; subst h2
    exact ⟨v, (h.is x d v).2 h1⟩
theorem RefOk.keyM {E : List ((Nat × Nat) × α)} (h : RefOk E M) (x d : Nat) (hs : (M x d).isSome) : Key x d := by
  obtain ⟨v, hv⟩ := Option.isSome_iff_exists.1 hs
  exact h.key _ ((h.is x d v).1 hv)
theorem key_ok {a n : Nat} (h : Key a n) : okP a n = true := by rw [okP_iff]; exact ⟨by omega, by have := h.le; omega, by rw [Int.toNat_natCast]; exact h.is⟩
def heldG (M : Nat → Nat → Option α) (a : Nat) (m : Int) : List (Nat × Nat) := if okP a m then trav M 33 a m.toNat else []
theorem trav_fuel (M : Nat → Nat → Option α) (hM : ∀ a d, (M a d).isSome → Key a d) : ∀ (f a d g : Nat), 33 ≤ d + f → trav M (f + g) a d = trav M f a d := by
  have h0 : ∀ (g a d : Nat), 33 ≤ d → trav M g a d = [] := by
    intro g
    induction g with
    | zero => intro _ _ _; rfl
    | succ g ih =>
      intro a d hd
      have hn : (M a d).isSome = false := by
        cases e : (M a d).isSome with
        | false => rfl
        | true => have := (hM a d e).le; omega
      rw [trav, hn, ih _ _ (by omega), ih _ _ (by omega)]; rfl
  intro f
  induction f with
  | zero => intro a d g hd; rw [h0 _ _ _ (by omega)]; rfl
  | succ f ih =>
    intro a d g hd
    rw [Nat.succ_add, trav, trav, ih _ _ _ (by omega), ih _ _ _ (by omega)]
theorem held_filter {E : List ((Nat × Nat) × α)} (h : RefOk E M) (a : Nat) (m : Int) (ha : a < 4294967296) : heldG M a m = (E.map (·.1)).filter (fun p => inP a m p.1 p.2) := by
  unfold heldG
  cases hok : okP a m with
  | false =>
    have : ∀ p ∈ E.map (·.1), ¬ (inP a m p.1 p.2 = true) := by intro p _; simp [inP, hok]
    simp [List.filter_eq_nil_iff.2 this]
  | true =>
    obtain ⟨h1, h2, h3⟩ := okP_iff.1 hok
    simp only [if_true]
    have hk : Key a m.toNat := ⟨by omega, h3, ha⟩
    have e33 : trav M 33 a m.toNat = trav M (33 - m.toNat) a m.toNat := by
      have := trav_fuel M h.keyM (33 - m.toNat) a m.toNat m.toNat (by omega)
      rwa [show 33 - m.toNat + m.toNat = 33 by omega] at this
    rw [e33]
    refine sorted_ext (sorted_trav h.keyM _ _ _ (by omega) hk) (h.sorted.filter _) fun p => ?_
    rw [mem_trav h.keyM _ _ _ (by omega) hk, List.mem_filter, h.some]
    constructor
    · rintro ⟨h4, h5, h6⟩
      have h7 := key_ok (h.keyM p.1 p.2 ((h.some _ _).2 h4))
      refine ⟨h4, ?_⟩
      unfold inP
      rw [hok, h7]
      simp only [Bool.true_and, Bool.and_eq_true, decide_eq_true_eq]
      exact ⟨by omega, h6⟩
    · rintro ⟨h4, h5⟩
      unfold inP at h5
      simp only [Bool.and_eq_true, decide_eq_true_eq] at h5
      exact ⟨h4, by omega, h5.2⟩
end
end Go.Proofs.Ytdhebjeajdohoaa
