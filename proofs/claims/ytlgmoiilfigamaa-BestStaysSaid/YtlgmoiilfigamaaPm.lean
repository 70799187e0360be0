/- What least and meds leave, as keep. -/
import Derived.Test.YtlgmoiilfigamaaWf
namespace Go.Proofs.Ytlgmoiilfigamaa

def lookOf (x : Rt) : Look := ⟨prefOf x, plen x.path, x.o, pfirst x.path, medOf x, x.r, x.i⟩
def lookC (c : Cd) : Look := lookOf c.1

theorem minOf_le (f : Rt → Int) (L : List Cd) (c : Cd) (h : c ∈ L) : minOf f L ≤ f c.1 := by
  have key : ∀ (r : List Cd) (a : Int), (r.foldl (fun a d => min a (f d.1)) a ≤ a) ∧ ∀ c ∈ r, r.foldl (fun a d => min a (f d.1)) a ≤ f c.1 := by
    intro r
    induction r with
    | nil => intro a; simp
    | cons d r ih =>
      intro a
      simp only [List.foldl_cons]
      obtain ⟨h1, h2⟩ := ih (min a (f d.1))
      refine ⟨by omega, ?_⟩
      intro c hc
      rcases List.mem_cons.1 hc with rfl | hc
      · omega
      · exact h2 c hc
  cases L with
  | nil => cases h
  | cons d r =>
    obtain ⟨h1, h2⟩ := key r (f d.1)
    rcases List.mem_cons.1 h with rfl | hc
    · exact h1
    · exact h2 c hc
theorem minOf_mem (f : Rt → Int) (L : List Cd) (hne : L ≠ []) : ∃ c ∈ L, f c.1 = minOf f L := by
  have key : ∀ (r : List Cd) (a : Int), r.foldl (fun a d => min a (f d.1)) a = a ∨ ∃ c ∈ r, f c.1 = r.foldl (fun a d => min a (f d.1)) a := by
    intro r
    induction r with
    | nil => intro a; simp
    | cons d r ih =>
      intro a
      simp only [List.foldl_cons]
      rcases ih (min a (f d.1)) with h | ⟨c, hc, h⟩
      · rw [h]
        by_cases hm : a ≤ f d.1
        · exact .inl (by omega)
        · exact .inr ⟨d, by simp, by omega⟩
      · exact .inr ⟨c, List.mem_cons_of_mem _ hc, h⟩
  cases L with
  | nil => exact absurd rfl hne
  | cons d r =>
    rcases key r (f d.1) with h | ⟨c, hc, h⟩
    · exact ⟨d, by simp, h.symm⟩
    · exact ⟨c, List.mem_cons_of_mem _ hc, h⟩
theorem leastOf_keep (f : Rt → Int) (s : Nat) (hs : ∀ x y, worse s (lookOf x) (lookOf y) = decide (f y < f x)) (L : List Cd) : leastOf' f L = keep lookC s L := by
  unfold leastOf' keep
  apply List.filter_congr
  intro c hc
  rw [Bool.eq_iff_iff]
  simp only [Bool.not_eq_true', bne_eq_false_iff_eq, List.all_eq_true]
  unfold lookC
  simp only [hs, decide_eq_false_iff_not]
  constructor
  · intro h k hk
    have := minOf_le f L k hk
    omega
  · intro h
    have hne : L ≠ [] := by intro e; rw [e] at hc; cases hc
    obtain ⟨k, hk, e⟩ := minOf_mem f L hne
    have h1 := h k hk
    have h2 := minOf_le f L c hc
    omega
theorem least31_keep (L : List Cd) : leastOf' f31 L = keep lookC 0 L := leastOf_keep f31 0 (by intro x y; unfold worse lookOf f31; simp) L
theorem least32_keep (L : List Cd) : leastOf' f32 L = keep lookC 1 L := leastOf_keep f32 1 (by intro x y; unfold worse lookOf f32; simp) L
theorem least34_keep (L : List Cd) : leastOf' f34 L = keep lookC 2 L := leastOf_keep f34 2 (by intro x y; unfold worse lookOf f34; simp) L
theorem least22_keep (L : List Cd) : leastOf' f22 L = keep lookC 4 L := leastOf_keep f22 4 (by intro x y; unfold worse lookOf f22; simp) L
theorem least23_keep (L : List Cd) : leastOf' f23 L = keep lookC 5 L := leastOf_keep f23 5 (by intro x y; unfold worse lookOf f23; simp) L

/-- the least Med of those that begin with a -/
def mmStep (a : Int) (o : Option Int) (c : Cd) : Option Int :=
  if pfirst c.1.path = a then (match o with | none => some (medOf c.1) | some n => if medOf c.1 < n then some (medOf c.1) else some n) else o
def mm (a : Int) (L : List Cd) : Option Int := L.foldl (mmStep a) none
theorem mm_take (a : Int) (L : List Cd) (k : Nat) (h : k < L.length) : mm a (L.take (k + 1)) = mmStep a (mm a (L.take k)) (L.getD k default) := by
  unfold mm
  rw [List.take_succ_eq_append_getElem h, List.foldl_append]
  simp [h]
theorem mm_spec (a : Int) (L : List Cd) : (∀ n, mm a L = some n → (∃ c ∈ L, pfirst c.1.path = a ∧ medOf c.1 = n) ∧ ∀ c ∈ L, pfirst c.1.path = a → n ≤ medOf c.1) ∧ (mm a L = none → ∀ c ∈ L, pfirst c.1.path ≠ a) := by
  have key : ∀ (R P : List Cd) (o : Option Int), ((∀ n, o = some n → (∃ c ∈ P, pfirst c.1.path = a ∧ medOf c.1 = n) ∧ ∀ c ∈ P, pfirst c.1.path = a → n ≤ medOf c.1) ∧ (o = none → ∀ c ∈ P, pfirst c.1.path ≠ a)) →
      ((∀ n, R.foldl (mmStep a) o = some n → (∃ c ∈ P ++ R, pfirst c.1.path = a ∧ medOf c.1 = n) ∧ ∀ c ∈ P ++ R, pfirst c.1.path = a → n ≤ medOf c.1) ∧ (R.foldl (mmStep a) o = none → ∀ c ∈ P ++ R, pfirst c.1.path ≠ a)) := by
    intro R
    induction R with
    | nil => intro P o h; simpa using h
    | cons d R ih =>
      intro P o h
      obtain ⟨h1, h2⟩ := h
      have := ih (P ++ [d]) (mmStep a o d) ?_
      · simpa using this
      · unfold mmStep
        by_cases hp : pfirst d.1.path = a
        · rw [if_pos hp]
          cases o with
          | none =>
            refine ⟨?_, by simp⟩
            rintro n ⟨⟩
            refine ⟨⟨d, by simp, hp, rfl⟩, ?_⟩
            intro c hc hpc
            rcases List.mem_append.1 hc with hc | hc
            · exact absurd hpc (h2 rfl c hc)
            · simp at hc; rw [hc]; exact Int.le_refl _
          | some m =>
            obtain ⟨⟨c0, hc0, hq0, hm0⟩, hl⟩ := h1 m rfl
            dsimp only
            by_cases hlt : medOf d.1 < m
            · rw [if_pos hlt]
              refine ⟨?_, by simp⟩
              rintro n ⟨⟩
              refine ⟨⟨d, by simp, hp, rfl⟩, ?_⟩
              intro c hc hpc
              rcases List.mem_append.1 hc with hc | hc
              · have := hl c hc hpc; omega
              · simp at hc; rw [hc]; exact Int.le_refl _
            · rw [if_neg hlt]
              refine ⟨?_, by simp⟩
              rintro n ⟨⟩
              refine ⟨⟨c0, by simp [hc0], hq0, hm0⟩, ?_⟩
              intro c hc hpc
              rcases List.mem_append.1 hc with hc | hc
              · exact hl c hc hpc
              · simp at hc; rw [hc]; omega
        · rw [if_neg hp]
          refine ⟨?_, ?_⟩
          · intro n hn
            obtain ⟨⟨c0, hc0, hq0, hm0⟩, hl⟩ := h1 n hn
            refine ⟨⟨c0, by simp [hc0], hq0, hm0⟩, ?_⟩
            intro c hc hpc
            rcases List.mem_append.1 hc with hc | hc
            · exact hl c hc hpc
            · simp at hc; rw [hc] at hpc; exact absurd hpc hp
          · intro hn c hc
            rcases List.mem_append.1 hc with hc | hc
            · exact h2 hn c hc
            · simp at hc; rw [hc]; exact hp
  have := key L [] none ⟨by simp, by simp⟩
  simpa [mm] using this
def medsOf (L : List Cd) : List Cd := L.filter (fun c => !(medOf c.1 != (mm (pfirst c.1.path) L).getD 0))
theorem medsOf_keep (L : List Cd) : medsOf L = keep lookC 3 L := by
  unfold medsOf keep
  apply List.filter_congr
  intro c hc
  rw [Bool.eq_iff_iff]
  simp only [Bool.not_eq_true', bne_eq_false_iff_eq, List.all_eq_true]
  unfold lookC lookOf worse
  simp only [Bool.and_eq_false_iff, decide_eq_false_iff_not]
  obtain ⟨h1, h2⟩ := mm_spec (pfirst c.1.path) L
  cases hm : mm (pfirst c.1.path) L with
  | none => exact absurd rfl (h2 hm c hc)
  | some n =>
    obtain ⟨⟨c0, hc0, hq0, hm0⟩, hl⟩ := h1 n hm
    simp only [Option.getD_some]
    constructor
    · intro h k hk
      by_cases hp : pfirst c.1.path = pfirst k.1.path
      · exact .inr (by have := hl k hk hp.symm; omega)
      · exact .inl hp
    · intro h
      have h3 := hl c hc rfl
      rcases h c0 hc0 with h | h
      · exact absurd hq0.symm h
      · omega
end Go.Proofs.Ytlgmoiilfigamaa
