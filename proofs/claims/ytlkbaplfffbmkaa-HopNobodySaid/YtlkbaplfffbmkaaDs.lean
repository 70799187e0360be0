/- The unlike ones of a list, as a map's keys are laid. -/
import Derived.Test.YtlkbaplfffbmkaaMap
namespace Go.Proofs.Ytlkbaplfffbmkaa
section
variable {κ : Type} [DecidableEq κ]
def addK (S : List κ) (x : κ) : List κ := if x ∈ S then S else S ++ [x]
def keysOf (L : List κ) : List κ := L.foldl addK []
theorem keysOf_snoc (L : List κ) (x : κ) : keysOf (L ++ [x]) = addK (keysOf L) x := by unfold keysOf; rw [List.foldl_append]; rfl
theorem keysOf_succ {α : Type} [Inhabited α] (f : α → κ) {L : List α} {i : Nat} (h : i < L.length) : keysOf ((L.take (i + 1)).map f) = addK (keysOf ((L.take i).map f)) (f (L.getD i default)) := by
  rw [List.take_succ_eq_append_getElem h, List.map_append, List.map_singleton, keysOf_snoc]
  simp [List.getD_eq_getElem?_getD, h]
omit [DecidableEq κ] in
theorem snoc_list {P : List κ → Prop} (h0 : P []) (h1 : ∀ L x, P L → P (L ++ [x])) : ∀ L, P L := by
  intro L
  have : ∀ n (L : List κ), L.length = n → P L := by
    intro n
    induction n with
    | zero => intro L h; rw [List.length_eq_zero_iff.1 h]; exact h0
    | succ n ih =>
      intro L h
      have hne : L ≠ [] := by rintro rfl; simp at h
      rw [← List.dropLast_concat_getLast hne]
      exact h1 _ _ (ih _ (by simp; omega))
  exact this _ _ rfl
theorem keysOf_mem : ∀ (L : List κ) (y : κ), y ∈ keysOf L ↔ y ∈ L := by
  refine snoc_list (fun y => Iff.rfl) fun L x ih y => ?_
  rw [keysOf_snoc]
  unfold addK
  split
  · rename_i h
    rw [ih, List.mem_append, List.mem_singleton]
    refine ⟨.inl, ?_⟩
    rintro (h1 | rfl)
    · exact h1
    · exact (ih _).1 h
  · rw [List.mem_append, List.mem_append, ih]
theorem keysOf_len : ∀ L : List κ, (L.Nodup → (keysOf L).length = L.length) ∧ (¬ L.Nodup → (keysOf L).length < L.length) ∧ (keysOf L).length ≤ L.length := by
  refine snoc_list ⟨fun _ => rfl, fun h => absurd List.nodup_nil h, Nat.le_refl _⟩ fun L x ih => ?_
  obtain ⟨h1, h2, h3⟩ := ih
  rw [keysOf_snoc]
  unfold addK
  by_cases hx : x ∈ keysOf L
  · rw [if_pos hx]
    have hm := (keysOf_mem L x).1 hx
    refine ⟨fun h => ?_, fun _ => by simp; omega, by simp; omega⟩
    rw [List.nodup_append] at h
    exact absurd rfl (h.2.2 x hm x (by simp))
  · rw [if_neg hx]
    have hm : x ∉ L := fun h => hx ((keysOf_mem L x).2 h)
    refine ⟨fun h => ?_, fun h => ?_, by simp; omega⟩
    · rw [List.nodup_append] at h
      simp [h1 h.1]
    · have : ¬ L.Nodup := fun hn => h (by rw [List.nodup_append]; exact ⟨hn, by simp, fun a ha b hb => by simp at hb; subst hb; rintro rfl; exact hm ha⟩)
      simp
      exact h2 this
theorem put_keysOf {l : List (MR.Ent κ)} {x : κ} (v : Value) (c : Nat) : (MR.put l x v c).map (·.1) = addK (l.map (·.1)) x := by
  unfold MR.put addK
  split
  · rw [List.map_map]
    refine List.map_congr_left fun e _ => ?_
    simp only [Function.comp]
    split
    · rename_i h; exact h.symm
    · rfl
  · simp

omit [DecidableEq κ] in
theorem nodup_get {α : Type} [Inhabited α] {f : α → κ} {L : List α} : (L.map f).Nodup ↔ ∀ k i, k < i → i < L.length → f (L.getD k default) ≠ f (L.getD i default) := by
  rw [List.nodup_iff_pairwise_ne, List.pairwise_iff_getElem]
  constructor
  · intro h k i hk hi
    have := h k i (by simp; omega) (by simpa using hi) hk
    simpa [List.getD_eq_getElem?_getD, List.getElem?_eq_getElem hi, List.getElem?_eq_getElem (show k < L.length by omega)] using this
  · intro h k i hk hi hki
    have hi' : i < L.length := by simpa using hi
    have := h k i hki hi'
    simpa [List.getD_eq_getElem?_getD, List.getElem?_eq_getElem hi', List.getElem?_eq_getElem (show k < L.length by omega)] using this
end
end Go.Proofs.Ytlkbaplfffbmkaa
