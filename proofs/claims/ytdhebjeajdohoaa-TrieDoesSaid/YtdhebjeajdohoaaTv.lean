/- Lists of things in order: a thing is set, a thing is taken away. -/
import Derived.Test.YtdhebjeajdohoaaTq
namespace Go.Proofs.Ytdhebjeajdohoaa
open Go.RowKit

instance (x y : Nat × Nat) : Decidable (ltK x y) := by unfold ltK; exact inferInstance
section
variable {α : Type}
def insE (k : Nat × Nat) (v : α) : List ((Nat × Nat) × α) → List ((Nat × Nat) × α)
  | [] => [(k, v)]
  | e :: r => if ltK e.1 k then e :: insE k v r else if e.1 = k then (k, v) :: r else (k, v) :: e :: r
def delE (k : Nat × Nat) (E : List ((Nat × Nat) × α)) : List ((Nat × Nat) × α) := E.filter (fun e => decide (e.1 ≠ k))
theorem ltK_or {x y : Nat × Nat} (h : ¬ ltK x y) (hn : x ≠ y) : ltK y x := by
  unfold ltK at *
  have : ¬ (x.1 = y.1 ∧ x.2 = y.2) := fun e => hn (Prod.ext e.1 e.2)
  omega
theorem ins_keys (k : Nat × Nat) (v : α) : ∀ (E : List ((Nat × Nat) × α)) (q : Nat × Nat), q ∈ (insE k v E).map (·.1) ↔ q = k ∨ q ∈ E.map (·.1)
  | [], q => by simp [insE]
  | e :: r, q => by
    unfold insE
    split
    · rw [List.map_cons, List.mem_cons, ins_keys k v r q, List.map_cons, List.mem_cons]
      constructor
      · rintro (h | h | h) <;> simp [h]
      · rintro (h | h | h) <;> simp [h]
    · split
      · rename_i h; simp [h]
      · simp
theorem ins_sorted (k : Nat × Nat) (v : α) : ∀ (E : List ((Nat × Nat) × α)), (E.map (·.1)).Pairwise ltK → ((insE k v E).map (·.1)).Pairwise ltK
  | [], _ => by simp [insE]
  | e :: r, h => by
    obtain ⟨h1, h2⟩ := List.pairwise_cons.1 (show (e.1 :: r.map (·.1)).Pairwise ltK from h)
    unfold insE
    split
    · rename_i hl
      refine List.pairwise_cons.2 ⟨fun q hq => ?_, ins_sorted k v r h2⟩
      rcases (ins_keys k v r q).1 hq with rfl | hq
      · exact hl
      · exact h1 q hq
    · rename_i hl
      split
      · rename_i he
        exact List.pairwise_cons.2 ⟨fun q hq => he ▸ h1 q hq, h2⟩
      · rename_i he
        have hk := ltK_or hl he
        refine List.pairwise_cons.2 ⟨fun q hq => ?_, h⟩
        rcases List.mem_cons.1 hq with rfl | hq
        · exact hk
        · exact ltK_trans hk (h1 q hq)
theorem ins_mem (k : Nat × Nat) (v : α) : ∀ (E : List ((Nat × Nat) × α)), (E.map (·.1)).Pairwise ltK → ∀ (q : Nat × Nat) (u : α), (q, u) ∈ insE k v E ↔ if q = k then u = v else (q, u) ∈ E
  | [], _, q, u => by
    unfold insE
    by_cases h : q = k
    · subst h; simp
    · simp [h]
  | e :: r, hs, q, u => by
    obtain ⟨h1, h2⟩ := List.pairwise_cons.1 (show (e.1 :: r.map (·.1)).Pairwise ltK from hs)
    have hnot : ∀ {q : Nat × Nat} {u : α}, (q, u) ∈ r → ltK e.1 q := fun hm => h1 _ (List.mem_map.2 ⟨_, hm, rfl⟩)
    unfold insE
    split
    · rename_i hl
      rw [List.mem_cons, ins_mem k v r h2 q u, List.mem_cons]
      by_cases hq : q = k
      · subst hq
        simp only [if_true]
        constructor
        · rintro (h | h)
          · exact absurd (by rw [← h] at hl; exact hl) (ltK_irrefl _)
          · exact h
        · exact .inr
      · simp only [if_neg hq]
    · rename_i hl
      split
      · rename_i he
        rw [List.mem_cons, List.mem_cons]
        by_cases hq : q = k
        · subst hq
          simp only [if_true]
          constructor
          · rintro (h | h)
            · injection h
            · exact absurd (he ▸ hnot h) (ltK_irrefl _)
          · intro h; exact .inl (by rw [h])
        · simp only [if_neg hq]
          constructor
          · rintro (h | h)
            · exact absurd (Prod.mk.inj h).1 hq
            · exact .inr h
          · rintro (h | h)
            · exact absurd (by rw [← he, ← h]) hq
            · exact .inr h
      · rename_i he
        have hk := ltK_or hl he
        rw [List.mem_cons]
        by_cases hq : q = k
        · subst hq
          simp only [if_true]
          constructor
          · rintro (h | h)
            · injection h
            · rcases List.mem_cons.1 h with h | h
              · exact absurd (by rw [← h]) he
              · exact absurd (ltK_trans hk (hnot h)) (ltK_irrefl _)
          · intro h; exact .inl (by rw [h])
        · simp only [if_neg hq]
          constructor
          · rintro (h | h)
            · exact absurd (Prod.mk.inj h).1 hq
            · exact h
          · exact .inr
variable {M : Nat → Nat → Option α}
theorem RefOk.nil : RefOk ([] : List ((Nat × Nat) × α)) (fun _ _ => none) := ⟨List.Pairwise.nil, by simp, by simp⟩
theorem RefOk.put {E : List ((Nat × Nat) × α)} (h : RefOk E M) {k : Nat × Nat} (hk : Key k.1 k.2) (v : α) : RefOk (insE k v E) (upd M k.1 k.2 (Option.some v)) := by
  refine ⟨ins_sorted k v E h.sorted, fun e he => ?_, fun x d u => ?_⟩
  · rcases (ins_keys k v E e.1).1 (List.mem_map.2 ⟨e, he, rfl⟩) with h1 | h1
    · rw [h1]; exact hk
    · obtain ⟨e2, h2, h3⟩ := List.mem_map.1 h1
      rw [← h3]; exact h.key e2 h2
  · rw [ins_mem k v E h.sorted]
    by_cases hq : (x, d) = k
    · subst hq
      simp only [upd_same, if_true, Option.some.injEq]
      exact eq_comm
    · rw [upd_other _ _ (fun e => hq (Prod.ext e.1 e.2)), if_neg hq, h.is]
theorem del_keys (k : Nat × Nat) (E : List ((Nat × Nat) × α)) : (delE k E).map (·.1) = (E.map (·.1)).filter (fun q => decide (q ≠ k)) := by
  unfold delE
  induction E with
  | nil => rfl
  | cons e r ih =>
    simp only [List.filter_cons, List.map_cons]
    split <;> simp_all
theorem RefOk.del {E : List ((Nat × Nat) × α)} (h : RefOk E M) (k : Nat × Nat) : RefOk (delE k E) (upd M k.1 k.2 none) := by
  refine ⟨by rw [del_keys]; exact h.sorted.filter _, fun e he => h.key e (List.mem_filter.1 he).1, fun x d u => ?_⟩
  unfold delE
  rw [List.mem_filter]
  by_cases hq : (x, d) = k
  · subst hq; simp [upd_same]
  · rw [upd_other _ _ (fun e => hq (Prod.ext e.1 e.2)), h.is]
    simp [hq]
theorem ins_length (k : Nat × Nat) (v : α) : ∀ (E : List ((Nat × Nat) × α)), (E.map (·.1)).Pairwise ltK → (insE k v E).length = if k ∈ E.map (·.1) then E.length else E.length + 1
  | [], _ => by simp [insE]
  | e :: r, hs => by
    obtain ⟨h1, h2⟩ := List.pairwise_cons.1 (show (e.1 :: r.map (·.1)).Pairwise ltK from hs)
    unfold insE
    split
    · rename_i hl
      have hne : k ≠ e.1 := fun h => ltK_irrefl _ (h ▸ hl)
      rw [List.length_cons, ins_length k v r h2, List.map_cons]
      have : (k ∈ e.1 :: r.map (·.1)) ↔ k ∈ r.map (·.1) := by simp [hne]
      simp only [this]
      split <;> simp
    · rename_i hl
      split
      · rename_i he; rw [if_pos (by simp [he])]; rfl
      · rename_i he
        have hk := ltK_or hl he
        rw [if_neg]
        · rfl
        · rw [List.map_cons, List.mem_cons]
          rintro (h | h)
          · exact he h.symm
          · exact ltK_irrefl _ (ltK_trans hk (h1 _ h))
theorem del_length (k : Nat × Nat) : ∀ (E : List ((Nat × Nat) × α)), (E.map (·.1)).Pairwise ltK → (delE k E).length + (if k ∈ E.map (·.1) then 1 else 0) = E.length
  | [], _ => by simp [delE]
  | e :: r, hs => by
    obtain ⟨h1, h2⟩ := List.pairwise_cons.1 (show (e.1 :: r.map (·.1)).Pairwise ltK from hs)
    have ih := del_length k r h2
    unfold delE at *
    rw [List.filter_cons, List.map_cons]
    by_cases he : e.1 = k
    · have hn : k ∉ r.map (·.1) := fun h => ltK_irrefl _ (h1 k h |> fun x => he ▸ x)
      rw [if_neg hn] at ih
      simp [he] at ih ⊢
      exact ih
    · have : (k ∈ e.1 :: r.map (·.1)) ↔ k ∈ r.map (·.1) := by simp [Ne.symm he]
      simp only [this]
      simp only [ne_eq] at ih
      simp only [he, ne_eq, not_false_eq_true, decide_true, if_true, List.length_cons]
      omega
theorem RefOk.in00 {E : List ((Nat × Nat) × α)} (h : RefOk E M) : (E.map (·.1)).filter (fun p => inP 0 0 p.1 p.2) = E.map (·.1) := by
  refine List.filter_eq_self.2 fun p hp => ?_
  obtain ⟨e, he, rfl⟩ := List.mem_map.1 hp
  have hk := h.key e he
  unfold inP
  rw [key_ok hk, show okP 0 0 = true by decide]
  simp [cut_0 hk.lt]
end
end Go.Proofs.Ytdhebjeajdohoaa
