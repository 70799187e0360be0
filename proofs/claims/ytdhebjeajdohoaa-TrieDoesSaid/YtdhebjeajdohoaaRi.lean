/- What a trie tells and what the reference's tells: the same. -/
import Derived.Test.YtdhebjeajdohoaaRh
import Derived.Test.YtdhebjeajdohoaaGi
namespace Go.Proofs.Ytdhebjeajdohoaa
open Go.RowKit

theorem delL_no {E : List ((Nat × Nat) × Int)} {a : Nat} {l : Int} (h : hasI E a l = false) : delL E a l = E := by
  unfold delL
  unfold hasI at h
  split
  · rename_i hok
    rw [hok, Bool.true_and, decide_eq_false_iff_not] at h
    unfold delE
    refine List.filter_eq_self.2 fun e he => ?_
    simp only [decide_eq_true_eq]
    exact fun e2 => h (List.mem_map.2 ⟨e, he, e2⟩)
  · rfl
theorem del_at {a m : Nat} : ∀ {E : List ((Nat × Nat) × Int)}, (E.map (·.1)).Pairwise ltK → (a, m) ∈ E.map (·.1) → E.take (idx E a m) ++ E.drop (idx E a m + 1) = delE (a, m) E
  | [], _, h => by cases h
  | e :: r, hs, hm => by
    obtain ⟨h4, h5⟩ := List.pairwise_cons.1 (show (e.1 :: r.map (·.1)).Pairwise ltK from hs)
    by_cases h6 : (a, m) = e.1
    · have hn : ¬ ltI e.1 a (m : Int) = true := fun h7 => ltK_irrefl _ (h6 ▸ (ltI_nat _ _ _).1 h7)
      have hi : idx (e :: r) a m = 0 := by unfold idx; rw [List.takeWhile_cons_of_neg (by exact hn)]; rfl
      rw [hi]
      unfold delE
      rw [List.filter_cons, if_neg (by simp [h6])]
      refine (List.filter_eq_self.2 fun q hq => ?_).symm
      simp only [decide_eq_true_eq]
      intro h7
      have := h4 q.1 (List.mem_map.2 ⟨q, hq, rfl⟩)
      rw [h7, h6] at this
      exact ltK_irrefl _ this
    · have hm' : (a, m) ∈ r.map (·.1) := by
        rcases List.mem_cons.1 hm with h7 | h7
        · exact absurd h7 h6
        · exact h7
      have hl : ltI e.1 a (m : Int) = true := (ltI_nat _ _ _).2 (h4 _ hm')
      have hi : idx (e :: r) a m = idx r a m + 1 := by unfold idx; rw [List.takeWhile_cons_of_pos (by exact hl)]; rfl
      have ih := del_at (a := a) (m := m) h5 hm'
      rw [hi, List.take_succ_cons, List.drop_succ_cons, List.cons_append, ih]
      unfold delE
      rw [List.filter_cons, if_pos (by simp only [decide_eq_true_eq]; exact fun h => h6 h.symm)]
theorem delL_at {E : List ((Nat × Nat) × Int)} {a : Nat} {l : Int} (hs : (E.map (·.1)).Pairwise ltK) (h : hasI E a l = true) : E.take (idx E a l) ++ E.drop (idx E a l + 1) = delL E a l := by
  unfold hasI at h
  simp only [Bool.and_eq_true, decide_eq_true_eq] at h
  obtain ⟨hok, hm⟩ := h
  have hl : l = (l.toNat : Int) := by have := (okP_iff.1 hok).1; omega
  unfold delL
  rw [hok, if_pos rfl]
  rw [hl]
  exact del_at hs hm
theorem idx_key {E : List ((Nat × Nat) × Int)} {a : Nat} {l : Int} (h : fnd E a l = true) : E.getD (idx E a l) default ∈ E ∧ (E.getD (idx E a l) default).1.1 = a ∧ ((E.getD (idx E a l) default).1.2 : Int) = l := by
  have hlt := fnd_lt h
  unfold fnd at h
  simp only [Bool.and_eq_true, decide_eq_true_eq] at h
  exact ⟨by rw [List.getD_eq_getElem?_getD, List.getElem?_eq_getElem hlt]; exact List.getElem_mem _, h.1.2, h.2⟩
theorem get_same {E : List ((Nat × Nat) × Int)} {M : Nat → Nat → Option Int} (h : RefOk E M) (a : Nat) (l : Int) (ha : a < 4294967296) : fnd E a l = (look M a l).isSome ∧ (if fnd E a l then (E.getD (idx E a l) default).2 else 0) = (look M a l).getD 0 := by
  have h1 : fnd E a l = (look M a l).isSome := by rw [look_hasI h, fnd_has h.sorted h.key a l ha]
  refine ⟨h1, ?_⟩
  cases hf : fnd E a l with
  | false =>
    rw [hf] at h1
    cases hl : look M a l with
    | none => rfl
    | some x => rw [hl] at h1; cases h1
  | true =>
    rw [hf] at h1
    obtain ⟨hm, h2, h3⟩ := idx_key hf
    have hk := h.key _ hm
    have hok : okP a l = true := by have := key_ok hk; rw [h2, h3] at this; exact this
    generalize E.getD (idx E a l) default = e at *
    have : M e.1.1 e.1.2 = some e.2 := (h.is _ _ _).2 hm
    unfold look
    rw [hok, if_pos rfl]
    rw [h2, show e.1.2 = l.toNat by omega] at this
    simp [this]
theorem bst_spec {E : List ((Nat × Nat) × Int)} {a : Nat} : ∀ i, (∀ j, bst E a i = some j → j < i ∧ holdsP (E.getD j default).1.1 (E.getD j default).1.2 a = true ∧ ∀ q, q < i → holdsP (E.getD q default).1.1 (E.getD q default).1.2 a = true → (E.getD q default).1.2 ≤ (E.getD j default).1.2) ∧ (bst E a i = none → ∀ q, q < i → holdsP (E.getD q default).1.1 (E.getD q default).1.2 a = false)
  | 0 => ⟨fun _ h => (by cases h), fun _ q h => (by omega)⟩
  | i + 1 => by
    obtain ⟨ih1, ih2⟩ := bst_spec (E := E) (a := a) i
    rw [bst]
    cases hb : bst E a i with
    | none =>
      have ih2 := ih2 hb
      cases hh : holdsP (E.getD i default).1.1 (E.getD i default).1.2 a with
      | false =>
        refine ⟨fun j h => by simp at h, fun _ q hq => ?_⟩
        rcases Nat.lt_succ_iff_lt_or_eq.1 hq with h | rfl
        · exact ih2 q h
        · exact hh
      | true =>
        refine ⟨fun j h => ?_, fun h => by simp at h⟩
        simp only [Bool.and_self, if_true, Option.some.injEq] at h
        subst h
        refine ⟨by omega, hh, fun q hq h2 => ?_⟩
        rcases Nat.lt_succ_iff_lt_or_eq.1 hq with h | rfl
        · rw [ih2 q h] at h2; cases h2
        · exact Nat.le_refl _
    | some k =>
      obtain ⟨k1, k2, k3⟩ := ih1 k hb
      cases hh : holdsP (E.getD i default).1.1 (E.getD i default).1.2 a with
      | false =>
        refine ⟨fun j h => ?_, fun h => by simp at h⟩
        simp only [Bool.false_and, Bool.false_eq_true, if_false, Option.some.injEq] at h
        subst h
        refine ⟨by omega, k2, fun q hq h2 => ?_⟩
        rcases Nat.lt_succ_iff_lt_or_eq.1 hq with h | rfl
        · exact k3 q h h2
        · rw [hh] at h2; cases h2
      | true =>
        by_cases hlt : (E.getD k default).1.2 < (E.getD i default).1.2
        · refine ⟨fun j h => ?_, fun h => by simp only [hlt, decide_true, Bool.and_self, if_true, reduceCtorEq] at h⟩
          simp only [hlt, decide_true, Bool.and_self, if_true, Option.some.injEq] at h
          subst h
          refine ⟨by omega, hh, fun q hq h2 => ?_⟩
          rcases Nat.lt_succ_iff_lt_or_eq.1 hq with h | rfl
          · have := k3 q h h2; omega
          · exact Nat.le_refl _
        · refine ⟨fun j h => ?_, fun h => by simp only [hlt, decide_false, Bool.and_false, Bool.false_eq_true, if_false, reduceCtorEq] at h⟩
          simp only [hlt, decide_false, Bool.and_false, Bool.false_eq_true, if_false, Option.some.injEq] at h
          subst h
          refine ⟨by omega, k2, fun q hq h2 => ?_⟩
          rcases Nat.lt_succ_iff_lt_or_eq.1 hq with h | rfl
          · exact k3 q h h2
          · omega
theorem lng_spec {M : Nat → Nat → Option Int} {a : Nat} : ∀ i, (∀ j, lng M a i = some j → j < i ∧ (M (cut a j) j).isSome ∧ ∀ q, j < q → q < i → M (cut a q) q = none) ∧ (lng M a i = none → ∀ q, q < i → M (cut a q) q = none)
  | 0 => ⟨fun _ h => (by cases h), fun _ q h => (by omega)⟩
  | i + 1 => by
    obtain ⟨ih1, ih2⟩ := lng_spec (M := M) (a := a) i
    rw [lng]
    by_cases hs : (M (cut a i) i).isSome = true
    · rw [if_pos hs]
      refine ⟨fun j h => ?_, fun h => by cases h⟩
      injection h with h
      subst h
      exact ⟨by omega, hs, fun q h1 h2 => by omega⟩
    · rw [if_neg hs]
      have hn : M (cut a i) i = none := by cases h : M (cut a i) i with | none => rfl | some x => rw [h] at hs; exact absurd rfl hs
      refine ⟨fun j h => ?_, fun h q hq => ?_⟩
      · obtain ⟨h1, h2, h3⟩ := ih1 j h
        refine ⟨by omega, h2, fun q h4 h5 => ?_⟩
        rcases Nat.lt_succ_iff_lt_or_eq.1 h5 with h6 | rfl
        · exact h3 q h4 h6
        · exact hn
      · rcases Nat.lt_succ_iff_lt_or_eq.1 hq with h6 | rfl
        · exact ih2 h q h6
        · exact hn
theorem long_same {E : List ((Nat × Nat) × Int)} {M : Nat → Nat → Option Int} (h : RefOk E M) (a : Nat) : (match bst E a E.length with | none => #[pfx 0 0, Value.int .i64 0, .bool false] | some j => #[pfx (E.getD j default).1.1 (E.getD j default).1.2, .int .i64 (E.getD j default).2, .bool true]) = (match lng M a 33 with | none => #[pfx 0 0, .int .i64 (0 : Int), .bool false] | some j => #[pfx (cut a j) j, .int .i64 ((M (cut a j) j).getD (0 : Int)), .bool true]) := by
  obtain ⟨b1, b2⟩ := bst_spec (E := E) (a := a) E.length
  obtain ⟨l1, l2⟩ := lng_spec (M := M) (a := a) 33
  have hin : ∀ m v, M (cut a m) m = some v → ∃ q, q < E.length ∧ E.getD q default = ((cut a m, m), v) ∧ holdsP (cut a m) m a = true := fun m v hv => by
    have hm := (h.is _ _ _).1 hv
    obtain ⟨q, hq, e⟩ := List.getElem_of_mem hm
    refine ⟨q, hq, by rw [List.getD_eq_getElem?_getD, List.getElem?_eq_getElem hq]; exact e, ?_⟩
    have := key_ok (h.key _ hm)
    unfold holdsP
    rw [this]; simp
  have hout : ∀ q, q < E.length → holdsP (E.getD q default).1.1 (E.getD q default).1.2 a = true → M (cut a (E.getD q default).1.2) (E.getD q default).1.2 = some (E.getD q default).2 ∧ cut a (E.getD q default).1.2 = (E.getD q default).1.1 ∧ (E.getD q default).1.2 < 33 := fun q hq hh => by
    have hm : E.getD q default ∈ E := by rw [List.getD_eq_getElem?_getD, List.getElem?_eq_getElem hq]; exact List.getElem_mem _
    have hc : cut a (E.getD q default).1.2 = (E.getD q default).1.1 := by
      unfold holdsP at hh
      simp only [Bool.and_eq_true, decide_eq_true_eq, Int.toNat_natCast] at hh
      exact hh.2
    refine ⟨by rw [hc]; exact (h.is _ _ _).2 hm, hc, by have := (h.key _ hm).le; omega⟩
  cases hb : bst E a E.length with
  | none =>
    have hn : lng M a 33 = none := by
      cases hl : lng M a 33 with
      | none => rfl
      | some m =>
        obtain ⟨-, h1, -⟩ := l1 m hl
        obtain ⟨v, hv⟩ := Option.isSome_iff_exists.1 h1
        obtain ⟨q, hq, e, hh⟩ := hin m v hv
        have := b2 hb q hq
        rw [e, hh] at this; cases this
    rw [hn]
  | some j =>
    obtain ⟨h1, h2, h3⟩ := b1 j hb
    obtain ⟨h4, h5, h6⟩ := hout j h1 h2
    have hn : lng M a 33 = some (E.getD j default).1.2 := by
      cases hl : lng M a 33 with
      | none => have := l2 hl _ h6; rw [this] at h4; cases h4
      | some m =>
        obtain ⟨m1, m2, m3⟩ := l1 m hl
        obtain ⟨v, hv⟩ := Option.isSome_iff_exists.1 m2
        obtain ⟨q, hq, e, hh⟩ := hin m v hv
        have m4 := h3 q hq (by rw [e]; exact hh)
        rw [e] at m4
        by_cases hlt : m < (E.getD j default).1.2
        · have := m3 _ hlt h6; rw [this] at h4; cases h4
        · congr 1; dsimp only at m4; omega
    rw [hn]
    dsimp only
    rw [h4, h5]
    rfl
end Go.Proofs.Ytdhebjeajdohoaa
