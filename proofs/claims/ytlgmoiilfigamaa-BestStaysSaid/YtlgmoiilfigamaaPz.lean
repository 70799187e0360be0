/- What is left behind the criteria hangs on what is looked at alone; the laws of the best one on plain data. -/
import Derived.Test.YtlgmoiilfigamaaWx
namespace Go.Proofs.Ytlgmoiilfigamaa

section
variable {α : Type} (f : α → Look)
theorem mem_cut_iff {l : List α} {c : α} : ∀ n, c ∈ cut f n l ↔ c ∈ l ∧ f c ∈ cut id n (l.map f)
  | 0 => by rw [cut_zero, cut_zero]; exact ⟨fun h => ⟨h, List.mem_map.2 ⟨c, h, rfl⟩⟩, fun h => h.1⟩
  | n + 1 => by
    rw [cut_succ, cut_succ, mem_keep, mem_keep, mem_cut_iff n]
    have hm : cut id n (l.map f) = (cut f n l).map f := cut_map id f l n
    constructor
    · rintro ⟨⟨h1, h2⟩, h3⟩
      refine ⟨h1, h2, fun k hk => ?_⟩
      rw [hm] at hk
      obtain ⟨x, hx, rfl⟩ := List.mem_map.1 hk
      exact h3 x hx
    · rintro ⟨h1, h2, h3⟩
      exact ⟨⟨h1, h2⟩, fun k hk => h3 (f k) (by rw [hm]; exact List.mem_map.2 ⟨k, hk, rfl⟩)⟩
theorem mem_cut_perm {l m : List α} (h : l.Perm m) {c : α} (n : Nat) : c ∈ cut f n l ↔ c ∈ cut f n m := (cut_perm f h n).mem_iff
end

/-- the places left: those whose looks are left -/
theorem mem_cutI {L : List Rt} {s i : Nat} : i ∈ cutI L s ↔ i < L.length ∧ lookI L i ∈ cut id s (L.map lookOf) := by
  unfold cutI
  rw [mem_cut_iff]
  have : (List.range L.length).map (lookI L) = L.map lookOf := by
    apply List.ext_getElem
    · simp
    · intro j h1 h2
      simp at h1
      simp [lookI, List.getD_eq_getElem?_getD, h1]
  rw [this]
  simp
theorem sorted_range_head : ∀ (l : List Nat) (n : Nat), l.Sublist (List.range n) → ∀ i ∈ l, l.getD 0 default ≤ i
  | [], _, _, i, h => by cases h
  | a :: r, n, hs, i, h => by
    have hp : (a :: r).Pairwise (· < ·) := (List.pairwise_lt_range (n := n)).sublist hs
    rcases List.mem_cons.1 h with rfl | h
    · simp
    · have := List.rel_of_pairwise_cons hp h
      simp; omega
/-- the best one's place is the first of those that are left -/
theorem bestN_le {L : List Rt} {i : Nat} (h : i ∈ cutI L 6) : bestN L ≤ i := by
  have hL : L ≠ [] := by rintro rfl; rw [cutI_nil] at h; cases h
  rw [← cutI_head L hL]
  exact sorted_range_head _ _ (cut_sub (f := lookI L) (List.range L.length) 6) i h
theorem bestN_mem {L : List Rt} (hL : L ≠ []) : bestN L ∈ cutI L 6 := by
  rw [← cutI_head L hL]
  have := cutI_ne hL 6
  cases hm : cutI L 6 with
  | nil => exact absurd hm this
  | cons a r => simp
theorem bestN_eq {L : List Rt} {i : Nat} (h : i ∈ cutI L 6) (hlt : ∀ j, j < i → j ∉ cutI L 6) : bestN L = i := by
  have hL : L ≠ [] := by rintro rfl; rw [cutI_nil] at h; cases h
  have h1 := bestN_le h
  rcases Nat.lt_or_ge (bestN L) i with h2 | h2
  · exact absurd (bestN_mem hL) (hlt _ h2)
  · omega

/-! ### rank -/
theorem perm_erase {L : List Rt} {i : Nat} (h : i < L.length) : (L.getD i default :: L.eraseIdx i).Perm L := by
  have : L.getD i default = L[i] := by simp [List.getD_eq_getElem?_getD, h]
  rw [this, List.eraseIdx_eq_take_drop_succ]
  have h2 : L = L.take i ++ L[i] :: L.drop (i + 1) := by rw [← List.drop_eq_getElem_cons h, List.take_append_drop]
  exact (List.perm_middle.symm).trans (List.Perm.of_eq h2.symm)
theorem rank_perm : ∀ (n : Nat) (L : List Rt), L.length = n → (rank n L).Perm L
  | 0, L, h => by rw [List.length_eq_zero_iff.1 h]; exact List.Perm.refl _
  | n + 1, L, h => by
    have hne : L ≠ [] := by intro e; rw [e] at h; simp at h
    obtain ⟨hb, -⟩ := best_head L hne
    exact ((rank_perm n (L.eraseIdx (bestN L)) (by rw [List.length_eraseIdx]; split <;> omega)).cons _).trans (perm_erase hb)
theorem bestN_rank (L : List Rt) (hL : L ≠ []) : bestN (rank L.length L) = 0 := by
  have hp := rank_perm L.length L rfl
  obtain ⟨n, hn⟩ : ∃ n, L.length = n + 1 := ⟨L.length - 1, by have := List.length_pos_iff.2 hL; omega⟩
  rw [hn] at hp ⊢
  refine bestN_eq ?_ (fun j hj => absurd hj (by omega))
  rw [mem_cutI]
  refine ⟨by rw [rank_length]; omega, ?_⟩
  have hm := bestN_mem hL
  rw [mem_cutI] at hm
  have e : lookI (rank (n + 1) L) 0 = lookI L (bestN L) := by simp [lookI, rank]
  rw [e]
  exact (mem_cut_perm id (hp.map lookOf) 6).2 hm.2
theorem rank_drop : ∀ (i n : Nat) (L : List Rt), L.length = n → i < n → ∃ M : List Rt, M ≠ [] ∧ (rank n L).drop i = rank M.length M
  | 0, n, L, h, hi => ⟨L, by intro e; rw [e] at h; simp at h; omega, by rw [h]; rfl⟩
  | i + 1, n + 1, L, h, hi => by
    have hne : L ≠ [] := by intro e; rw [e] at h; simp at h
    obtain ⟨hb, -⟩ := best_head L hne
    simp only [rank, List.drop_succ_cons]
    exact rank_drop i n _ (by rw [List.length_eraseIdx]; split <;> omega) (by omega)
theorem bestN_drop (L : List Rt) (i : Nat) (h : i < L.length) : bestN ((rankOf L).drop i) = 0 := by
  obtain ⟨M, hM, e⟩ := rank_drop i L.length L rfl h
  unfold rankOf
  rw [e]
  exact bestN_rank M hM

/-! ### unlike keys: the best one is the same in whatever order -/
def Unlike (L : List Rt) : Prop := L.Pairwise fun x y => ¬ (x.r = y.r ∧ x.i = y.i)
theorem Unlike.perm {L M : List Rt} (h : Unlike L) (hp : L.Perm M) : Unlike M := hp.pairwise h (fun {_x _y} hxy he => hxy ⟨he.1.symm, he.2.symm⟩)
theorem cut_unlike {L : List Rt} (h : Unlike L) (hL : L ≠ []) : ∃ x, cut lookOf 6 L = [x] := by
  have hs := (cut_sub (f := lookOf) L 6)
  have hp : (cut lookOf 6 L).Pairwise fun x y => ¬ (x.r = y.r ∧ x.i = y.i) := List.Pairwise.sublist hs h
  cases hm : cut lookOf 6 L with
  | nil => exact absurd hm (cut_ne (f := lookOf) hL 6)
  | cons x r =>
    cases r with
    | nil => exact ⟨x, rfl⟩
    | cons y t =>
      rw [hm] at hp
      have h1 := List.rel_of_pairwise_cons hp (List.mem_cons_self (a := y) (l := t))
      have h2 := cut_one (f := lookOf) (l := L) (c := x) (d := y) (by rw [hm]; simp) (by rw [hm]; simp)
      exact absurd h2 h1
theorem best_cut {L : List Rt} (hL : L ≠ []) : L.getD (bestN L) default ∈ cut lookOf 6 L := by
  have hm := bestN_mem hL
  rw [mem_cutI] at hm
  rw [mem_cut_iff]
  exact ⟨getD_mem hm.1, hm.2⟩
theorem best_perm {L M : List Rt} (h : Unlike L) (hp : L.Perm M) (hL : L ≠ []) : L.getD (bestN L) default = M.getD (bestN M) default := by
  have hM : M ≠ [] := by rintro rfl; exact hL hp.eq_nil
  obtain ⟨x, hx⟩ := cut_unlike h hL
  have h1 := best_cut hL
  have h2 := best_cut hM
  rw [← mem_cut_perm lookOf hp 6] at h2
  rw [hx] at h1 h2
  rw [List.mem_singleton] at h1 h2
  rw [h1, h2]
theorem rank_perm_eq : ∀ (n : Nat) (L M : List Rt), L.length = n → Unlike L → L.Perm M → rank n L = rank n M
  | 0, _, _, _, _, _ => rfl
  | n + 1, L, M, hl, hu, hp => by
    have hL : L ≠ [] := by intro e; rw [e] at hl; simp at hl
    have hM : M ≠ [] := by rintro rfl; exact hL hp.eq_nil
    have hb := best_perm hu hp hL
    obtain ⟨b1, -⟩ := best_head L hL
    obtain ⟨b2, -⟩ := best_head M hM
    have hp2 : (L.eraseIdx (bestN L)).Perm (M.eraseIdx (bestN M)) := by
      have h1 := perm_erase b1
      have h2 := perm_erase b2
      rw [hb] at h1
      exact (h1.trans (hp.trans h2.symm)).cons_inv
    simp only [rank]
    rw [hb, rank_perm_eq n _ _ (by rw [List.length_eraseIdx]; split <;> omega) (List.Pairwise.sublist (List.eraseIdx_sublist L _) hu) hp2]
theorem rankOf_perm {L M : List Rt} (h : Unlike L) (hp : L.Perm M) : rankOf L = rankOf M := by
  unfold rankOf
  rw [← hp.length_eq]
  exact rank_perm_eq _ _ _ rfl h hp

/-! ### one first AS: the best one stays -/
theorem not_worse_trans (s : Nat) {x y z : Look} (hf : x.fst = y.fst ∧ y.fst = z.fst) (h : worse s x y = false) (k : worse s y z = false) : worse s x z = false := by
  obtain ⟨h1, h2⟩ := hf
  unfold worse at *
  split at h <;> simp_all <;> omega
theorem cut_mono {l : List Look} {a : Look} : ∀ {m n : Nat}, m ≤ n → a ∈ cut id n l → a ∈ cut id m l := by
  intro m n h
  induction n with
  | zero => intro ha; rw [show m = 0 by omega]; exact ha
  | succ n ih =>
    intro ha
    by_cases e : m = n + 1
    · rw [e]; exact ha
    · rw [cut_succ] at ha
      exact ih (by omega) ((mem_keep id).1 ha).1
theorem cut_less {l m : List Look} (hs : ∀ a ∈ m, a ∈ l) (hf : ∀ a ∈ l, ∀ c ∈ l, a.fst = c.fst) {b : Look} (hb : b ∈ cut id 6 l) (hbm : b ∈ m) : ∀ n, n ≤ 6 → ∀ a ∈ m, (a ∈ cut id n m ↔ a ∈ cut id n l)
  | 0, _, a, ha => ⟨fun _ => hs a ha, fun _ => ha⟩
  | n + 1, h6, a, ha => by
    have ih := cut_less hs hf hb hbm n (by omega)
    have sub : ∀ c ∈ cut id n m, c ∈ m := fun c hc => (cut_sub (f := id) m n).subset hc
    have subl : ∀ c ∈ cut id n l, c ∈ l := fun c hc => (cut_sub (f := id) l n).subset hc
    have hb1 := cut_mono (m := n + 1) h6 hb
    rw [cut_succ, mem_keep] at hb1
    rw [cut_succ, cut_succ, mem_keep, mem_keep]
    constructor
    · rintro ⟨h1, h2⟩
      refine ⟨(ih a ha).1 h1, fun k hk => ?_⟩
      have hab := h2 b ((ih b hbm).2 hb1.1)
      exact not_worse_trans n ⟨hf a (hs a ha) b (subl b hb1.1), hf b (subl b hb1.1) k (subl k hk)⟩ hab (hb1.2 k hk)
    · rintro ⟨h1, h2⟩
      exact ⟨(ih a ha).2 h1, fun k hk => h2 k ((ih k (sub k hk)).1 hk)⟩
theorem stays {L : List Rt} {g : Nat} (hf : ∀ x ∈ L, ∀ y ∈ L, pfirst x.path = pfirst y.path) (hg : g < L.length) (hne : bestN L ≠ g) : L.eraseIdx g ≠ [] ∧ bestN (L.eraseIdx g) = if g < bestN L then bestN L - 1 else bestN L := by
  have hL : L ≠ [] := by rintro rfl; simp at hg
  obtain ⟨hbl, -⟩ := best_head L hL
  have hbm := bestN_mem hL
  have hlen : (L.eraseIdx g).length = L.length - 1 := by rw [List.length_eraseIdx, if_pos hg]
  have hget : ∀ j, j < (L.eraseIdx g).length → lookI (L.eraseIdx g) j = lookI L (if j < g then j else j + 1) := by
    intro j hj
    unfold lookI
    congr 1
    simp only [List.getD_eq_getElem?_getD, List.getElem?_eraseIdx]
    split <;> rfl
  have hmem : ∀ j, j < (L.eraseIdx g).length → lookI (L.eraseIdx g) j ∈ (L.eraseIdx g).map lookOf := fun j hj => List.mem_map.2 ⟨_, getD_mem hj, rfl⟩
  have hj0 : (if g < bestN L then bestN L - 1 else bestN L) < (L.eraseIdx g).length := by split <;> omega
  have hs0 : (if (if g < bestN L then bestN L - 1 else bestN L) < g then (if g < bestN L then bestN L - 1 else bestN L) else (if g < bestN L then bestN L - 1 else bestN L) + 1) = bestN L := by
    split <;> split <;> omega
  have hb' : lookI (L.eraseIdx g) (if g < bestN L then bestN L - 1 else bestN L) = lookI L (bestN L) := by rw [hget _ hj0, hs0]
  have hsub : ∀ a ∈ (L.eraseIdx g).map lookOf, a ∈ L.map lookOf := fun a ha => by
    obtain ⟨x, hx, rfl⟩ := List.mem_map.1 ha
    exact List.mem_map.2 ⟨x, List.mem_of_mem_eraseIdx hx, rfl⟩
  have hff : ∀ a ∈ L.map lookOf, ∀ c ∈ L.map lookOf, a.fst = c.fst := fun a ha c hc => by
    obtain ⟨x, hx, rfl⟩ := List.mem_map.1 ha
    obtain ⟨y, hy, rfl⟩ := List.mem_map.1 hc
    exact hf x hx y hy
  have hb6 := (mem_cutI.1 hbm).2
  have hless := cut_less hsub hff hb6 (by rw [← hb']; exact hmem _ hj0) 6 (Nat.le_refl _)
  refine ⟨by intro e; rw [e] at hj0; simp at hj0, bestN_eq ?_ ?_⟩
  · rw [mem_cutI]
    exact ⟨hj0, (hless _ (hmem _ hj0)).2 (by rw [hb']; exact hb6)⟩
  · intro j hj hc
    rw [mem_cutI] at hc
    have h1 := (hless _ (hmem j hc.1)).1 hc.2
    rw [hget j hc.1] at h1
    have h2 : (if j < g then j else j + 1) ∈ cutI L 6 := mem_cutI.2 ⟨by split <;> omega, h1⟩
    have h3 := bestN_le h2
    have h4 : (if j < g then j else j + 1) < bestN L := by
      split at hj <;> split <;> omega
    omega
end Go.Proofs.Ytlgmoiilfigamaa
