/- Best paths on plain data: what is left behind each criterion, and the laws of the best one. -/
namespace Go.Proofs.Ytlgmoiilfigamaa

/-- a segment of a path: is it a set, and its numbers -/
abbrev Seg := Bool × List Int

/-- what is looked at of a route -/
structure Look where
  pref : Int
  len : Int
  org : Int
  fst : Int
  med : Int
  rtr : Int
  id : Int
  deriving Inhabited

def worse (s : Nat) (x y : Look) : Bool :=
  match s with
  | 0 => decide (x.pref < y.pref)
  | 1 => decide (y.len < x.len)
  | 2 => decide (y.org < x.org)
  | 3 => decide (x.fst = y.fst) && decide (y.med < x.med)
  | 4 => decide (y.rtr < x.rtr)
  | _ => decide (y.id < x.id)

theorem worse_irrefl (s : Nat) (x : Look) : worse s x x = false := by
  unfold worse
  split <;> simp
theorem worse_trans (s : Nat) {x y z : Look} (h : worse s x y = true) (k : worse s y z = true) : worse s x z = true := by
  unfold worse at *
  split at h <;> simp_all <;> omega

section
variable {α : Type} (f : α → Look)
/-- those that no other one is better than -/
def keep (s : Nat) (l : List α) : List α := l.filter fun c => l.all fun k => !worse s (f c) (f k)
def cut (n : Nat) (l : List α) : List α := (List.range n).foldl (fun l s => keep f s l) l
theorem cut_succ (n : Nat) (l : List α) : cut f (n + 1) l = keep f n (cut f n l) := by
  unfold cut; rw [List.range_succ, List.foldl_append]; rfl
theorem cut_zero (l : List α) : cut f 0 l = l := rfl
theorem mem_keep {s : Nat} {l : List α} {c : α} : c ∈ keep f s l ↔ c ∈ l ∧ ∀ k ∈ l, worse s (f c) (f k) = false := by
  unfold keep; simp
theorem keep_perm {s : Nat} {l m : List α} (h : l.Perm m) : (keep f s l).Perm (keep f s m) := by
  unfold keep
  have : (fun c => l.all fun k => !worse s (f c) (f k)) = (fun c => m.all fun k => !worse s (f c) (f k)) := by
    funext c
    rw [Bool.eq_iff_iff]
    simp only [List.all_eq_true]
    exact ⟨fun h' k hk => h' k (h.mem_iff.2 hk), fun h' k hk => h' k (h.mem_iff.1 hk)⟩
  rw [this]
  exact h.filter _
theorem cut_perm {l m : List α} (h : l.Perm m) : ∀ n, (cut f n l).Perm (cut f n m)
  | 0 => h
  | n + 1 => by rw [cut_succ, cut_succ]; exact keep_perm f (cut_perm h n)
theorem keep_map {β : Type} (g : β → α) (s : Nat) (l : List β) : keep f s (l.map g) = (keep (fun x => f (g x)) s l).map g := by
  unfold keep
  rw [List.filter_map]
  congr 1
  apply List.filter_congr
  intro x _
  simp [List.all_map, Function.comp_def]
theorem cut_map {β : Type} (g : β → α) (l : List β) : ∀ n, cut f n (l.map g) = (cut (fun x => f (g x)) n l).map g
  | 0 => rfl
  | n + 1 => by rw [cut_succ, cut_succ, cut_map g l n, keep_map]
theorem keep_sub (s : Nat) (l : List α) : (keep f s l).Sublist l := List.filter_sublist
theorem cut_sub (l : List α) : ∀ n, (cut f n l).Sublist l
  | 0 => List.Sublist.refl l
  | n + 1 => by rw [cut_succ]; exact (keep_sub f n _).trans (cut_sub l n)

/-- among some there is one that none is better than -/
theorem least_exists (s : Nat) : ∀ (l : List α), l ≠ [] → ∃ c ∈ l, ∀ k ∈ l, worse s (f c) (f k) = false
  | [], h => absurd rfl h
  | [c], _ => ⟨c, by simp, by simp [worse_irrefl]⟩
  | c :: d :: r, _ => by
    obtain ⟨m, hm, hk⟩ := least_exists s (d :: r) (by simp)
    by_cases h : worse s (f c) (f m) = true
    · refine ⟨m, List.mem_cons_of_mem _ hm, ?_⟩
      intro k hk'
      rcases List.mem_cons.1 hk' with rfl | hk'
      · cases hw : worse s (f m) (f k)
        · rfl
        · have := worse_trans s h hw; rw [worse_irrefl] at this; cases this
      · exact hk k hk'
    · by_cases h2 : ∃ k ∈ d :: r, worse s (f c) (f k) = true
      · obtain ⟨k, hk', hw⟩ := h2
        -- c is not worse than m, but worse than k: then m is no worse than c, or all is decided by k
        by_cases h3 : worse s (f m) (f c) = true
        · have := worse_trans s h3 hw
          rw [hk k hk'] at this; cases this
        · refine ⟨m, List.mem_cons_of_mem _ hm, ?_⟩
          intro k' hk''
          rcases List.mem_cons.1 hk'' with rfl | hk''
          · simpa using h3
          · exact hk k' hk''
      · refine ⟨c, by simp, ?_⟩
        intro k hk'
        rcases List.mem_cons.1 hk' with rfl | hk'
        · exact worse_irrefl s _
        · cases hw : worse s (f c) (f k)
          · rfl
          · exact absurd ⟨k, hk', hw⟩ h2
theorem keep_ne {s : Nat} {l : List α} (h : l ≠ []) : keep f s l ≠ [] := by
  obtain ⟨c, hc, hk⟩ := least_exists f s l h
  have : c ∈ keep f s l := (mem_keep f).2 ⟨hc, hk⟩
  intro e; rw [e] at this; cases this
theorem cut_ne {l : List α} (h : l ≠ []) : ∀ n, cut f n l ≠ []
  | 0 => h
  | n + 1 => by rw [cut_succ]; exact keep_ne f (cut_ne h n)

/-- behind all criteria all have one router and one id -/
theorem cut_one {l : List α} {c d : α} (hc : c ∈ cut f 6 l) (hd : d ∈ cut f 6 l) : (f c).rtr = (f d).rtr ∧ (f c).id = (f d).id := by
  rw [cut_succ] at hc hd
  obtain ⟨hc5, hc⟩ := (mem_keep f).1 hc
  obtain ⟨hd5, hd⟩ := (mem_keep f).1 hd
  have h1 := hc d hd5
  have h2 := hd c hc5
  rw [cut_succ] at hc5 hd5
  obtain ⟨hc4, hc'⟩ := (mem_keep f).1 hc5
  obtain ⟨hd4, hd'⟩ := (mem_keep f).1 hd5
  have h3 := hc' d hd4
  have h4 := hd' c hc4
  simp only [worse, decide_eq_false_iff_not] at h1 h2 h3 h4
  omega
end
end Go.Proofs.Ytlgmoiilfigamaa
