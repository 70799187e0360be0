/- hop.All: all of good ones, by their numbers. -/
import Derived.Test.YtlkbaplfffbmkaaBc
import Derived.Test.YtlkbaplfffbmkaaSh
import Derived.Test.YtlkbaplfffbmkaaSo
import Derived.Test.YtlkbaplfffbmkaaMg
import Derived.Test.YtlkbaplfffbmkaaKb
namespace Go.Proofs.Ytlkbaplfffbmkaa
open Go.RowKit

theorem hdOf_of (l : List If) : (hdOf l).of = (l.map fun x => (x.id, x)).reverse := by
  have h : ∀ (l : List If) (D : HD), (l.foldl HD.add D).of = (l.map fun x => (x.id, x)).reverse ++ D.of := by
    intro l
    induction l with
    | nil => intro D; rfl
    | cons x r ih => intro D; rw [List.foldl_cons, ih]; simp [HD.add]
  have := h l hd0
  rw [show hd0.of = [] from rfl, List.append_nil] at this
  exact this
theorem get_mem {l : List If} {id : Int} {y : If} (h : (hdOf l).get id = some y) : y ∈ l ∧ y.id = id := by
  unfold HD.get at h
  rw [hdOf_of] at h
  simp only [Option.map_eq_some_iff] at h
  obtain ⟨p, hp, rfl⟩ := h
  have h1 := List.find?_some hp
  have h2 := List.mem_of_find?_eq_some hp
  simp only [List.mem_reverse, List.mem_map] at h2
  obtain ⟨x, hx, rfl⟩ := h2
  exact ⟨hx, by simpa using h1⟩
theorem Good.ndid {l : List If} (h : Good l) : (l.map If.id).Nodup := nodup_get.2 h.ids
theorem get_of {l : List If} (h : Good l) {x : If} (hx : x ∈ l) : (hdOf l).get x.id = some x := by
  cases hg : (hdOf l).get x.id with
  | none =>
    unfold HD.get at hg
    rw [hdOf_of] at hg
    simp only [Option.map_eq_none_iff, List.find?_eq_none] at hg
    have := hg (x.id, x) (by simp; exact hx)
    simp at this
  | some y =>
    obtain ⟨h1, h2⟩ := get_mem hg
    rw [MR.inj_of_nodup h.ndid h1 hx h2]
/-- a map's entries, as interfaces -/
def entI (l : List If) (e : MR.Ent Int) : If := ((hdOf l).get e.1).getD default
theorem ents_are {w : World} {bm clk : Nat} {es : List (MR.Ent Int)} {l : List If} (hg : Good l) (hm : MR.MapAt IN w bm es clk) (h : ∀ id, MR.get? es id = ((hdOf l).get id).map If.v) : (∀ e ∈ es, e.2.1 = (entI l e).v ∧ (entI l e).id = e.1 ∧ entI l e ∈ l) ∧ (es.map (entI l)).Perm l := by
  have h1 : ∀ e ∈ es, e.2.1 = (entI l e).v ∧ (entI l e).id = e.1 ∧ entI l e ∈ l := by
    intro e he
    have h2 := MR.get?_mem hm.nodup he
    rw [h] at h2
    simp only [Option.map_eq_some_iff] at h2
    obtain ⟨x, hx, hv⟩ := h2
    have : entI l e = x := by unfold entI; rw [hx]; rfl
    rw [this]
    exact ⟨hv.symm, (get_mem hx).2, (get_mem hx).1⟩
  refine ⟨h1, ?_⟩
  have hn : ((es.map (entI l)).map If.id).Nodup := by
    rw [List.map_map]
    have : es.map (If.id ∘ entI l) = es.map (·.1) := List.map_congr_left fun e he => (h1 e he).2.1
    rw [this]
    exact hm.nodup
  rw [List.perm_ext_iff_of_nodup (MR.nodup_of_map hn) (MR.nodup_of_map hg.ndid)]
  intro x
  constructor
  · intro hx
    obtain ⟨e, he, rfl⟩ := List.mem_map.1 hx
    exact (h1 e he).2.2
  · intro hx
    have h3 := h x.id
    rw [get_of hg hx] at h3
    obtain ⟨e, he, he1, -⟩ := MR.mem_of_get? h3
    refine List.mem_map.2 ⟨e, he, ?_⟩
    exact MR.inj_of_nodup hg.ndid (h1 e he).2.2 hx ((h1 e he).2.1.trans he1)
/-- Go's cmp.Compare of ints -/
def cmpI (a b : Int) : Int := if a < b then -1 else if b < a then 1 else 0
theorem nan_any (a : Int) (w : World) : Calls Try.prog 63 #[.int .i64 a] w fun e w' => e = .returned (.bool false) ∧ w' = w := by
  have h : (a == a) = true := by simp
  go_enter Try.func63, Try.ntmps63
  go_wp2_with fail
  go_ret
  exact ⟨rfl, rfl⟩
theorem cmp_any (a b : Int) (w : World) : Calls Try.prog 47 #[.int .i64 a, .int .i64 b] w fun e w' => e = .returned (.int .i64 (cmpI a b)) ∧ w' = w := by
  have HA := Lib.hid (fun W => nan_any a W)
  have HB := Lib.hid (fun W => nan_any b W)
  obtain ⟨c, hc⟩ : ∃ c, cmpI a b = c := ⟨_, rfl⟩
  rw [hc]
  unfold cmpI at hc
  have HC := Lib.hid hc
  clear hc
  by_cases h1 : a < b
  · have e1 : (a < b) = True := eq_true h1
    go_enter Try.func47, Try.ntmps47
    go_wp2_with fail
    refine (HA.out _).mono ?_
    rintro e w1 ⟨rfl, hw1⟩
    subst w1
    go_wp2_with fail
    refine (HB.out _).mono ?_
    rintro e w1 ⟨rfl, hw1⟩
    subst w1
    go_wp2_with fail
    go_ret
    exact ⟨ret_int (by rw [← HC.out, if_pos (of_eq_true e1)]), rfl⟩
  · have e1 : (a < b) = False := eq_false h1
    by_cases h2 : b < a
    · have e2 : (b < a) = True := eq_true h2
      clear h1 h2
      go_enter Try.func47, Try.ntmps47
      go_wp2_with fail
      refine (HA.out _).mono ?_
      rintro e w1 ⟨rfl, hw1⟩
      subst w1
      go_wp2_with fail
      refine (HB.out _).mono ?_
      rintro e w1 ⟨rfl, hw1⟩
      subst w1
      go_wp2_with fail
      go_ret
      exact ⟨ret_int (by rw [← HC.out, if_neg (of_eq_false e1), if_pos (of_eq_true e2)]), rfl⟩
    · have e2 : (b < a) = False := eq_false h2
      clear h1 h2
      go_enter Try.func47, Try.ntmps47
      go_wp2_with fail
      refine (HA.out _).mono ?_
      rintro e w1 ⟨rfl, hw1⟩
      subst w1
      go_wp2_with fail
      refine (HB.out _).mono ?_
      rintro e w1 ⟨rfl, hw1⟩
      subst w1
      go_wp2_with fail
      go_ret
      exact ⟨ret_int (by rw [← HC.out, if_neg (of_eq_false e1), if_neg (of_eq_false e2)]), rfl⟩
def cmpIf (x y : If) : Int := cmpI x.id y.id
theorem swo_cmp {α : Type} [Inhabited α] (f : α → Int) : Go.Sort.SWO (Go.Proofs.ltOf fun x y => cmpI (f x) (f y)) := by
  have h : ∀ x y : α, Go.Proofs.ltOf (fun x y => cmpI (f x) (f y)) x y = decide (f x < f y) := by
    intro x y
    unfold Go.Proofs.ltOf cmpI
    by_cases h1 : f x < f y
    · simp [h1]
    · by_cases h2 : f y < f x <;> simp [h1, h2]
  exact ⟨fun x => by rw [h]; simp, fun x y z h1 h2 => by rw [h] at *; simp at *; omega, fun x y z h1 h2 => by rw [h] at *; simp at *; omega⟩
set_option maxHeartbeats 1000000 in
theorem cmpIf_lays (g n : Nat) (w : World) : Go.Proofs.CmpLays Try.prog 46 #[] RIf.cells RIf.k cmpIf g 0 n w := by
  intro m os dk _ x y
  generalize Go.Proofs.sortWorldK RIf.cells RIf.k w g 0 m dk os = W
  have HC := Lib.hid (fun W' => cmp_any x.id y.id W')
  show Calls Try.prog 46 #[.agg #[.int .i64 x.id, .int .i64 x.r, .int .u32 (x.ad : Int), .int .i64 x.ln, .int .i64 x.cp], .agg #[.int .i64 y.id, .int .i64 y.r, .int .u32 (y.ad : Int), .int .i64 y.ln, .int .i64 y.cp]] W _
  unfold cmpIf
  generalize cmpI x.id y.id = c at *
  go_enter Try.func46, Try.ntmps46
  go_wp2_with fail
  refine (HC.out _).mono ?_
  rintro e w1 ⟨rfl, hw1⟩
  subst w1
  go_wp2_with fail
  go_ret
  exact ⟨ret_int rfl, 0, _, by rw [Go.Sort.alloc_eq_grow, Go.Sort.alloc_eq_grow, Go.Sort.grow_grow]; rfl⟩
/-- sorted by number, and a permutation of the good ones: it is their order -/
theorem sorted_ids {M : List If} (h : Rep.SortedBy cmpIf M) (hn : (M.map If.id).Nodup) : M.Pairwise fun a b => a.id < b.id := by
  rw [List.pairwise_iff_getElem]
  intro i j hi hj hij
  have h1 := h i j hij hj
  simp only [List.getD_eq_getElem?_getD, List.getElem?_eq_getElem hi, List.getElem?_eq_getElem hj, Option.getD_some] at h1
  unfold cmpIf cmpI at h1
  rw [List.nodup_iff_pairwise_ne, List.pairwise_iff_getElem] at hn
  have h2 := hn i j (by simpa using hi) (by simpa using hj) hij
  simp only [List.getElem_map] at h2
  split at h1
  · omega
  · omega
theorem insI_sorted {out : List If} {x : If} (h : out.Pairwise fun a b => a.id < b.id) (hx : ∀ y ∈ out, y.id ≠ x.id) : (insI out x).Pairwise fun a b => a.id < b.id := by
  unfold insI
  induction out with
  | nil => simp
  | cons a r ih =>
    rw [List.pairwise_cons] at h
    by_cases ha : a.id < x.id
    · rw [List.takeWhile_cons_of_pos (by simpa using ha), List.dropWhile_cons_of_pos (by simpa using ha), List.cons_append, List.pairwise_cons]
      refine ⟨fun b hb => ?_, ih h.2 fun y hy => hx y (List.mem_cons_of_mem _ hy)⟩
      rcases List.mem_append.1 hb with hb | hb
      · exact h.1 b (List.takeWhile_subset _ hb)
      · rcases List.mem_cons.1 hb with rfl | hb
        · exact ha
        · exact h.1 b (List.dropWhile_subset _ hb)
    · rw [List.takeWhile_cons_of_neg (by simpa using ha), List.dropWhile_cons_of_neg (by simpa using ha), List.nil_append, List.pairwise_cons, List.pairwise_cons]
      have hxa : x.id < a.id := by have := hx a (by simp); omega
      exact ⟨fun b hb => by
        rcases List.mem_cons.1 hb with rfl | hb
        · exact hxa
        · have := h.1 b hb; omega, h.1, h.2⟩
theorem sortI_sorted {l : List If} (hn : (l.map If.id).Nodup) : (sortI l).Pairwise fun a b => a.id < b.id := by
  have : ∀ i, (sortI (l.take i)).Pairwise fun a b => a.id < b.id := by
    intro i
    induction i with
    | zero => simp [sortI]
    | succ i ih =>
      by_cases hi : i < l.length
      · rw [sortI_succ hi]
        refine insI_sorted ih fun y hy => ?_
        rw [sortI_mem] at hy
        obtain ⟨k, hk, rfl⟩ := List.mem_iff_getElem.1 hy
        simp only [List.length_take] at hk
        have := nodup_get.1 hn k i (by omega) hi
        simp only [List.getD_eq_getElem?_getD, List.getElem?_eq_getElem hi, List.getElem?_eq_getElem (show k < l.length by omega), Option.getD_some] at this
        rw [List.getElem_take]
        simpa [List.getD_eq_getElem?_getD, List.getElem?_eq_getElem hi] using this
      · rw [List.take_of_length_le (by omega)]
        rw [List.take_of_length_le (by omega)] at ih
        exact ih
  have := this l.length
  rwa [List.take_of_length_le (Nat.le_refl _)] at this
theorem sorted_eq {M L : List If} (hM : M.Pairwise fun a b => a.id < b.id) (hL : L.Pairwise fun a b => a.id < b.id) (h : ∀ x, x ∈ M ↔ x ∈ L) : M = L := by
  induction M generalizing L with
  | nil =>
    cases L with
    | nil => rfl
    | cons y r => exact absurd ((h y).2 (by simp)) (by simp)
  | cons x r ih =>
    cases L with
    | nil => exact absurd ((h x).1 (by simp)) (by simp)
    | cons y s =>
      rw [List.pairwise_cons] at hM hL
      have hxy : x = y := by
        have h1 := (h x).1 (by simp)
        have h2 := (h y).2 (by simp)
        rcases List.mem_cons.1 h1 with e | h1
        · exact e
        · rcases List.mem_cons.1 h2 with e | h2
          · exact e.symm
          · have a1 := hL.1 x h1
            have a2 := hM.1 y h2
            omega
      subst hxy
      rw [ih hM.2 hL.2 fun z => ?_]
      have := h z
      simp only [List.mem_cons] at this
      constructor
      · intro hz
        rcases this.1 (.inr hz) with rfl | h3
        · have := hM.1 _ hz; omega
        · exact h3
      · intro hz
        rcases this.2 (.inr hz) with rfl | h3
        · have := hL.1 _ hz; omega
        · exact h3
theorem sorted_is {M l : List If} (hg : Good l) (hp : M.Perm l) (hs : Rep.SortedBy cmpIf M) : M = sortI l :=
  sorted_eq (sorted_ids hs ((hp.map If.id).nodup_iff.2 hg.ndid)) (sortI_sorted hg.ndid) fun x => by rw [sortI_mem]; exact hp.mem_iff
end Go.Proofs.Ytlkbaplfffbmkaa
