/- slices.SortFunc of an owned slice of structs. -/
import Derived.Test.YtfmehahjjgalfaaAp
import Derived.Shelf.SlSortCmp.WholeK
import Derived.Shelf.SlSortCmp.NoneTotal
namespace Go.Proofs.Ytfmehahjjgalfaa
open Go.Shelf Go.RowKit Go.Lib Go.Sort
namespace Rep
variable {α : Type} [Inhabited α] {R : Rep α}
/-- no later one is less than an earlier one -/
def SortedBy (cf : α → α → Int) (M : List α) : Prop := ∀ i j, i < j → j < M.length → 0 ≤ cf (M.getD j default) (M.getD i default)
theorem getB (M : List α) (i : Nat) : M.toArray[i]! = M.getD i default := by
  rw [getElem!_def]
  simp [List.getD_eq_getElem?_getD]
  cases M[i]? <;> rfl
theorem flatK_list (M : List α) : (flatK R.cells R.k M.toArray).toList = R.flat M := by
  have hp := R.pos
  apply List.ext_getElem?
  intro t
  by_cases ht : t < M.length * R.k
  · have hi : t / R.k < M.length := Nat.div_lt_of_lt_mul (by rw [Nat.mul_comm]; exact ht)
    have hj : t % R.k < R.k := Nat.mod_lt _ hp
    have he : t / R.k * R.k + t % R.k = t := by rw [Nat.mul_comm]; exact Nat.div_add_mod t R.k
    have h1 := get_flatK R.cells R.k M.toArray t (by simpa using ht)
    rw [show M.toArray[t / R.k]! = M.getD (t / R.k) default from getB M _] at h1
    have h2 := R.flat_get M (t / R.k) (t % R.k) hi hj
    rw [he] at h2
    rw [h2, Array.getElem?_toList]
    have hs : t < (flatK R.cells R.k M.toArray).size := by simpa using ht
    rw [getElem!_pos _ t hs] at h1
    rw [Array.getElem?_eq_getElem hs, h1]
    have hl : t % R.k < (R.cells (M.getD (t / R.k) default)).length := by rw [R.len]; exact hj
    rw [List.getElem?_eq_getElem hl, getElem!_pos (R.cells (M.getD (t / R.k) default)) (t % R.k) hl]
  · rw [List.getElem?_eq_none (by simp; omega), List.getElem?_eq_none (by rw [R.flat_length]; omega)]
theorem holds_own {w : World} {base g cap : Nat} {L : List α} (h : R.Own w base (.slice (some ⟨g, 0, none⟩) L.length cap) L) : HoldsK R.cells R.k w g 0 L.toArray := by
  intro j hj
  rcases h.2 with ⟨h2, _⟩ | ⟨g', cap', cur, hv, hg, hh, h3, h4, h5, h6⟩
  · cases h2
  · simp only [Value.slice.injEq, Option.some.injEq, Addr.mk.injEq, and_true, true_and] at hv
    obtain ⟨rfl, rfl⟩ := hv
    have hj' : j < L.length * R.k := by simpa using hj
    refine ⟨?_, free_of hh⟩
    rw [Nat.zero_add, getElem!_pos _ j hj]
    refine cell_of hh ?_
    have h7 : (flatK R.cells R.k L.toArray).toList[j]? = some (flatK R.cells R.k L.toArray)[j] := by rw [Array.getElem?_toList]; exact Array.getElem?_eq_getElem hj
    rw [flatK_list, ← h6, List.getElem?_take, if_pos hj', Array.getElem?_toList] at h7
    exact h7
theorem own_sorted {w : World} {base g cap n : Nat} {L M : List α} {os : Array Obj} (h : R.Own w base (.slice (some ⟨g, 0, none⟩) L.length cap) L) (hl : M.length = L.length) :
    R.Own (sortWorldK R.cells R.k w g 0 n M.toArray os) base (.slice (some ⟨g, 0, none⟩) L.length cap) M ∧ But w (sortWorldK R.cells R.k w g 0 n M.toArray os) [g] ∧ base ≤ g := by
  rcases h.2 with ⟨h2, _⟩ | ⟨g', cap', cur, hv, hg, hh, h3, h4, h5, h6⟩
  · cases h2
  · simp only [Value.slice.injEq, Option.some.injEq, Addr.mk.injEq, and_true, true_and] at hv
    obtain ⟨rfl, rfl⟩ := hv
    have hlt := lt_of_blk hh
    have hsz : ((putRowK R.cells R.k (Sort.ahead w n) g 0 M.toArray)).heap.size = w.heap.size := by unfold putRowK; rw [size_putRow]; rfl
    have hblk : ∀ k, k < w.heap.size → (sortWorldK R.cells R.k w g 0 n M.toArray os).heap[k]? = (putRowK R.cells R.k (Sort.ahead w n) g 0 M.toArray).heap[k]? := fun k hk => by
      show ((putRowK R.cells R.k (Sort.ahead w n) g 0 M.toArray).heap ++ os)[k]? = _
      rw [Array.getElem?_append_left (by omega)]
    have hput : ∀ k, (putRowK R.cells R.k (Sort.ahead w n) g 0 M.toArray).heap[k]? = if g = k then (w.heap[k]?).map (onCells (putCells id 0 (flatK R.cells R.k M.toArray))) else w.heap[k]? := fun k => by
      show (w.heap.modify g (onCells (putCells id 0 (flatK R.cells R.k M.toArray))))[k]? = _
      rw [Array.getElem?_modify]
    refine ⟨⟨by rw [R.flat_length, hl], .inr ⟨g, cap, putCells id 0 (flatK R.cells R.k M.toArray) cur, by rw [hl], hg, ?_, by rw [hl]; exact h3, h4, by simpa [putCells] using h5, ?_⟩⟩, ⟨rfl, rfl, rfl, ?_, fun k hk hn => ?_⟩, hg⟩
    · rw [hblk g hlt, hput, if_pos rfl, hh]
      rfl
    · rw [← flatK_list, hl]
      apply List.ext_getElem?
      intro q
      rw [List.getElem?_take]
      by_cases hq : q < L.length * R.k
      · rw [if_pos hq, Array.getElem?_toList, Array.getElem?_toList]
        have hq2 : q < (flatK R.cells R.k M.toArray).size := by simp [hl]; exact hq
        have hq3 : q < cur.size := by
          rw [h5]
          exact Nat.lt_of_lt_of_le hq (Nat.mul_le_mul_right _ h3)
        simp only [putCells, Array.getElem?_mapIdx, Array.getElem?_eq_getElem hq3, Option.map_some]
        rw [if_pos ⟨Nat.zero_le _, by omega⟩, Array.getElem?_eq_getElem hq2, getElem!_pos _ _ (by simpa using hq2)]
        simp
      · rw [if_neg hq, Array.getElem?_toList, Array.getElem?_eq_none (by simp [hl]; omega)]
    · show w.heap.size ≤ ((putRowK R.cells R.k (Sort.ahead w n) g 0 M.toArray).heap ++ os).size
      rw [Array.size_append, hsz]; omega
    · rw [hblk k hk, hput, if_neg (by simp at hn; omega)]
theorem sort_own {P : Program} {ρ : Ren} (SL : SlLaysF0.n6 P ρ) (aE : ∀ w, (isAgg (ρ.t 24)).run P w = .ok true w) (zE : ∀ w, (Go.sizeOf (ρ.t 24)).run P w = .ok R.k w) (cf : α → α → Int) (hO : SWO (ltOf cf)) (f : Nat) (cb : Array Value)
    (eg : ∀ args w, (callFunc f args).run P w = .ok (.enter f args) w) {w : World} {base : Nat} {v : Value} {L : List α} (hown : R.Own w base v L) (hcmp : ∀ g, CmpLays P f cb R.cells R.k cf g 0 L.length w) (hsz : L.length < 4611686018427387904) (hbase : base ≤ w.heap.size) :
    Calls P (ρ.f 6) #[v, .func (.func f) #[] cb] w fun e w' => e = .returned (.tuple #[]) ∧ ∃ M, M.Perm L ∧ SortedBy cf M ∧ R.Own w' base v M ∧ Below base w w' := by
  rcases hown.cases with ⟨rfl, rfl⟩ | ⟨g, cap, rfl, hg, hl, -⟩
  · exact (AnyF.slices_SortFunc_none SL none 0 (.func (.func f) #[] cb) w).mono fun e w' ⟨h1, h2⟩ => ⟨h1, [], List.Perm.refl _, fun i j _ hj => absurd hj (by simp), h2 ▸ hown, h2 ▸ Below.refl _ _⟩
  · have h := AnyQ.slices_SortFunc SL R.k aE zE R.cells R.len (fun x u hu => List.all_eq_true.1 (R.one x) u hu) cf hO f cb g 0 cap L.toArray w eg (by simpa using hcmp g) (holds_own hown) hl (by simpa using hsz)
    rw [List.size_toArray] at h
    refine h.mono fun e w' ⟨h1, d', n, os, hp, hs, hw⟩ => ⟨h1, d'.toList, ?_, ?_, ?_⟩
    · have := hp.2.2
      have h0 : d'.size = L.length := by simpa using hp.1
      simp only [Array.toList_extract, List.extract_eq_take_drop, Nat.sub_zero, List.drop_zero] at this
      rwa [List.take_of_length_le (by simp [h0]), List.take_of_length_le (by simp)] at this
    · intro i j hij hj
      have h0 : d'.size = L.length := by simpa using hp.1
      have := hs i j (Nat.zero_le _) hij (by simpa [h0] using hj)
      unfold ltOf at this
      have e1 := getB d'.toList i
      have e2 := getB d'.toList j
      rw [← e1, ← e2]
      simp only [Array.toArray_toList]
      simpa using this
    · have h0 : d'.toList.length = L.length := by simpa using hp.1
      have := own_sorted (n := n) (os := os) hown h0
      simp only [Array.toArray_toList] at this
      rw [← hw] at this
      exact ⟨this.1, this.2.1.below hbase (by simpa using this.2.2)⟩
end Rep
end Go.Proofs.Ytfmehahjjgalfaa
