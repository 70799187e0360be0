/- slices.SortFunc of an owned slice of structs. -/
import Derived.Test.YtfmehahjjgalfaaQaa
import Derived.Shelf.SlSortCmp.WholeK
import Derived.Shelf.SlSortCmp.NoneTotal
import Derived.Test.YtfmehahjjgalfaaQac
import Derived.DeepKeys4
import Derived.Laws.Tables
import Derived.Deep.Quiet
namespace Go.Proofs.Ytfmehahjjgalfaa
open Go.Shelf Go.RowKit Go.Lib Go.Sort
namespace Rep
variable {α : Type} [Inhabited α] {R : Rep α}
/-- no later one is less than an earlier one -/
def SortedBy (cf : α → α → Int) (M : List α) : Prop := ∀ i j, i < j → j < M.length → 0 ≤ cf (M.getD j default) (M.getD i default)
theorem getB (M : List α) (i : Nat) : M.toArray[i]! = M.getD i default := by
  rw [getElem!_def]
  simp [List.getD_eq_getElem?_getD]
  cases M[i]? <;> rfl
theorem flatK_list (M : List α) : (flatK R.cells R.k M.toArray).toList = R.flat M := by
  have hp := R.pos
  apply List.ext_getElem?
  intro t
  by_cases ht : t < M.length * R.k
  · have hi : t / R.k < M.length := Nat.div_lt_of_lt_mul (by rw [Nat.mul_comm]; exact ht)
    have hj : t % R.k < R.k := Nat.mod_lt _ hp
    have he : t / R.k * R.k + t % R.k = t := by rw [Nat.mul_comm]; exact Nat.div_add_mod t R.k
    have h1 := get_flatK R.cells R.k M.toArray t (by simpa using ht)
    rw [show M.toArray[t / R.k]! = M.getD (t / R.k) default from getB M _] at h1
    have h2 := R.flat_get M (t / R.k) (t % R.k) hi hj
    rw [he] at h2
    rw [h2, Array.getElem?_toList]
    have hs : t < (flatK R.cells R.k M.toArray).size := by simpa using ht
    rw [getElem!_pos _ t hs] at h1
    rw [Array.getElem?_eq_getElem hs, h1]
    have hl : t % R.k < (R.cells (M.getD (t / R.k) default)).length := by rw [R.len]; exact hj
    rw [List.getElem?_eq_getElem hl, getElem!_pos (R.cells (M.getD (t / R.k) default)) (t % R.k) hl]
  · rw [List.getElem?_eq_none (by simp; omega), List.getElem?_eq_none (by rw [R.flat_length]; omega)]
theorem holds_own {w : World} {base g cap : Nat} {L : List α} (h : R.Own w base (.slice (some ⟨g, 0, none⟩) L.length cap) L) : HoldsK R.cells R.k w g 0 L.toArray := by
  intro j hj
  rcases h.2 with ⟨h2, _⟩ | ⟨g', cap', cur, hv, hg, hh, h3, h4, h5, h6⟩
  · cases h2
  · simp only [Value.slice.injEq, Option.some.injEq, Addr.mk.injEq, and_true, true_and] at hv
    obtain ⟨rfl, rfl⟩ := hv
    have hj' : j < L.length * R.k := by simpa using hj
    refine ⟨?_, free_of hh⟩
    rw [Nat.zero_add, getElem!_pos _ j hj]
    refine cell_of hh ?_
    have h7 : (flatK R.cells R.k L.toArray).toList[j]? = some (flatK R.cells R.k L.toArray)[j] := by rw [Array.getElem?_toList]; exact Array.getElem?_eq_getElem hj
    rw [flatK_list, ← h6, List.getElem?_take, if_pos hj', Array.getElem?_toList] at h7
    exact h7
theorem own_sorted {w : World} {base g cap n : Nat} {L M : List α} {os : Array Obj} (h : R.Own w base (.slice (some ⟨g, 0, none⟩) L.length cap) L) (hl : M.length = L.length) :
    R.Own (sortWorldK R.cells R.k w g 0 n M.toArray os) base (.slice (some ⟨g, 0, none⟩) L.length cap) M ∧ But w (sortWorldK R.cells R.k w g 0 n M.toArray os) [g] ∧ base ≤ g := by
  rcases h.2 with ⟨h2, _⟩ | ⟨g', cap', cur, hv, hg, hh, h3, h4, h5, h6⟩
  · cases h2
  · simp only [Value.slice.injEq, Option.some.injEq, Addr.mk.injEq, and_true, true_and] at hv
    obtain ⟨rfl, rfl⟩ := hv
    have hlt := lt_of_blk hh
    have hsz : ((putRowK R.cells R.k (Sort.ahead w n) g 0 M.toArray)).heap.size = w.heap.size := by unfold putRowK; rw [size_putRow]; rfl
    have hblk : ∀ k, k < w.heap.size → (sortWorldK R.cells R.k w g 0 n M.toArray os).heap[k]? = (putRowK R.cells R.k (Sort.ahead w n) g 0 M.toArray).heap[k]? := fun k hk => by
      show ((putRowK R.cells R.k (Sort.ahead w n) g 0 M.toArray).heap ++ os)[k]? = _
      rw [Array.getElem?_append_left (by omega)]
    have hput : ∀ k, (putRowK R.cells R.k (Sort.ahead w n) g 0 M.toArray).heap[k]? = if g = k then (w.heap[k]?).map (onCells (putCells id 0 (flatK R.cells R.k M.toArray))) else w.heap[k]? := fun k => by
      show (w.heap.modify g (onCells (putCells id 0 (flatK R.cells R.k M.toArray))))[k]? = _
      rw [Array.getElem?_modify]
    refine ⟨⟨by rw [R.flat_length, hl], .inr ⟨g, cap, putCells id 0 (flatK R.cells R.k M.toArray) cur, by rw [hl], hg, ?_, by rw [hl]; exact h3, h4, by simpa [putCells] using h5, ?_⟩⟩, ⟨rfl, rfl, rfl, ?_, fun k hk hn => ?_⟩, hg⟩
    · rw [hblk g hlt, hput, if_pos rfl, hh]
      rfl
    · rw [← flatK_list, hl]
      apply List.ext_getElem?
      intro q
      rw [List.getElem?_take]
      by_cases hq : q < L.length * R.k
      · rw [if_pos hq, Array.getElem?_toList, Array.getElem?_toList]
        have hq2 : q < (flatK R.cells R.k M.toArray).size := by simp [hl]; exact hq
        have hq3 : q < cur.size := by
          rw [h5]
          exact Nat.lt_of_lt_of_le hq (Nat.mul_le_mul_right _ h3)
        simp only [putCells, Array.getElem?_mapIdx, Array.getElem?_eq_getElem hq3, Option.map_some]
        rw [if_pos ⟨Nat.zero_le _, by omega⟩, Array.getElem?_eq_getElem hq2, getElem!_pos _ _ (by simpa using hq2)]
        simp
      · rw [if_neg hq, Array.getElem?_toList, Array.getElem?_eq_none (by simp [hl]; omega)]
    · show w.heap.size ≤ ((putRowK R.cells R.k (Sort.ahead w n) g 0 M.toArray).heap ++ os).size
      rw [Array.size_append, hsz]; omega
    · rw [hblk k hk, hput, if_neg (by simp at hn; omega)]
theorem sort_own {P : Program} {ρ : Ren} (SL : SlLaysF0.n6 P ρ) (aE : ∀ w, (isAgg (ρ.t 24)).run P w = .ok true w) (zE : ∀ w, (Go.sizeOf (ρ.t 24)).run P w = .ok R.k w) (cf : α → α → Int) (hO : SWO (ltOf cf)) (f : Nat) (cb : Array Value)
    (eg : ∀ args w, (callFunc f args).run P w = .ok (.enter f args) w) {w : World} {base : Nat} {v : Value} {L : List α} (hown : R.Own w base v L) (hcmp : ∀ g, CmpLays P f cb R.cells R.k cf g 0 L.length w) (hsz : L.length < 4611686018427387904) (hbase : base ≤ w.heap.size) :
    Calls P (ρ.f 6) #[v, .func (.func f) #[] cb] w fun e w' => e = .returned (.tuple #[]) ∧ ∃ M, M.Perm L ∧ SortedBy cf M ∧ R.Own w' base v M ∧ Below base w w' := by
  rcases hown.cases with ⟨rfl, rfl⟩ | ⟨g, cap, rfl, hg, hl, -⟩
  · exact (AnyF.slices_SortFunc_none SL none 0 (.func (.func f) #[] cb) w).mono fun e w' ⟨h1, h2⟩ => ⟨h1, [], List.Perm.refl _, fun i j _ hj => absurd hj (by simp), h2 ▸ hown, h2 ▸ Below.refl _ _⟩
  · have h := AnyQ.slices_SortFunc SL R.k aE zE R.cells R.len (fun x u hu => List.all_eq_true.1 (R.one x) u hu) cf hO f cb g 0 cap L.toArray w eg (by simpa using hcmp g) (holds_own hown) hl (by simpa using hsz)
    rw [List.size_toArray] at h
    refine h.mono fun e w' ⟨h1, d', n, os, hp, hs, hw⟩ => ⟨h1, d'.toList, ?_, ?_, ?_⟩
    · have := hp.2.2
      have h0 : d'.size = L.length := by simpa using hp.1
      simp only [Array.toList_extract, List.extract_eq_take_drop, Nat.sub_zero, List.drop_zero] at this
      rwa [List.take_of_length_le (by simp [h0]), List.take_of_length_le (by simp)] at this
    · intro i j hij hj
      have h0 : d'.size = L.length := by simpa using hp.1
      have := hs i j (Nat.zero_le _) hij (by simpa [h0] using hj)
      unfold ltOf at this
      have e1 := getB d'.toList i
      have e2 := getB d'.toList j
      rw [← e1, ← e2]
      simp only [Array.toArray_toList]
      simpa using this
    · have h0 : d'.toList.length = L.length := by simpa using hp.1
      have := own_sorted (n := n) (os := os) hown h0
      simp only [Array.toArray_toList] at this
      rw [← hw] at this
      exact ⟨this.1, this.2.1.below hbase (by simpa using this.2.2)⟩
end Rep
end Go.Proofs.Ytfmehahjjgalfaa
/- The order of prefixes, as the program tells it; maps by prefixes. -/
namespace Go.Proofs.Ytfmehahjjgalfaa
open Go.RowKit
open Go.ChangeMaps (setBlock)

/-- w' is w with new blocks and draws -/
def Grows (w w' : World) : Prop := ∃ (q : Nat) (os : Array Obj), w' = Go.Sort.grow (w.drewN q) os
theorem drewN_add (w : World) (a b : Nat) : (w.drewN a).drewN b = w.drewN (a + b) := by
  simp [World.drewN, Nat.add_assoc]
theorem grow_drewN (w : World) (os : Array Obj) (b : Nat) : (Go.Sort.grow w os).drewN b = Go.Sort.grow (w.drewN b) os := rfl
theorem Grows.refl (w : World) : Grows w w := ⟨0, #[], by
  show w = Go.Sort.grow (w.drewN 0) #[]
  simp [Go.Sort.grow, World.drewN]⟩
theorem Grows.drewN {w w' : World} (h : Grows w w') (n : Nat) : Grows w (w'.drewN n) := by
  obtain ⟨q, os, rfl⟩ := h
  exact ⟨q + n, os, by rw [grow_drewN, drewN_add]⟩
theorem Grows.drew {w w' : World} (h : Grows w w') : Grows w w'.drew := h.drewN 1
theorem Grows.alloc {w w' : World} (h : Grows w w') (o : Obj) : Grows w (w'.alloc o) := by
  obtain ⟨q, os, rfl⟩ := h
  exact ⟨q, os ++ #[o], by rw [Go.Sort.alloc_eq_grow, Go.Sort.grow_grow]⟩
theorem Grows.trans {a b c : World} (h : Grows a b) (k : Grows b c) : Grows a c := by
  obtain ⟨q, os, rfl⟩ := h
  obtain ⟨q2, os2, rfl⟩ := k
  exact ⟨q + q2, os ++ os2, by rw [grow_drewN, drewN_add, Go.Sort.grow_grow]⟩
theorem Grows.below {w w' : World} (h : Grows w w') : Below w.heap.size w w' := by
  obtain ⟨q, os, rfl⟩ := h
  refine ⟨rfl, rfl, rfl, ?_, fun k hk => ?_⟩
  · show w.heap.size ≤ (w.heap ++ os).size
    simp
  · show (w.heap ++ os)[k]? = _
    rw [Array.getElem?_append_left hk]

def cmpI (a b : Int) : Int := if a < b then -1 else if b < a then 1 else 0
theorem nani_any (a : Int) (w : World) : Calls Try.prog 109 #[.int .i64 a] w fun e w' => e = .returned (.bool false) ∧ w' = w := by
  have h : (a == a) = true := by simp
  go_enter Try.func109, Try.ntmps109
  go_wp2_with fail
  go_ret
  exact ⟨rfl, rfl⟩
theorem nanu_any (a : Int) (w : World) : Calls Try.prog 121 #[.int .u32 a] w fun e w' => e = .returned (.bool false) ∧ w' = w := by
  have h : (a == a) = true := by simp
  go_enter Try.func121, Try.ntmps121
  go_wp2_with fail
  go_ret
  exact ⟨rfl, rfl⟩
theorem cmpi_any (a b : Int) (w : World) : Calls Try.prog 88 #[.int .i64 a, .int .i64 b] w fun e w' => e = .returned (.int .i64 (cmpI a b)) ∧ w' = w := by
  have HA := Lib.hid (fun W => nani_any a W)
  have HB := Lib.hid (fun W => nani_any b W)
  obtain ⟨c, hc⟩ : ∃ c, cmpI a b = c := ⟨_, rfl⟩
  rw [hc]
  unfold cmpI at hc
  have HC := Lib.hid hc
  clear hc
  by_cases h1 : a < b
  · have e1 : (a < b) = True := eq_true h1
    clear h1
    go_enter Try.func88, Try.ntmps88
    go_wp2_with fail
    refine (HA.out _).mono ?_
    rintro e w1 ⟨rfl, hw1⟩
    subst w1
    go_wp2_with fail
    refine (HB.out _).mono ?_
    rintro e w1 ⟨rfl, hw1⟩
    subst w1
    go_wp2_with fail
    go_ret
    exact ⟨ret_int (by rw [← HC.out, if_pos (of_eq_true e1)]), rfl⟩
  · have e1 : (a < b) = False := eq_false h1
    by_cases h2 : b < a
    · have e2 : (b < a) = True := eq_true h2
      clear h1 h2
      go_enter Try.func88, Try.ntmps88
      go_wp2_with fail
      refine (HA.out _).mono ?_
      rintro e w1 ⟨rfl, hw1⟩
      subst w1
      go_wp2_with fail
      refine (HB.out _).mono ?_
      rintro e w1 ⟨rfl, hw1⟩
      subst w1
      go_wp2_with fail
      go_ret
      exact ⟨ret_int (by rw [← HC.out, if_neg (of_eq_false e1), if_pos (of_eq_true e2)]), rfl⟩
    · have e2 : (b < a) = False := eq_false h2
      clear h1 h2
      go_enter Try.func88, Try.ntmps88
      go_wp2_with fail
      refine (HA.out _).mono ?_
      rintro e w1 ⟨rfl, hw1⟩
      subst w1
      go_wp2_with fail
      refine (HB.out _).mono ?_
      rintro e w1 ⟨rfl, hw1⟩
      subst w1
      go_wp2_with fail
      go_ret
      exact ⟨ret_int (by rw [← HC.out, if_neg (of_eq_false e1), if_neg (of_eq_false e2)]), rfl⟩
theorem cmpu_any (a b : Int) (w : World) : Calls Try.prog 98 #[.int .u32 a, .int .u32 b] w fun e w' => e = .returned (.int .i64 (cmpI a b)) ∧ w' = w := by
  have HA := Lib.hid (fun W => nanu_any a W)
  have HB := Lib.hid (fun W => nanu_any b W)
  obtain ⟨c, hc⟩ : ∃ c, cmpI a b = c := ⟨_, rfl⟩
  rw [hc]
  unfold cmpI at hc
  have HC := Lib.hid hc
  clear hc
  by_cases h1 : a < b
  · have e1 : (a < b) = True := eq_true h1
    clear h1
    go_enter Try.func98, Try.ntmps98
    go_wp2_with fail
    refine (HA.out _).mono ?_
    rintro e w1 ⟨rfl, hw1⟩
    subst w1
    go_wp2_with fail
    refine (HB.out _).mono ?_
    rintro e w1 ⟨rfl, hw1⟩
    subst w1
    go_wp2_with fail
    go_ret
    exact ⟨ret_int (by rw [← HC.out, if_pos (of_eq_true e1)]), rfl⟩
  · have e1 : (a < b) = False := eq_false h1
    by_cases h2 : b < a
    · have e2 : (b < a) = True := eq_true h2
      clear h1 h2
      go_enter Try.func98, Try.ntmps98
      go_wp2_with fail
      refine (HA.out _).mono ?_
      rintro e w1 ⟨rfl, hw1⟩
      subst w1
      go_wp2_with fail
      refine (HB.out _).mono ?_
      rintro e w1 ⟨rfl, hw1⟩
      subst w1
      go_wp2_with fail
      go_ret
      exact ⟨ret_int (by rw [← HC.out, if_neg (of_eq_false e1), if_pos (of_eq_true e2)]), rfl⟩
    · have e2 : (b < a) = False := eq_false h2
      clear h1 h2
      go_enter Try.func98, Try.ntmps98
      go_wp2_with fail
      refine (HA.out _).mono ?_
      rintro e w1 ⟨rfl, hw1⟩
      subst w1
      go_wp2_with fail
      refine (HB.out _).mono ?_
      rintro e w1 ⟨rfl, hw1⟩
      subst w1
      go_wp2_with fail
      go_ret
      exact ⟨ret_int (by rw [← HC.out, if_neg (of_eq_false e1), if_neg (of_eq_false e2)]), rfl⟩

/-- cmp.Or of two -/
def or2 (x y : Int) : Int := if x = 0 then y else x
theorem or_any {w : World} {b c : Nat} {x y : Int} (h : w.cell? ⟨b, 0, none⟩ = some (.int .i64 x) ∧ w.cell? ⟨b, 1, none⟩ = some (.int .i64 y)) : Calls Try.prog 87 #[.slice (some ⟨b, 0, none⟩) 2 c] w fun e w' => e = .returned (.int .i64 (or2 x y)) ∧ w' = w := by
  obtain ⟨c0, c1⟩ := h
  have HO := Lib.hid (show (x ≠ 0 → or2 x y = x) ∧ (x = 0 → or2 x y = y) from ⟨fun h => if_neg h, fun h => if_pos h⟩)
  generalize or2 x y = v at *
  go_enter Try.func87, Try.ntmps87
  go_wp2_with fail
  go_loopw [8] (fun kv wr => ∃ k : Nat, k ≤ 2 ∧ kv = .int .i64 k ∧ (0 < k → x = 0) ∧ (1 < k → y = 0) ∧ wr = w) (fun kv _ => 2 - (intOf kv).toNat)
  case atStart => exact ⟨0, by omega, rfl, fun h => by omega, fun h => by omega, rfl⟩
  case round =>
    obtain ⟨k, hk, rfl, h0, h1, rfl⟩ := hrel
    have hk3 : k = 0 ∨ k = 1 ∨ k = 2 := by omega
    rcases hk3 with rfl | rfl | rfl
    · clear h0 h1
      by_cases hx : x = 0
      · have hxt : (x == 0) = true := by simp [hx]
        have HX := Lib.hid hx
        clear hx
        go_wp2_with fail
        exact ⟨⟨1, by omega, rfl, fun _ => HX.out, fun h => by omega, trivial⟩, by decide⟩
      · have hxt : (x == 0) = false := by simpa using hx
        have HX := Lib.hid hx
        clear hx
        go_wp2_with fail
        go_ret
        exact ⟨ret_int (HO.out.1 HX.out).symm, rfl⟩
    · have HX := Lib.hid (h0 (by omega))
      clear h0 h1
      by_cases hy : y = 0
      · have hyt : (y == 0) = true := by simp [hy]
        have HY := Lib.hid hy
        clear hy
        go_wp2_with fail
        exact ⟨⟨2, by omega, rfl, fun _ => HX.out, fun _ => HY.out, trivial⟩, by decide⟩
      · have hyt : (y == 0) = false := by simpa using hy
        clear hy
        go_wp2_with fail
        go_ret
        exact ⟨ret_int (HO.out.2 HX.out).symm, rfl⟩
    · have HX := Lib.hid (h0 (by omega))
      have HY := Lib.hid (h1 (by omega))
      clear h0 h1
      go_wp2_with fail
      go_ret
      exact ⟨ret_int (by rw [HO.out.2 HX.out, HY.out]), rfl⟩
theorem or_cmp (a b : PK) : or2 (cmpI (a.1 : Int) (b.1 : Int)) (cmpI a.2 b.2) = cmpK a b := by
  unfold or2 cmpI cmpK cmpP
  (repeat' split) <;> omega
def TwoS (q0 q1 : Nat) (a b : PK) (w : World) : Prop := w.heap[q0]? = some (.cells #[.int .u32 (a.1 : Int), .int .i64 a.2] 58) ∧ w.heap[q1]? = some (.cells #[.int .u32 (b.1 : Int), .int .i64 b.2] 58)
theorem TwoS.cells {q0 q1 : Nat} {a b : PK} {w : World} (h : TwoS q0 q1 a b w) : (w.cell? ⟨q0, 0, none⟩ = some (.int .u32 (a.1 : Int)) ∧ w.cell? ⟨q0, 1, none⟩ = some (.int .i64 a.2)) ∧ w.cell? ⟨q1, 0, none⟩ = some (.int .u32 (b.1 : Int)) ∧ w.cell? ⟨q1, 1, none⟩ = some (.int .i64 b.2) := ⟨⟨cell_of h.1 rfl, cell_of h.1 rfl⟩, cell_of h.2 rfl, cell_of h.2 rfl⟩
theorem TwoS.on {q0 q1 : Nat} {a b : PK} {w w' : World} (h : TwoS q0 q1 a b w) (hb : Below w.heap.size w w') : TwoS q0 q1 a b w' := ⟨(hb.block _ (lt_of_blk h.1)).trans h.1, (hb.block _ (lt_of_blk h.2)).trans h.2⟩
set_option maxRecDepth 100000 in
theorem acompare_any (a b : PK) (w : World) : Calls Try.prog 83 #[pfx a.1 a.2, pfx b.1 b.2] w fun e w' => e = .returned (.int .i64 (cmpK a b)) ∧ Grows w w' := by
  have hg := ((Grows.refl w).alloc (.cells #[.int .u32 (a.1 : Int), .int .i64 a.2] 58)).alloc (.cells #[.int .u32 (b.1 : Int), .int .i64 b.2] 58)
  have ht : TwoS w.heap.size (w.heap.size + 1) a b ((w.alloc (.cells #[.int .u32 (a.1 : Int), .int .i64 a.2] 58)).alloc (.cells #[.int .u32 (b.1 : Int), .int .i64 b.2] 58)) := ⟨hold (hnew _ _), hnewAt (by simp)⟩
  have F0 := Lib.hid (And.intro hg.drew (show TwoS w.heap.size (w.heap.size + 1) a b ((w.alloc (.cells #[.int .u32 (a.1 : Int), .int .i64 a.2] 58)).alloc (.cells #[.int .u32 (b.1 : Int), .int .i64 b.2] 58)).drew from ht))
  have HV := Lib.hid (or_cmp a b)
  unfold pfx
  clear hg ht
  generalize cmpK a b = v at *
  go_enter Try.func83, Try.ntmps83
  go_wp2_with fail
  refine wp_region_heldP (TwoS w.heap.size (w.heap.size + 1) a b) (by kernel_rfl) ?_
  generalize ((w.alloc (.cells #[.int .u32 (a.1 : Int), .int .i64 a.2] 58)).alloc (.cells #[.int .u32 (b.1 : Int), .int .i64 b.2] 58)).drew = W1 at *
  generalize w.heap.size = q at *
  refine held_reads [0, 1, 2, 3, 5, 6, 7, 8] (g := 5) rfl (by kernel_rfl) F0.out.2 (fun _ _ d _ _ h => by cases d <;> exact h) ?_
  simp only [pick, List.getD_cons_zero, List.getD_cons_succ]
  ((with_reducible refine wpRead_step (fun K hK => ?_)); go_simp; first | ((with_reducible refine hK _ ?_); clear hK K) | (apply Exists.intro; (with_reducible refine ⟨fun w' hw' => ?_, hK _ ?_⟩); (first | exact rfl | exact ⟨rfl, rfl⟩); clear hK K))
  ((with_reducible refine wpRead_step (fun K hK => ?_)); go_simp; first | ((with_reducible refine hK _ ?_); clear hK K) | (apply Exists.intro; (with_reducible refine ⟨fun w' hw' => ?_, hK _ ?_⟩); (obtain ⟨⟨f0, f1⟩, f2, f3⟩ := TwoS.cells hw'; go_simp; first | exact rfl | exact ⟨rfl, rfl⟩); clear hK K))
  ((with_reducible refine wpRead_step (fun K hK => ?_)); go_simp; first | ((with_reducible refine hK _ ?_); clear hK K) | (apply Exists.intro; (with_reducible refine ⟨fun w' hw' => ?_, hK _ ?_⟩); (first | exact rfl | exact ⟨rfl, rfl⟩); clear hK K))
  ((with_reducible refine wpRead_step (fun K hK => ?_)); go_simp; first | ((with_reducible refine hK _ ?_); clear hK K) | (apply Exists.intro; (with_reducible refine ⟨fun w' hw' => ?_, hK _ ?_⟩); (obtain ⟨⟨f0, f1⟩, f2, f3⟩ := TwoS.cells hw'; go_simp; first | exact rfl | exact ⟨rfl, rfl⟩); clear hK K))
  ((with_reducible refine wpRead_step (fun K hK => ?_)); go_simp; first | ((with_reducible refine hK _ ?_); clear hK K) | (apply Exists.intro; (with_reducible refine ⟨fun w' hw' => ?_, hK _ ?_⟩); (first | exact rfl | exact ⟨rfl, rfl⟩); clear hK K))
  ((with_reducible refine wpRead_step (fun K hK => ?_)); go_simp; first | ((with_reducible refine hK _ ?_); clear hK K) | (apply Exists.intro; (with_reducible refine ⟨fun w' hw' => ?_, hK _ ?_⟩); (obtain ⟨⟨f0, f1⟩, f2, f3⟩ := TwoS.cells hw'; go_simp; first | exact rfl | exact ⟨rfl, rfl⟩); clear hK K))
  ((with_reducible refine wpRead_step (fun K hK => ?_)); go_simp; first | ((with_reducible refine hK _ ?_); clear hK K) | (apply Exists.intro; (with_reducible refine ⟨fun w' hw' => ?_, hK _ ?_⟩); (first | exact rfl | exact ⟨rfl, rfl⟩); clear hK K))
  ((with_reducible refine wpRead_step (fun K hK => ?_)); go_simp; first | ((with_reducible refine hK _ ?_); clear hK K) | (apply Exists.intro; (with_reducible refine ⟨fun w' hw' => ?_, hK _ ?_⟩); (obtain ⟨⟨f0, f1⟩, f2, f3⟩ := TwoS.cells hw'; go_simp; first | exact rfl | exact ⟨rfl, rfl⟩); clear hK K))
  with_reducible refine wpRead_nil ?_
  refine held_one 4 (by kernel_rfl) ?_
  simp only [pick, List.getD_cons_zero, List.getD_cons_succ]
  go_wp2_with fail
  refine (cmpu_any _ _ _).mono ?_
  rintro e W2 ⟨rfl, hw⟩
  subst hw
  go_wp2_with fail
  refine ⟨F0.out.2, ?_⟩
  refine held_one 9 (by kernel_rfl) ?_
  simp only [pick, List.getD_cons_zero, List.getD_cons_succ]
  go_wp2_with fail
  refine (cmpi_any _ _ _).mono ?_
  rintro e W2 ⟨rfl, hw⟩
  subst hw
  go_wp2_with fail
  refine ⟨F0.out.2, ?_⟩
  have hal := (Below.refl W2.heap.size W2).alloc (Nat.le_refl _) (.cells #[.int .i64 (cmpI (a.1 : Int) (b.1 : Int)), .int .i64 (cmpI a.2 b.2)] 3)
  have hnb : (W2.alloc (.cells #[.int .i64 (cmpI (a.1 : Int) (b.1 : Int)), .int .i64 (cmpI a.2 b.2)] 3)).heap[W2.heap.size]? = some (.cells #[.int .i64 (cmpI (a.1 : Int) (b.1 : Int)), .int .i64 (cmpI a.2 b.2)] 3) := hnew _ _
  have F1 := Lib.hid (And.intro (F0.out.1.alloc (.cells #[.int .i64 (cmpI (a.1 : Int) (b.1 : Int)), .int .i64 (cmpI a.2 b.2)] 3)) (And.intro (F0.out.2.on hal) (show (W2.alloc (.cells #[.int .i64 (cmpI (a.1 : Int) (b.1 : Int)), .int .i64 (cmpI a.2 b.2)] 3)).cell? ⟨W2.heap.size, 0, none⟩ = some (.int .i64 (cmpI (a.1 : Int) (b.1 : Int))) ∧ (W2.alloc (.cells #[.int .i64 (cmpI (a.1 : Int) (b.1 : Int)), .int .i64 (cmpI a.2 b.2)] 3)).cell? ⟨W2.heap.size, 1, none⟩ = some (.int .i64 (cmpI a.2 b.2)) from ⟨cell_of hnb rfl, cell_of hnb rfl⟩)))
  clear hal hnb F0
  refine held_one 10 (by kernel_rfl) ?_
  simp only [pick, List.getD_cons_zero, List.getD_cons_succ]
  go_wp2_with fail
  generalize W2.alloc (.cells #[.int .i64 (cmpI (a.1 : Int) (b.1 : Int)), .int .i64 (cmpI a.2 b.2)] 3) = W3 at *
  generalize W2.heap.size = q2 at *
  refine ⟨F1.out.2.1, ?_⟩
  refine held_one 11 (by kernel_rfl) ?_
  simp only [pick, List.getD_cons_zero, List.getD_cons_succ]
  go_wp2_with fail
  refine (or_any F1.out.2.2).mono ?_
  rintro e W4 ⟨rfl, hw⟩
  subst hw
  rw [HV.out]
  go_wp2_with fail
  refine ⟨F1.out.2.1, ?_⟩
  refine held_one 12 (by kernel_rfl) ?_
  simp only [pick, List.getD_cons_zero, List.getD_cons_succ]
  go_wp2_with fail
  refine ⟨F1.out.2.1, ?_⟩
  refine wpAnyH_done (by kernel_rfl) ?_ _
  go_wp2_with fail
  go_ret
  exact ⟨rfl, F1.out.1⟩
end Go.Proofs.Ytfmehahjjgalfaa
/- Great structs: an aggregate known by a few of its cells: loaded whole, built, with its cells out of sight. -/
namespace Go.Proofs.Ytfmehahjjgalfaa
open Go.RowKit

section
variable {P : Program} {ops : Array Oper} {rest : List Oper} {o : Oper} {a : Act} {Q : Exit → Act → World → Prop} {w : World}
theorem halt_load (ty : TypeId) {x : Operand} (_ho : o.op = .load ty x) (h : Halted (wpList P ops Q (o :: rest) a w)) : wpList P ops Q (o :: rest) a w := h
theorem halt_build (ty : TypeId) {x : Array (Nat × Operand)} (_ho : o.op = .build ty x) (h : Halted (wpList P ops Q (o :: rest) a w)) : wpList P ops Q (o :: rest) a w := h
theorem load_whole (hgd : o.guard = none) (ty : TypeId) (x : Operand) (ho : o.op = .load ty x) (b : Nat) (cells : Array Value) (hx : a.eval x = .pointer (some ⟨b, 0, none⟩))
    {T : TypeId} {fr : Nat × Nat} (hb : w.heap[b]? = some (.cells cells T fr)) {d : TypeDesc} (hu : P.underlying ty = some d) (hd : d.isRow = true) (hi : (P.info? ty).map (·.size) = some cells.size)
    (h : wpList P ops Q rest (a.put o.dst (.agg cells)) w) : wpList P ops Q (o :: rest) a w :=
  wpList_plain hgd fun K hK => by
    have hk := hK _ _ h
    unfold Oper.wp execOp
    have hr := run_load_whole (P := P) (ty := ty) hb hu hd hi
    have hl : (Instr.loadAt ty (.pointer (some ⟨b, 0, none⟩))).run P w = .ok (.agg cells) w := by
      simp only [Instr.loadAt, Instr.sureAddr, Sem.run_bind, Sem.run_pure, Result.andThen_ok]
      exact hr
    simp only [ho, hx, Sem.run_bind, hl, Sem.run_pure, Result.andThen_ok]
    exact hk
theorem exec_load_whole (ty : TypeId) (x : Operand) (ho : o.op = .load ty x) (b : Nat) (cells : Array Value) (hx : a.eval x = .pointer (some ⟨b, 0, none⟩))
    {T : TypeId} {fr : Nat × Nat} (hb : w.heap[b]? = some (.cells cells T fr)) {d : TypeDesc} (hu : P.underlying ty = some d) (hd : d.isRow = true) (hi : (P.info? ty).map (·.size) = some cells.size) : (execOp a.eval o).run P w = .ok (.value (.agg cells)) w := by
  have hl : (Instr.loadAt ty (.pointer (some ⟨b, 0, none⟩))).run P w = .ok (.agg cells) w := by
    simp only [Instr.loadAt, Instr.sureAddr, Sem.run_bind, Sem.run_pure, Result.andThen_ok]
    exact run_load_whole (P := P) (ty := ty) hb hu hd hi
  unfold execOp
  simp only [ho, hx, Sem.run_bind, hl, Sem.run_pure, Result.andThen_ok]
theorem exec_build (ty : TypeId) (x : Array (Nat × Operand)) (ho : o.op = .build ty x) (cells : Array Value) (hp : P.built ty (x.toList.map (fun p => (p.1, a.eval p.2))) = some cells) : (execOp a.eval o).run P w = .ok (.value (.agg cells)) w := by
  have hl := run_build (P := P) w ty (x.map (fun p => (p.1, a.eval p.2))) cells (by rw [Array.toList_map]; exact hp)
  unfold execOp
  simp only [ho, Sem.run_bind, hl, Sem.run_pure, Result.andThen_ok]
/-- an operation that yields a value -/
theorem op_value (hgd : o.guard = none) (v : Value) (hrun : (execOp a.eval o).run P w = .ok (.value v) w) (h : wpList P ops Q rest (a.put o.dst v) w) : wpList P ops Q (o :: rest) a w :=
  wpList_plain hgd fun K hK => by
    have hk := hK _ _ h
    unfold Oper.wp
    rw [hrun]
    exact hk
end
/-- the cells v are laid from off on -/
theorem lay_get (l : List Value) : ∀ (k off : Nat) (cs : Array Value), ((l.zipIdx k).foldl (fun cs (p : Value × Nat) => cs.setIfInBounds (off + p.2) p.1) cs).size = cs.size ∧
    ∀ j, off + k + l.length ≤ cs.size → ((l.zipIdx k).foldl (fun cs (p : Value × Nat) => cs.setIfInBounds (off + p.2) p.1) cs)[j]? = if off + k ≤ j ∧ j < off + k + l.length then l[j - (off + k)]? else cs[j]? := by
  induction l with
  | nil => intro k off cs; exact ⟨rfl, fun j _ => by rw [if_neg (by simp)]; rfl⟩
  | cons x r ih =>
    intro k off cs
    obtain ⟨h1, h2⟩ := ih (k + 1) off (cs.setIfInBounds (off + k) x)
    rw [List.zipIdx_cons, List.foldl_cons]
    refine ⟨by rw [h1]; simp, fun j hj => ?_⟩
    rw [List.length_cons] at hj ⊢
    rw [h2 j (by simp; omega), Array.getElem?_setIfInBounds]
    by_cases e : off + k = j
    · subst e
      rw [if_neg (by omega), if_pos rfl, if_pos (by omega), if_pos (by omega)]
      simp
    · by_cases c : off + (k + 1) ≤ j ∧ j < off + (k + 1) + r.length
      · rw [if_pos c, if_pos (by omega)]
        rw [show j - (off + k) = (j - (off + (k + 1))) + 1 by omega, List.getElem?_cons_succ]
      · rw [if_neg c, if_neg e, if_neg (by omega)]
theorem lay_arr (v : Array Value) (off : Nat) (cs : Array Value) : (v.zipIdx.foldl (fun cs (p : Value × Nat) => cs.setIfInBounds (off + p.2) p.1) cs).size = cs.size ∧
    ∀ j, off + v.size ≤ cs.size → (v.zipIdx.foldl (fun cs (p : Value × Nat) => cs.setIfInBounds (off + p.2) p.1) cs)[j]? = if off ≤ j ∧ j < off + v.size then v[j - off]? else cs[j]? := by
  have h := lay_get v.toList 0 off cs
  rw [← Array.foldl_toList, Array.toList_zipIdx]
  refine ⟨h.1, fun j hj => ?_⟩
  have h2 := h.2 j (by simpa using hj)
  simp only [Nat.add_zero, Array.length_toList, Array.getElem?_toList] at h2
  exact h2
end Go.Proofs.Ytfmehahjjgalfaa
/- Quiet steps of a drawn region: a guard that holds; a struct loaded whole; a call. -/
namespace Go.Proofs.Ytfmehahjjgalfaa
open Go Go.RowKit

section
variable {P : Program} {ops : Array Oper} {C : World → Prop} {Q : Act → Prop} {K : Act → Prop} {a : Act} {o : Oper} {rest : List Oper}
theorem wpQuiet_yes (h : ∀ K : Act → Prop, (∀ a, wpQuiet P ops C Q rest a → K a) → o.quiet P a C K) (hw : Region.wanted o (yielded ops a.tmps) = true) : wpQuiet P ops C Q (o :: rest) a := by
  unfold wpQuiet
  rw [if_pos hw]
  exact h _ fun _ h => h
theorem quiet_value (v : Value) (h : ∀ w, C w → (execOp a.eval o).run P w = .ok (.value v) w) (hK : K (a.put o.dst v)) : o.quiet P a C K :=
  ⟨v, fun w hw => by unfold Oper.quietAt; rw [h w hw]; exact ⟨rfl, rfl⟩, hK⟩
theorem exec_load_mid {w : World} (ty : TypeId) (x : Operand) (ho : o.op = .load ty x) (b off : Nat) (cells : Array Value) (hx : a.eval x = .pointer (some ⟨b, off, none⟩))
    (hb : w.rangeAt b off cells.toList) {d : TypeDesc} (hu : P.underlying ty = some d) (hd : d.isRow = true) (hi : (P.info? ty).map (·.size) = some cells.size) : (execOp a.eval o).run P w = .ok (.value (.agg cells)) w := by
  have hr := run_loadVar_mid (P := P) w b off ty cells.toList d hb hu hd (by simpa using hi)
  have hl : (Instr.loadAt ty (.pointer (some ⟨b, off, none⟩))).run P w = .ok (.agg cells) w := by
    simp only [Instr.loadAt, Instr.sureAddr, Sem.run_bind, Sem.run_pure, Result.andThen_ok]
    simpa using hr
  unfold execOp
  simp only [ho, hx, Sem.run_bind, hl, Sem.run_pure, Result.andThen_ok]
theorem quiet_load (ty : TypeId) (x : Operand) (ho : o.op = .load ty x) (b off : Nat) (cells : Array Value) (hx : a.eval x = .pointer (some ⟨b, off, none⟩))
    (hb : ∀ w, C w → w.rangeAt b off cells.toList) {d : TypeDesc} (hu : P.underlying ty = some d) (hd : d.isRow = true) (hi : (P.info? ty).map (·.size) = some cells.size) (hK : K (a.put o.dst (.agg cells))) : o.quiet P a C K :=
  quiet_value _ (fun _ hw => exec_load_mid ty x ho b off cells hx (hb _ hw) hu hd hi) hK
theorem rangeAt_block {w : World} {b : Nat} {cells : Array Value} {T : TypeId} {fr : Nat × Nat} (h : w.heap[b]? = some (.cells cells T fr)) (off : Nat) (l : List Value) (hl : (cells.toList.drop off).take l.length = l) : w.rangeAt b off l := by
  intro j v hv
  refine cell_of h ?_
  have hj : j < l.length := (List.getElem?_eq_some_iff.1 hv).1
  rw [← hl] at hv
  rw [List.getElem?_take, if_pos hj, List.getElem?_drop] at hv
  simpa using hv
end
end Go.Proofs.Ytfmehahjjgalfaa
/- A struct loaded whole, as one of those that read ahead of a write. -/
namespace Go.Proofs.Ytfmehahjjgalfaa
open Go Go.RowKit
section
variable {P : Program} {ops : Array Oper} {S : World → Prop} {L : Act → Prop} {K : Act → Prop} {a : Act} {o : Oper} {rest : List Oper}
theorem wpRead_yes (h : ∀ K : Act → Prop, (∀ a, wpRead P ops S L rest a → K a) → ∃ v, (∀ w, S w → (execOp a.eval o).run P w = .ok (.value v) w) ∧ K (a.put o.dst v)) (hw : Region.wanted o (yielded ops a.tmps) = true) : wpRead P ops S L (o :: rest) a := by
  unfold wpRead
  rw [if_pos hw]
  exact h _ fun _ h => h
theorem read_load (ty : TypeId) (x : Operand) (ho : o.op = .load ty x) (b off : Nat) (cells : Array Value) (hx : a.eval x = .pointer (some ⟨b, off, none⟩))
    (hb : ∀ w, S w → w.rangeAt b off cells.toList) {d : TypeDesc} (hu : P.underlying ty = some d) (hd : d.isRow = true) (hi : (P.info? ty).map (·.size) = some cells.size) (hK : K (a.put o.dst (.agg cells))) : ∃ v, (∀ w, S w → (execOp a.eval o).run P w = .ok (.value v) w) ∧ K (a.put o.dst v) :=
  ⟨_, fun _ hw => exec_load_mid ty x ho b off cells hx (hb _ hw) hu hd hi, hK⟩
end
end Go.Proofs.Ytfmehahjjgalfaa
/- A table of detours: New, Set, Get, Delete, Len. -/
namespace Go.Proofs.Ytfmehahjjgalfaa
open Go.RowKit
open Go.ChangeMaps (setBlock)

theorem laidOut : laidOutB Try.prog = true := by kernel_rfl
theorem rowP : (58 : TypeId) < Try.prog.types.size := of_decide_eq_true (by kernel_rfl)
theorem wideP : (match Try.prog.underlying 58 with | some (.array _ _) | some (.struct _) => true | _ => false) = true := by kernel_rfl
set_option maxRecDepth 100000 in
theorem lawP : WideMaps.KeyLaw Try.prog 58 := deep_law_laid laidOut (m := 2) (by omega) rowP (by kernel_rfl) wideP
theorem keyP : Try.prog.keyType 58 = true := by kernel_rfl
theorem sizeT : Try.prog.types.size + 1 = 204 + 1 + 1 + 1 := by kernel_rfl
theorem cellsP : Try.prog.cellsOf 58 = 2 := by kernel_rfl
theorem cells3 : Try.prog.cellsOf 3 = 1 := by kernel_rfl
theorem cells22 : Try.prog.cellsOf 56 = 1 := by kernel_rfl
def PK.val (k : PK) : Value := .agg #[.int .u32 (k.1 : Int), .int .i64 k.2]
def PK.wf (k : PK) : Prop := (Lit.int .u32 (k.1 : Int)).wf = true ∧ (Lit.int .i64 k.2).wf = true
theorem PK.reads (k : PK) (h : PK.wf k) : ∃ l, keyOf Try.prog 58 (PK.val k) = some l := by
  obtain ⟨h2, h3⟩ := h
  have hf : (PK.val k).formed Try.prog 58 = true := by simp [Value.formed, Try.underlying58, PK.val, cellsP]
  have i1 : ∀ d n, (Lit.int .i64 n).wf = true → Try.prog.keyLits (d + 1) 3 [.int .i64 n] = some [.int .i64 n] := by
    intro d n h; simp [Program.keyLits, Try.underlying3, h]
  have i2 : ∀ d n, (Lit.int .u32 n).wf = true → Try.prog.keyLits (d + 1) 56 [.int .u32 n] = some [.int .u32 n] := by
    intro d n h; simp [Program.keyLits, Try.underlying56, h]
  have i3 : ∀ d, Try.prog.keyLits (d + 1 + 1) 58 [.int .u32 (k.1 : Int), .int .i64 k.2] = some [.int .u32 (k.1 : Int), .int .i64 k.2] := by
    intro d; unfold Program.keyLits; simp [Try.underlying58, cellsP, cells3, cells22, i1 d _ h3, i2 d _ h2]
  unfold keyOf
  simp only [Try.underlying58]
  rw [keyP, hf, sizeT]
  have := i3 (204 + 1)
  simp only [PK.val, Value.cells, this]
  exact ⟨_, rfl⟩
def PN : MR.Enc Try.prog 58 PK where
  enc := PK.val
  ok := PK.wf
  law := Maps.Keyed.of_law lawP
  reads := PK.reads
  inj a b h := by
    obtain ⟨a1, a2⟩ := a
    obtain ⟨b1, b2⟩ := b
    simp [PK.val] at h
    exact Prod.ext (by omega) h.2
theorem wfI {n : Int} (h : -9223372036854775808 ≤ n ∧ n ≤ 9223372036854775807) : (Lit.int .i64 n).wf = true := by
  simp only [Lit.wf, IntKind.min, IntKind.max, IntKind.signed, IntKind.bits, Bool.and_eq_true, decide_eq_true_eq]
  simpa using h
theorem wfU {n : Int} (h : 0 ≤ n ∧ n ≤ 4294967295) : (Lit.int .u32 n).wf = true := by
  simp only [Lit.wf, IntKind.min, IntKind.max, IntKind.signed, IntKind.bits, Bool.and_eq_true]
  simpa using h
theorem setBlock_other {b i : Nat} {W : World} {o : Obj} (h : i ≠ b) : (setBlock W b o).heap[i]? = W.heap[i]? := by
  show (W.heap.setIfInBounds b o)[i]? = _
  rw [Array.getElem?_setIfInBounds, if_neg (Ne.symm h)]
theorem bcall {B : Nat} {w w2 w3 : World} (h : Below B w w2) (hB : B ≤ w.heap.size) (h3 : Below w2.heap.size w2 w3) : Below B w w3 := h.trans (h3.mono (Nat.le_trans hB h.size))
/-- these blocks are as they were -/
def SameAt (bs : List Nat) (w0 w : World) : Prop := ∀ b ∈ bs, w.heap[b]? = w0.heap[b]?
theorem SameAt.refl (bs : List Nat) (w : World) : SameAt bs w w := fun _ _ => rfl
theorem SameAt.on {bs : List Nat} {w0 w w' : World} (h : SameAt bs w0 w) (hb : Below w.heap.size w w') (hl : ∀ b ∈ bs, b < w.heap.size) : SameAt bs w0 w' := fun b hm => (hb.block _ (hl b hm)).trans (h b hm)

/-- a table of detours in memory -/
structure TabAt (w : World) (t bm : Nat) (L : List Ov) : Prop where
  out : ∃ clk es, w.heap[t]? = some (.cells #[.map (some bm)] 115) ∧ MR.MapAt PN w bm es clk ∧ Kl.Lay Ov.key Ov.v es L
  ord : Ord L
theorem TabAt.on {w w' : World} {t bm : Nat} {L : List Ov} (H : TabAt w t bm L) (h1 : w'.heap[t]? = w.heap[t]?) (h2 : w'.heap[bm]? = w.heap[bm]?) : TabAt w' t bm L := by
  obtain ⟨⟨clk, es, k1, k2, k3⟩, ho⟩ := H
  exact ⟨⟨clk, es, h1.trans k1, k2.blk_iff PN h2, k3⟩, ho⟩
theorem TabAt.lt {w : World} {t bm : Nat} {L : List Ov} (H : TabAt w t bm L) : t < w.heap.size ∧ bm < w.heap.size ∧ t ≠ bm := by
  obtain ⟨⟨clk, es, k1, k2, k3⟩, ho⟩ := H
  exact ⟨lt_of_blk k1, lt_of_blk k2.blk, fun e => by subst e; rw [k2.blk] at k1; cases k1⟩
theorem TabAt.keep {w w' : World} {t bm : Nat} {L : List Ov} (H : TabAt w t bm L) (hb : Below w.heap.size w w') : TabAt w' t bm L := H.on (hb.block _ H.lt.1) (hb.block _ H.lt.2.1)
theorem TabAt.c0 {w : World} {t bm : Nat} {L : List Ov} (H : TabAt w t bm L) : w.cell? ⟨t, 0, none⟩ = some (.map (some bm)) := by
  obtain ⟨⟨clk, es, k1, k2, k3⟩, ho⟩ := H
  exact cell_of k1 rfl
theorem zeroO (w : World) : (zeroValue 62).run Try.prog w = .ok (.agg #[.int .i64 0, .int .u32 0, .int .i64 0, .int .i64 0, .int .i64 0]) w := by kernel_rfl
def getO (L : List Ov) (k : PK) : Ov := (Kl.look Ov.key L k).getD ovZ
theorem TabAt.lookup {w : World} {t bm : Nat} {L : List Ov} (H : TabAt w t bm L) {k : PK} (hk : PN.ok k) (W : World) (hW : W.heap[bm]? = w.heap[bm]?) :
    (Instr.lookup 113 (.map (some bm)) (.agg #[.int .u32 (k.1 : Int), .int .i64 k.2]) true).run Try.prog W = .ok (.tuple #[(getO L k).v, .bool (hasO L k)]) W := by
  obtain ⟨⟨clk, es, k1, k2, k3⟩, ho⟩ := H
  have h := MR.run_lookup PN (k2.blk_iff PN hW) hk Try.underlying113 zeroO true
  rw [k3.get, if_pos rfl] at h
  have e1 : ((Kl.look Ov.key L k).map Ov.v).getD (.agg #[.int .i64 0, .int .u32 0, .int .i64 0, .int .i64 0, .int .i64 0]) = (getO L k).v := by unfold getO; cases Kl.look Ov.key L k <;> rfl
  have e2 : ((Kl.look Ov.key L k).map Ov.v).isSome = hasO L k := by unfold hasO; cases Kl.look Ov.key L k <;> rfl
  rw [e1, e2] at h
  exact h
theorem TabAt.update {w : World} {t bm : Nat} {L : List Ov} (H : TabAt w t bm L) {o : Ov} (hk : PN.ok o.key) :
    ∃ O, (Instr.mapUpdate 113 (.map (some bm)) (.agg #[.int .u32 (o.ad : Int), .int .i64 o.ln]) (.agg #[.int .i64 o.r, .int .u32 (o.ad : Int), .int .i64 o.ln, .int .i64 o.id, .int .i64 o.till])).run Try.prog w = .ok () (setBlock w bm O) ∧ TabAt (setBlock w bm O) t bm (setO L o) := by
  have hne := H.lt.2.2
  obtain ⟨⟨clk, es, k1, k2, k3⟩, ho⟩ := H
  have hu := MR.run_update PN k2 hk Try.underlying113 (Ov.v o)
  exact ⟨_, hu.1, ⟨_, _, (setBlock_other hne).trans k1, hu.2, k3.put (ho.set o).keys (look_set ho o) hu.2.nodup hu.2.bnodup⟩, ho.set o⟩
theorem TabAt.delete {w : World} {t bm : Nat} {L : List Ov} (H : TabAt w t bm L) {k : PK} (hk : PN.ok k) (K' ty : TypeId) :
    ∃ O, (Builtin.delete_ #[113, K'] ty #[.map (some bm), .agg #[.int .u32 (k.1 : Int), .int .i64 k.2]]).run Try.prog w = .ok (.tuple #[]) (setBlock w bm O) ∧ TabAt (setBlock w bm O) t bm (L.filter fun x => decide (x.key ≠ k)) := by
  have hne := H.lt.2.2
  obtain ⟨⟨clk, es, k1, k2, k3⟩, ho⟩ := H
  have hu := MR.run_delete PN k2 hk Try.underlying113 (K' := K') ty
  exact ⟨_, hu.1, ⟨_, _, (setBlock_other hne).trans k1, hu.2, k3.del k⟩, ho.filter _⟩
theorem TabAt.len {w : World} {t bm : Nat} {L : List Ov} (H : TabAt w t bm L) (W : World) (hW : W.heap[bm]? = w.heap[bm]?) (ty : TypeId) : (Builtin.len_ #[113] ty #[.map (some bm)]).run Try.prog W = .ok (.int .i64 L.length) W := by
  obtain ⟨⟨clk, es, k1, k2, k3⟩, ho⟩ := H
  have := MR.run_len PN (k2.blk_iff PN hW) Try.underlying113 ty
  rw [k3.len] at this
  exact this
set_option maxRecDepth 100000 in
theorem tnew_any (w : World) : Calls Try.prog 30 #[] w fun e w' => ∃ t bm, e = .returned (.pointer (some ⟨t, 0, none⟩)) ∧ TabAt w' t bm [] ∧ Below w.heap.size w w' ∧ w.heap.size ≤ t ∧ w.heap.size ≤ bm := by
  have hmm := @run_makeMap Try.prog
  go_enter Try.func30, Try.ntmps30
  go_wp2_with fail
  go_ret
  exact ⟨w.heap.size + 1, w.heap.size, rfl, ⟨⟨0, [], hnewAt (by simp), MR.mapAt_made PN (hold (hnew _ _)), Kl.Lay.nil⟩, Ord.nil⟩, ((Below.refl _ _).alloc (Nat.le_refl _) _).alloc (by simp) _, by omega, Nat.le_refl _⟩
theorem tmade_nil (w : World) : Calls Try.prog 67 #[.pointer none] w fun e w' => e = .returned (.bool false) ∧ w' = w := by
  go_enter Try.func67, Try.ntmps67
  go_wp2_with fail
  go_ret
  exact ⟨rfl, rfl⟩
set_option maxRecDepth 100000 in
theorem tmade_any {w : World} {t bm : Nat} {L : List Ov} (H : TabAt w t bm L) : Calls Try.prog 67 #[.pointer (some ⟨t, 0, none⟩)] w fun e w' => e = .returned (.bool true) ∧ w' = w := by
  have c0 := H.c0
  clear H
  have hne : (binOp BinOp.neq 113 (.map (some bm)) (.map none)).run Try.prog w = .ok (.bool true) w := by kernel_rfl
  go_enter Try.func67, Try.ntmps67
  go_wp2_with fail
  go_ret
  exact ⟨rfl, rfl⟩
set_option maxRecDepth 100000 in
theorem tlen_nil (w : World) : Calls Try.prog 43 #[.pointer none] w fun e w' => e = .returned (.int .i64 0) ∧ w' = w := by
  go_enter Try.func43, Try.ntmps43
  go_wp2_with fail
  go_ret
  exact ⟨rfl, rfl⟩
set_option maxRecDepth 100000 in
theorem tlen_any {w : World} {t bm : Nat} {L : List Ov} (H : TabAt w t bm L) : Calls Try.prog 43 #[.pointer (some ⟨t, 0, none⟩)] w fun e w' => e = .returned (.int .i64 (L.length : Nat)) ∧ w' = w := by
  have c0 := H.c0
  have hl := H.len w rfl
  clear H
  generalize L.length = n at *
  go_enter Try.func43, Try.ntmps43
  go_wp2_with fail
  go_ret
  exact ⟨rfl, rfl⟩
def setE (L : List Ov) (o : Ov) : Int := if okP o.ad o.ln then (if !hasO L o.key && decide (4096 ≤ L.length) then 2 else 0) else 20
structure TSet (w w' : World) (t bm : Nat) (L : List Ov) (o : Ov) : Prop where
  tab : TabAt w' t bm (if setE L o = 0 then setO L o else L)
  but : But w w' [bm]
theorem tset_nil (o : Ov) (w : World) : Calls Try.prog 32 #[.pointer none, o.v] w fun e w' => e = .returned (.int .i64 6) ∧ Below w.heap.size w w' := by
  have HB := Lib.hid ((Below.refl w.heap.size w).alloc (Nat.le_refl _) (.cells #[.int .i64 o.r, .int .u32 (o.ad : Int), .int .i64 o.ln, .int .i64 o.id, .int .i64 o.till] 62))
  unfold Ov.v
  go_enter Try.func32, Try.ntmps32
  go_wp2_with fail
  refine (tmade_nil _).mono ?_
  rintro e W1 ⟨rfl, rfl⟩
  go_wp2_with fail
  go_ret
  exact ⟨rfl, HB.out⟩
def OvS (q : Nat) (o : Ov) (w : World) : Prop := w.heap[q]? = some (.cells #[.int .i64 o.r, .int .u32 (o.ad : Int), .int .i64 o.ln, .int .i64 o.id, .int .i64 o.till] 62)
theorem OvS.cells {q : Nat} {o : Ov} {w : World} (h : OvS q o w) : w.cell? ⟨q, 0, none⟩ = some (.int .i64 o.r) ∧ w.cell? ⟨q, 1, none⟩ = some (.int .u32 (o.ad : Int)) ∧ w.cell? ⟨q, 2, none⟩ = some (.int .i64 o.ln) ∧ w.cell? ⟨q, 3, none⟩ = some (.int .i64 o.id) ∧ w.cell? ⟨q, 4, none⟩ = some (.int .i64 o.till) := ⟨cell_of h rfl, cell_of h rfl, cell_of h rfl, cell_of h rfl, cell_of h rfl⟩
theorem OvS.on {q : Nat} {o : Ov} {w w' : World} (h : OvS q o w) (hb : w'.heap[q]? = w.heap[q]?) : OvS q o w' := hb.trans h
set_option maxRecDepth 100000 in
set_option maxHeartbeats 2000000 in
theorem tset_any {w : World} {t bm : Nat} {L : List Ov} (H : TabAt w t bm L) {o : Ov} (ha : o.ad < 4294967296) (hk : PN.ok o.key) : Calls Try.prog 32 #[.pointer (some ⟨t, 0, none⟩), o.v] w fun e w' => e = .returned (.int .i64 (setE L o)) ∧ TSet w w' t bm L o := by
  have hal := (Below.refl w.heap.size w).alloc (Nat.le_refl _) (.cells #[.int .i64 o.r, .int .u32 (o.ad : Int), .int .i64 o.ln, .int .i64 o.id, .int .i64 o.till] 62)
  have hos : OvS w.heap.size o (w.alloc (.cells #[.int .i64 o.r, .int .u32 (o.ad : Int), .int .i64 o.ln, .int .i64 o.id, .int .i64 o.till] 62)) := hnew _ _
  have HM := Lib.hid (tmade_any (H.keep hal))
  have F0 := Lib.hid (And.intro hal (And.intro (H.keep hal) hos))
  have HK := Lib.hid hk
  have hck := fun w => check_any o.ad o.ln ha w
  have HLT := Lib.hid H.lt
  obtain ⟨z0, z1, z2, z3, z4⟩ := hos.cells
  clear hal hos hk H
  unfold Ov.v
  cases hok : okP o.ad o.ln with
  | false =>
    have hE : setE L o = 20 := by unfold setE; rw [hok]; rfl
    rw [hE]
    have HCK := Lib.hid (show ∀ w, Calls Try.prog 68 #[pfx o.ad o.ln] w fun e w' => e = .returned (.int .i64 20) ∧ Below w.heap.size w w' from fun w => by have := hck w; rw [hok] at this; exact this)
    clear hck
    go_enter Try.func32, Try.ntmps32
    go_wp2_with fail
    refine HM.out.mono ?_
    rintro e W1 ⟨rfl, hw⟩
    subst hw
    go_wp2_with fail
    refine (HCK.out _).mono ?_
    rintro e W2 ⟨rfl, hb⟩
    have F1 := Lib.hid (And.intro (bcall F0.out.1 (Nat.le_refl _) hb) (F0.out.2.1.keep hb))
    clear hb F0
    go_wp2_with fail
    go_ret
    exact ⟨rfl, by rw [hE]; exact F1.out.2, But.of_below F1.out.1 _⟩
  | true =>
    have HCK := Lib.hid (show ∀ w, Calls Try.prog 68 #[pfx o.ad o.ln] w fun e w' => e = .returned (.int .i64 0) ∧ Below w.heap.size w w' from fun w => by have := hck w; rw [hok] at this; exact this)
    clear hck
    obtain ⟨hs, hhs⟩ : ∃ hs, hasO L o.key = hs := ⟨_, rfl⟩
    have HHS := Lib.hid hhs
    have HOK := Lib.hid hok
    clear hok hhs
    go_enter Try.func32, Try.ntmps32
    go_wp2_with fail
    refine HM.out.mono ?_
    rintro e W1 ⟨rfl, hw⟩
    subst hw
    go_wp2_with fail
    refine (HCK.out _).mono ?_
    rintro e W2 ⟨rfl, hb⟩
    have F1 := Lib.hid (And.intro (bcall F0.out.1 (Nat.le_refl _) hb) (And.intro (F0.out.2.1.keep hb) (F0.out.2.2.on (hb.block _ (lt_of_blk F0.out.2.2)))))
    clear hb F0 HM HCK z0 z1 z2 z3 z4
    go_wp2_with fail
    have hd := (Below.refl W2.heap.size W2).drew
    have F2 := Lib.hid (And.intro (bcall F1.out.1 (Nat.le_refl _) hd) (And.intro (F1.out.2.1.keep hd) (F1.out.2.2.on (hd.block _ (lt_of_blk F1.out.2.2)))))
    clear hd F1
    refine wp_region_heldP (SameAt [t, bm, w.heap.size] W2.drew) (by kernel_rfl) ?_
    generalize W2.drew = W3 at *
    obtain ⟨q, hq⟩ : ∃ q, w.heap.size = q := ⟨_, rfl⟩
    have HQ := Lib.hid hq
    have F3 := Lib.hid (show Below w.heap.size w W3 ∧ TabAt W3 t bm L ∧ OvS q o W3 from hq ▸ F2.out)
    rw [hq]
    clear hq F2
    have hc := show ∀ w', SameAt [t, bm, q] W3 w' → w'.cell? ⟨t, 0, none⟩ = some (.map (some bm)) ∧ w'.cell? ⟨q, 0, none⟩ = some (.int .i64 o.r) ∧ w'.cell? ⟨q, 1, none⟩ = some (.int .u32 (o.ad : Int)) ∧ w'.cell? ⟨q, 2, none⟩ = some (.int .i64 o.ln) ∧ w'.cell? ⟨q, 3, none⟩ = some (.int .i64 o.id) ∧ w'.cell? ⟨q, 4, none⟩ = some (.int .i64 o.till) ∧ (Instr.lookup 113 (.map (some bm)) (.agg #[.int .u32 (o.ad : Int), .int .i64 o.ln]) true).run Try.prog w' = .ok (.tuple #[(getO L o.key).v, .bool hs]) w' from fun w' hw' => by
      have hk1 := F3.out.2.1.lookup HK.out w' (hw' bm (by simp))
      rw [HHS.out] at hk1
      obtain ⟨g0, g1, g2, g3, g4⟩ := (F3.out.2.2.on (hw' q (by simp))).cells
      exact ⟨(cell_same (hw' t (by simp))).trans F3.out.2.1.c0, g0, g1, g2, g3, g4, hk1⟩
    have HC := Lib.hid hc
    have hsz : t < W3.heap.size ∧ bm < W3.heap.size ∧ q < W3.heap.size := ⟨F3.out.2.1.lt.1, F3.out.2.1.lt.2.1, lt_of_blk F3.out.2.2⟩
    have HSZ := Lib.hid hsz
    have HS0 := Lib.hid (SameAt.refl [t, bm, q] W3)
    clear hc hsz
    generalize getO L o.key = g0 at *
    unfold Ov.v at HC
    refine held_reads [0, 1, 2, 3, 4, 5, 6, 7, 8, 9, 10] (g := 3) rfl (by kernel_rfl) HS0.out (fun _ _ d _ _ h => by cases d <;> exact h) ?_
    simp only [pick, List.getD_cons_zero, List.getD_cons_succ]
    ((with_reducible refine wpRead_step (fun K hK => ?_)); go_simp; first | ((with_reducible refine hK _ ?_); clear hK K) | (apply Exists.intro; (with_reducible refine ⟨fun w' hw' => ?_, hK _ ?_⟩); (first | exact rfl | exact ⟨rfl, rfl⟩); clear hK K))
    ((with_reducible refine wpRead_step (fun K hK => ?_)); go_simp; first | ((with_reducible refine hK _ ?_); clear hK K) | (apply Exists.intro; (with_reducible refine ⟨fun w' hw' => ?_, hK _ ?_⟩); (first | exact rfl | exact ⟨rfl, rfl⟩); clear hK K))
    ((with_reducible refine wpRead_step (fun K hK => ?_)); go_simp; first | ((with_reducible refine hK _ ?_); clear hK K) | (apply Exists.intro; (with_reducible refine ⟨fun w' hw' => ?_, hK _ ?_⟩); (first | exact rfl | exact ⟨rfl, rfl⟩); clear hK K))
    ((with_reducible refine wpRead_step (fun K hK => ?_)); go_simp; first | ((with_reducible refine hK _ ?_); clear hK K) | (apply Exists.intro; (with_reducible refine ⟨fun w' hw' => ?_, hK _ ?_⟩); (obtain ⟨f0, f1, f2, f3, f4, f5, l0⟩ := HC.out w' hw'; go_simp; first | exact rfl | exact ⟨rfl, rfl⟩); clear hK K))
    ((with_reducible refine wpRead_step (fun K hK => ?_)); go_simp; first | ((with_reducible refine hK _ ?_); clear hK K) | (apply Exists.intro; (with_reducible refine ⟨fun w' hw' => ?_, hK _ ?_⟩); (first | exact rfl | exact ⟨rfl, rfl⟩); clear hK K))
    ((with_reducible refine wpRead_step (fun K hK => ?_)); go_simp; first | ((with_reducible refine hK _ ?_); clear hK K) | (apply Exists.intro; (with_reducible refine ⟨fun w' hw' => ?_, hK _ ?_⟩); (first | exact rfl | exact ⟨rfl, rfl⟩); clear hK K))
    ((with_reducible refine wpRead_step (fun K hK => ?_)); go_simp; first | ((with_reducible refine hK _ ?_); clear hK K) | (apply Exists.intro; (with_reducible refine ⟨fun w' hw' => ?_, hK _ ?_⟩); (obtain ⟨f0, f1, f2, f3, f4, f5, l0⟩ := HC.out w' hw'; go_simp; first | exact rfl | exact ⟨rfl, rfl⟩); clear hK K))
    ((with_reducible refine wpRead_step (fun K hK => ?_)); go_simp; first | ((with_reducible refine hK _ ?_); clear hK K) | (apply Exists.intro; (with_reducible refine ⟨fun w' hw' => ?_, hK _ ?_⟩); (obtain ⟨f0, f1, f2, f3, f4, f5, l0⟩ := HC.out w' hw'; go_simp; first | exact rfl | exact ⟨rfl, rfl⟩); clear hK K))
    ((with_reducible refine wpRead_step (fun K hK => ?_)); go_simp; first | ((with_reducible refine hK _ ?_); clear hK K) | (apply Exists.intro; (with_reducible refine ⟨fun w' hw' => ?_, hK _ ?_⟩); (first | exact rfl | exact ⟨rfl, rfl⟩); clear hK K))
    ((with_reducible refine wpRead_step (fun K hK => ?_)); go_simp; first | ((with_reducible refine hK _ ?_); clear hK K) | (apply Exists.intro; (with_reducible refine ⟨fun w' hw' => ?_, hK _ ?_⟩); (first | exact rfl | exact ⟨rfl, rfl⟩); clear hK K))
    ((with_reducible refine wpRead_step (fun K hK => ?_)); go_simp; first | ((with_reducible refine hK _ ?_); clear hK K) | (apply Exists.intro; (with_reducible refine ⟨fun w' hw' => ?_, hK _ ?_⟩); (first | exact rfl | exact ⟨rfl, rfl⟩); clear hK K))
    with_reducible refine wpRead_nil ?_
    have hal := (Below.refl W3.heap.size W3).alloc (Nat.le_refl _) (.cells #[.int .i64 g0.r, .int .u32 (g0.ad : Int), .int .i64 g0.ln, .int .i64 g0.id, .int .i64 g0.till] 62)
    have F4 := Lib.hid (And.intro (bcall F3.out.1 (Nat.le_refl _) hal) (And.intro (F3.out.2.1.keep hal) (And.intro (F3.out.2.2.on (hal.block _ HSZ.out.2.2)) (show SameAt [t, bm, q] W3 (W3.alloc (.cells #[.int .i64 g0.r, .int .u32 (g0.ad : Int), .int .i64 g0.ln, .int .i64 g0.id, .int .i64 g0.till] 62)) from (SameAt.refl _ _).on hal (by simp; exact HSZ.out)))))
    have halz := (Below.refl W3.heap.size W3).alloc (Nat.le_refl _) (.cells #[.int .i64 0, .int .u32 0, .int .i64 0, .int .i64 0, .int .i64 0] 62)
    have HZ := Lib.hid (show SameAt [t, bm, q] W3 (W3.alloc (.cells #[.int .i64 0, .int .u32 0, .int .i64 0, .int .i64 0, .int .i64 0] 62)) from (SameAt.refl _ _).on halz (by simp; exact HSZ.out))
    clear hal halz F3
    refine held_one 11 (by kernel_rfl) ?_
    simp only [pick, List.getD_cons_zero, List.getD_cons_succ]
    go_wp2_with fail
    refine ⟨HZ.out, ?_⟩
    refine held_one 12 (by kernel_rfl) ?_
    simp only [pick, List.getD_cons_zero, List.getD_cons_succ]
    go_wp2_with fail
    generalize W3.alloc (.cells #[.int .i64 g0.r, .int .u32 (g0.ad : Int), .int .i64 g0.ln, .int .i64 g0.id, .int .i64 g0.till] 62) = W4 at *
    refine ⟨F4.out.2.2.2, ?_⟩
    refine held_one 13 (by kernel_rfl) ?_
    simp only [pick, List.getD_cons_zero, List.getD_cons_succ]
    go_wp2_with fail
    refine ⟨F4.out.2.2.2, ?_⟩
    refine wpAnyH_done (by kernel_rfl) ?_ _
    have HL := Lib.hid (F4.out.2.1.len W4 rfl)
    have c0 := F4.out.2.1.c0
    obtain ⟨z0, z1, z2, z3, z4⟩ := F4.out.2.2.1.cells
    have hln := fun ty => F4.out.2.1.len W4 rfl ty
    obtain ⟨nl, hnl⟩ : ∃ nl, L.length = nl := ⟨_, rfl⟩
    have HNL := Lib.hid hnl
    rw [hnl] at hln
    clear hnl HL
    cases hs with
    | true =>
      have hE : setE L o = 0 := by unfold setE; rw [HOK.out, HHS.out]; rfl
      have HE := Lib.hid hE; clear hE
      obtain ⟨O, hup, htab⟩ := (F4.out.2.1.on (w' := W4.drew) rfl rfl).update HK.out
      have F5 := Lib.hid (And.intro F4.out.1.drew (And.intro htab hup))
      have hds := (But.of_below F4.out.1 [bm]).drew.setBlock (b := bm) (.inr (by simp)) O
      have F6 := Lib.hid hds
      clear hds htab
      go_wp2_with fail
      refine wp_region_pieces (by kernel_rfl) ?_
      refine wpAny_seg (fun w' => w' = W4.drew) [0, 1, 2, 3, 4, 5, 6, 7] (g := 1) rfl (by kernel_rfl) rfl ?_
      simp only [pick, List.getD_cons_zero, List.getD_cons_succ]
      iterate 8 ((with_reducible refine wpQuiet_step (fun K hK => ?_)); go_simp; first | ((with_reducible refine hK _ ?_); clear hK K) | (apply Exists.intro; (with_reducible refine ⟨fun w' hw' => ?_, hK _ ?_⟩); (subst hw'; go_simp; first | exact rfl | exact ⟨rfl, rfl⟩); clear hK K))
      refine wpQuiet_nil ?_
      rintro _ rfl
      refine wpAny_one 8 (by kernel_rfl) ?_
      simp only [pick, List.getD_cons_zero, List.getD_cons_succ]
      go_wp2_with fail
      refine wpAny_done (by kernel_rfl) ?_ _
      go_wp2_with fail
      go_ret
      exact ⟨ret_int HE.out.symm, by rw [HE.out, if_pos rfl]; exact F5.out.2.1, F6.out⟩
    | false =>
      by_cases h4 : 4096 ≤ nl
      · have hE : setE L o = 2 := by unfold setE; rw [HOK.out, HHS.out, HNL.out]; simp [h4]
        have HE := Lib.hid hE; clear hE
        have h4t : ((4096 : Int) ≤ (nl : Int)) = True := by simp; omega
        clear h4
        go_wp2_with fail
        go_ret
        exact ⟨ret_int HE.out.symm, by rw [HE.out]; exact F4.out.2.1, But.of_below F4.out.1 _⟩
      · have hE : setE L o = 0 := by unfold setE; rw [HOK.out, HHS.out, HNL.out]; simp [h4]
        have HE := Lib.hid hE; clear hE
        have h4t : ((4096 : Int) ≤ (nl : Int)) = False := by simp; omega
        clear h4
        obtain ⟨O, hup, htab⟩ := (F4.out.2.1.on (w' := W4.drew) rfl rfl).update HK.out
        have F5 := Lib.hid (And.intro F4.out.1.drew (And.intro htab hup))
        have hds := (But.of_below F4.out.1 [bm]).drew.setBlock (b := bm) (.inr (by simp)) O
        have F6 := Lib.hid hds
        clear hds htab
        go_wp2_with fail
        refine wp_region_pieces (by kernel_rfl) ?_
        refine wpAny_seg (fun w' => w' = W4.drew) [0, 1, 2, 3, 4, 5, 6, 7] (g := 1) rfl (by kernel_rfl) rfl ?_
        simp only [pick, List.getD_cons_zero, List.getD_cons_succ]
        iterate 8 ((with_reducible refine wpQuiet_step (fun K hK => ?_)); go_simp; first | ((with_reducible refine hK _ ?_); clear hK K) | (apply Exists.intro; (with_reducible refine ⟨fun w' hw' => ?_, hK _ ?_⟩); (subst hw'; go_simp; first | exact rfl | exact ⟨rfl, rfl⟩); clear hK K))
        refine wpQuiet_nil ?_
        rintro _ rfl
        refine wpAny_one 8 (by kernel_rfl) ?_
        simp only [pick, List.getD_cons_zero, List.getD_cons_succ]
        go_wp2_with fail
        refine wpAny_done (by kernel_rfl) ?_ _
        go_wp2_with fail
        go_ret
        exact ⟨ret_int HE.out.symm, by rw [HE.out, if_pos rfl]; exact F5.out.2.1, F6.out⟩
end Go.Proofs.Ytfmehahjjgalfaa
