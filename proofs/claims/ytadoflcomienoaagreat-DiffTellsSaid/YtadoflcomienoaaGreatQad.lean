/- Small facts that all walks use. -/
import Derived.Test.YtadoflcomienoaaGreatQaa
import Derived.Test.YtadoflcomienoaaGreatQab
import Derived.Test.YtadoflcomienoaaGreatQac
import Derived.Shelf.SlSortCmp.WholeK
import Derived.Shelf.SlSortCmp.NoneTotal
import Derived.DeepKeys4
import Derived.Lib.AppendZerosOnto
import Derived.Lib.SliceRun
namespace Go.Proofs.YtadoflcomienoaaGreat
open Go.RowKit
open Go.ChangeMaps (setBlock)
theorem bcall {B : Nat} {w w2 w3 : World} (h : Below B w w2) (hB : B ≤ w.heap.size) (h3 : Below w2.heap.size w2 w3) : Below B w w3 := h.trans (h3.mono (Nat.le_trans hB h.size))
theorem wrapS {i n : Nat} (h : i < n) (hn : n ≤ maxLen) : wrap64 ((i : Int) + 1) = ((i + 1 : Nat) : Int) := by unfold maxLen at hn; unfold wrap64; omega
theorem mSucc {i n : Nat} (h : i < n) : n - (intOf (.int .i64 ((i + 1 : Nat) : Int))).toNat < n - (intOf (.int .i64 (i : Int))).toNat := by show n - ((i + 1 : Nat) : Int).toNat < n - (i : Int).toNat; omega
theorem wfI {n : Int} (h : -9223372036854775808 ≤ n ∧ n ≤ 9223372036854775807) : (Lit.int .i64 n).wf = true := by
  simp only [Lit.wf, IntKind.min, IntKind.max, IntKind.signed, IntKind.bits, Bool.and_eq_true, decide_eq_true_eq]; simpa using h
theorem wfU {n : Int} (h : 0 ≤ n ∧ n ≤ 4294967295) : (Lit.int .u32 n).wf = true := by
  simp only [Lit.wf, IntKind.min, IntKind.max, IntKind.signed, IntKind.bits, Bool.and_eq_true]; simpa using h
theorem setBlock_other {b i : Nat} {W : World} {o : Obj} (h : i ≠ b) : (setBlock W b o).heap[i]? = W.heap[i]? := by
  show (W.heap.setIfInBounds b o)[i]? = _; rw [Array.getElem?_setIfInBounds, if_neg (Ne.symm h)]
theorem size_setBlock (w : World) (b : Nat) (O : Obj) : (setBlock w b O).heap.size = w.heap.size := by simp [setBlock]
theorem below_put {w W : World} {b : Nat} (h : Below w.heap.size w W) (hb : w.heap.size ≤ b) (O : Obj) : Below w.heap.size w (setBlock W b O) := ((But.of_below h []).setBlock (.inl hb) O).below (Nat.le_refl _) (by simp)
theorem ret_vb {v : Value} {a b : Bool} (h : a = b) : Ending.returned (.tuple #[v, .bool a]) = .returned (.tuple #[v, .bool b]) := by rw [h]
theorem ret_nb {a b : Int} {x y : Bool} (h : a = b) (k : x = y) : Ending.returned (.tuple #[.int .i64 a, .bool x]) = .returned (.tuple #[.int .i64 b, .bool y]) := by rw [h, k]
def lenV : Value → Nat
  | .slice _ n _ => n
  | _ => 0
def seenN (w : World) (b : Nat) : Nat := match w.heap[b]? with
  | some (.mapIter _ _ seen _) => seen.size
  | _ => 0
theorem seenN_of {w : World} {b : Nat} {m : Option Nat} {c : Nat} {seen : Array Nat} {d : Nat} (h : w.heap[b]? = some (.mapIter m c seen d)) : seenN w b = seen.size := by unfold seenN; rw [h]
theorem filter_snoc {α : Type} (p : α → Bool) (l : List α) (x : α) : (l ++ [x]).filter p = if p x then l.filter p ++ [x] else l.filter p := by
  rw [List.filter_append, List.filter_cons]
  split <;> simp
end Go.Proofs.YtadoflcomienoaaGreat
/- Two operations that come up together. -/
namespace Go.Proofs.YtadoflcomienoaaGreat
open Go Go.RowKit

section
variable {P : Program} {ops : Array Oper} {md : Region.Mode} {S : World → Prop}

/-- two that come up, in whatever order -/
theorem held_two {Q : Exit → Act → World → Prop} {g : Nat} (i j : Nat) {l0 : Array Bool} {a : Act} {w : World} (hB : decide (Region.ready md ops l0 = [i, j]) = true)
    (h1 : wpList P ops (Exit.then (fun a' w' => S w' ∧ wpAnyH P md ops Q S g (l0.setIfInBounds i true) a' w') Q) (pick ops.toList [i]) a w)
    (h2 : wpList P ops (Exit.then (fun a' w' => S w' ∧ wpAnyH P md ops Q S g (l0.setIfInBounds j true) a' w') Q) (pick ops.toList [j]) a w) : wpAnyH P md ops Q S (g + 1) l0 a w := by
  have hr : Region.ready md ops l0 = [i, j] := by simpa using hB
  have go : ∀ k, k ∈ [i, j] → wpList P ops (Exit.then (fun a' w' => S w' ∧ wpAnyH P md ops Q S g (l0.setIfInBounds k true) a' w') Q) (pick ops.toList [k]) a w → wpOp P ops Q k (fun a' w' => S w' ∧ wpAnyH P md ops Q S g (l0.setIfInBounds k true) a' w') a w := by
    intro k hk h
    obtain ⟨o, ho⟩ := ready_lt (md := md) (ops := ops) (listed := l0) (i := k) (by rw [hr]; exact hk)
    have hp : pick ops.toList [k] = [o] := by simp [pick, List.getD_eq_getElem?_getD, ho]
    rw [hp] at h
    unfold wpOp
    simp only [ho]
    unfold wpList at h
    by_cases hw : Region.wanted o (yielded ops a.tmps) = true
    · rw [if_pos hw] at h ⊢
      refine h.imp (fun h => wp_then (Oper.wp_mono (fun a' w' h' => h') h)) (fun h => ⟨h.1, let ⟨a, w, h⟩ := h.2; ⟨a, w, h⟩⟩)
    · rw [if_neg hw] at h ⊢
      exact h
  refine wpAnyH_all hr (by simp) fun k hk => go k hk ?_
  simp only [List.mem_cons, List.not_mem_nil, or_false] at hk
  rcases hk with rfl | rfl
  · exact h1
  · exact h2
end
end Go.Proofs.YtadoflcomienoaaGreat
/- slices.SortFunc of an owned slice of structs. -/
namespace Go.Proofs.YtadoflcomienoaaGreat
open Go.Shelf Go.RowKit Go.Lib Go.Sort
namespace Rep
variable {α : Type} [Inhabited α] {R : Rep α}
/-- no later one is less than an earlier one -/
def SortedBy (cf : α → α → Int) (M : List α) : Prop := ∀ i j, i < j → j < M.length → 0 ≤ cf (M.getD j default) (M.getD i default)
theorem getB (M : List α) (i : Nat) : M.toArray[i]! = M.getD i default := by
  rw [getElem!_def]
  simp [List.getD_eq_getElem?_getD]
  cases M[i]? <;> rfl
theorem flatK_list (M : List α) : (flatK R.cells R.k M.toArray).toList = R.flat M := by
  have hp := R.pos
  apply List.ext_getElem?
  intro t
  by_cases ht : t < M.length * R.k
  · have hi : t / R.k < M.length := Nat.div_lt_of_lt_mul (by rw [Nat.mul_comm]; exact ht)
    have hj : t % R.k < R.k := Nat.mod_lt _ hp
    have he : t / R.k * R.k + t % R.k = t := by rw [Nat.mul_comm]; exact Nat.div_add_mod t R.k
    have h1 := get_flatK R.cells R.k M.toArray t (by simpa using ht)
    rw [show M.toArray[t / R.k]! = M.getD (t / R.k) default from getB M _] at h1
    have h2 := R.flat_get M (t / R.k) (t % R.k) hi hj
    rw [he] at h2
    rw [h2, Array.getElem?_toList]
    have hs : t < (flatK R.cells R.k M.toArray).size := by simpa using ht
    rw [getElem!_pos _ t hs] at h1
    rw [Array.getElem?_eq_getElem hs, h1]
    have hl : t % R.k < (R.cells (M.getD (t / R.k) default)).length := by rw [R.len]; exact hj
    rw [List.getElem?_eq_getElem hl, getElem!_pos (R.cells (M.getD (t / R.k) default)) (t % R.k) hl]
  · rw [List.getElem?_eq_none (by simp; omega), List.getElem?_eq_none (by rw [R.flat_length]; omega)]
theorem holds_own {w : World} {base g cap : Nat} {L : List α} (h : R.Own w base (.slice (some ⟨g, 0, none⟩) L.length cap) L) : HoldsK R.cells R.k w g 0 L.toArray := by
  intro j hj
  rcases h.2 with ⟨h2, _⟩ | ⟨g', cap', cur, hv, hg, hh, h3, h4, h5, h6⟩
  · cases h2
  · simp only [Value.slice.injEq, Option.some.injEq, Addr.mk.injEq, and_true, true_and] at hv
    obtain ⟨rfl, rfl⟩ := hv
    have hj' : j < L.length * R.k := by simpa using hj
    refine ⟨?_, free_of hh⟩
    rw [Nat.zero_add, getElem!_pos _ j hj]
    refine cell_of hh ?_
    have h7 : (flatK R.cells R.k L.toArray).toList[j]? = some (flatK R.cells R.k L.toArray)[j] := by rw [Array.getElem?_toList]; exact Array.getElem?_eq_getElem hj
    rw [flatK_list, ← h6, List.getElem?_take, if_pos hj', Array.getElem?_toList] at h7
    exact h7
theorem own_sorted {w : World} {base g cap n : Nat} {L M : List α} {os : Array Obj} (h : R.Own w base (.slice (some ⟨g, 0, none⟩) L.length cap) L) (hl : M.length = L.length) :
    R.Own (sortWorldK R.cells R.k w g 0 n M.toArray os) base (.slice (some ⟨g, 0, none⟩) L.length cap) M ∧ But w (sortWorldK R.cells R.k w g 0 n M.toArray os) [g] ∧ base ≤ g := by
  rcases h.2 with ⟨h2, _⟩ | ⟨g', cap', cur, hv, hg, hh, h3, h4, h5, h6⟩
  · cases h2
  · simp only [Value.slice.injEq, Option.some.injEq, Addr.mk.injEq, and_true, true_and] at hv
    obtain ⟨rfl, rfl⟩ := hv
    have hlt := lt_of_blk hh
    have hsz : ((putRowK R.cells R.k (Sort.ahead w n) g 0 M.toArray)).heap.size = w.heap.size := by unfold putRowK; rw [size_putRow]; rfl
    have hblk : ∀ k, k < w.heap.size → (sortWorldK R.cells R.k w g 0 n M.toArray os).heap[k]? = (putRowK R.cells R.k (Sort.ahead w n) g 0 M.toArray).heap[k]? := fun k hk => by
      show ((putRowK R.cells R.k (Sort.ahead w n) g 0 M.toArray).heap ++ os)[k]? = _
      rw [Array.getElem?_append_left (by omega)]
    have hput : ∀ k, (putRowK R.cells R.k (Sort.ahead w n) g 0 M.toArray).heap[k]? = if g = k then (w.heap[k]?).map (onCells (putCells id 0 (flatK R.cells R.k M.toArray))) else w.heap[k]? := fun k => by
      show (w.heap.modify g (onCells (putCells id 0 (flatK R.cells R.k M.toArray))))[k]? = _
      rw [Array.getElem?_modify]
    refine ⟨⟨by rw [R.flat_length, hl], .inr ⟨g, cap, putCells id 0 (flatK R.cells R.k M.toArray) cur, by rw [hl], hg, ?_, by rw [hl]; exact h3, h4, by simpa [putCells] using h5, ?_⟩⟩, ⟨rfl, rfl, rfl, ?_, fun k hk hn => ?_⟩, hg⟩
    · rw [hblk g hlt, hput, if_pos rfl, hh]
      rfl
    · rw [← flatK_list, hl]
      apply List.ext_getElem?
      intro q
      rw [List.getElem?_take]
      by_cases hq : q < L.length * R.k
      · rw [if_pos hq, Array.getElem?_toList, Array.getElem?_toList]
        have hq2 : q < (flatK R.cells R.k M.toArray).size := by simp [hl]; exact hq
        have hq3 : q < cur.size := by
          rw [h5]
          exact Nat.lt_of_lt_of_le hq (Nat.mul_le_mul_right _ h3)
        simp only [putCells, Array.getElem?_mapIdx, Array.getElem?_eq_getElem hq3, Option.map_some]
        rw [if_pos ⟨Nat.zero_le _, by omega⟩, Array.getElem?_eq_getElem hq2, getElem!_pos _ _ (by simpa using hq2)]
        simp
      · rw [if_neg hq, Array.getElem?_toList, Array.getElem?_eq_none (by simp [hl]; omega)]
    · show w.heap.size ≤ ((putRowK R.cells R.k (Sort.ahead w n) g 0 M.toArray).heap ++ os).size
      rw [Array.size_append, hsz]; omega
    · rw [hblk k hk, hput, if_neg (by simp at hn; omega)]
theorem sort_own {P : Program} {ρ : Ren} (SL : SlLaysF0.n6 P ρ) (aE : ∀ w, (isAgg (ρ.t 24)).run P w = .ok true w) (zE : ∀ w, (Go.sizeOf (ρ.t 24)).run P w = .ok R.k w) (cf : α → α → Int) (hO : SWO (ltOf cf)) (f : Nat) (cb : Array Value)
    (eg : ∀ args w, (callFunc f args).run P w = .ok (.enter f args) w) {w : World} {base : Nat} {v : Value} {L : List α} (hown : R.Own w base v L) (hcmp : ∀ g, CmpLays P f cb R.cells R.k cf g 0 L.length w) (hsz : L.length < 4611686018427387904) (hbase : base ≤ w.heap.size) :
    Calls P (ρ.f 6) #[v, .func (.func f) #[] cb] w fun e w' => e = .returned (.tuple #[]) ∧ ∃ M, M.Perm L ∧ SortedBy cf M ∧ R.Own w' base v M ∧ Below base w w' := by
  rcases hown.cases with ⟨rfl, rfl⟩ | ⟨g, cap, rfl, hg, hl, -⟩
  · exact (AnyF.slices_SortFunc_none SL none 0 (.func (.func f) #[] cb) w).mono fun e w' ⟨h1, h2⟩ => ⟨h1, [], List.Perm.refl _, fun i j _ hj => absurd hj (by simp), h2 ▸ hown, h2 ▸ Below.refl _ _⟩
  · have h := AnyQ.slices_SortFunc SL R.k aE zE R.cells R.len (fun x u hu => List.all_eq_true.1 (R.one x) u hu) cf hO f cb g 0 cap L.toArray w eg (by simpa using hcmp g) (holds_own hown) hl (by simpa using hsz)
    rw [List.size_toArray] at h
    refine h.mono fun e w' ⟨h1, d', n, os, hp, hs, hw⟩ => ⟨h1, d'.toList, ?_, ?_, ?_⟩
    · have := hp.2.2
      have h0 : d'.size = L.length := by simpa using hp.1
      simp only [Array.toList_extract, List.extract_eq_take_drop, Nat.sub_zero, List.drop_zero] at this
      rwa [List.take_of_length_le (by simp [h0]), List.take_of_length_le (by simp)] at this
    · intro i j hij hj
      have h0 : d'.size = L.length := by simpa using hp.1
      have := hs i j (Nat.zero_le _) hij (by simpa [h0] using hj)
      unfold ltOf at this
      have e1 := getB d'.toList i
      have e2 := getB d'.toList j
      rw [← e1, ← e2]
      simp only [Array.toArray_toList]
      simpa using this
    · have h0 : d'.toList.length = L.length := by simpa using hp.1
      have := own_sorted (n := n) (os := os) hown h0
      simp only [Array.toArray_toList] at this
      rw [← hw] at this
      exact ⟨this.1, this.2.1.below hbase (by simpa using this.2.2)⟩
end Rep
end Go.Proofs.YtadoflcomienoaaGreat
/- The order of prefixes that are told, as the program and the reference tell it. -/
namespace Go.Proofs.YtadoflcomienoaaGreat
open Go.RowKit
open Go.ChangeMaps (setBlock)

/-- w' is w with new blocks and draws -/
def Grows (w w' : World) : Prop := ∃ (q : Nat) (os : Array Obj), w' = Go.Sort.grow (w.drewN q) os
theorem drewN_add (w : World) (a b : Nat) : (w.drewN a).drewN b = w.drewN (a + b) := by
  simp [World.drewN, Nat.add_assoc]
theorem grow_drewN (w : World) (os : Array Obj) (b : Nat) : (Go.Sort.grow w os).drewN b = Go.Sort.grow (w.drewN b) os := rfl
theorem Grows.refl (w : World) : Grows w w := ⟨0, #[], by
  show w = Go.Sort.grow (w.drewN 0) #[]
  simp [Go.Sort.grow, World.drewN]⟩
theorem Grows.drewN {w w' : World} (h : Grows w w') (n : Nat) : Grows w (w'.drewN n) := by
  obtain ⟨q, os, rfl⟩ := h
  exact ⟨q + n, os, by rw [grow_drewN, drewN_add]⟩
theorem Grows.drew {w w' : World} (h : Grows w w') : Grows w w'.drew := h.drewN 1
theorem Grows.alloc {w w' : World} (h : Grows w w') (o : Obj) : Grows w (w'.alloc o) := by
  obtain ⟨q, os, rfl⟩ := h
  exact ⟨q, os ++ #[o], by rw [Go.Sort.alloc_eq_grow, Go.Sort.grow_grow]⟩
theorem Grows.trans {a b c : World} (h : Grows a b) (k : Grows b c) : Grows a c := by
  obtain ⟨q, os, rfl⟩ := h
  obtain ⟨q2, os2, rfl⟩ := k
  exact ⟨q + q2, os ++ os2, by rw [grow_drewN, drewN_add, Go.Sort.grow_grow]⟩
theorem Grows.below {w w' : World} (h : Grows w w') : Below w.heap.size w w' := by
  obtain ⟨q, os, rfl⟩ := h
  refine ⟨rfl, rfl, rfl, ?_, fun k hk => ?_⟩
  · show w.heap.size ≤ (w.heap ++ os).size
    simp
  · show (w.heap ++ os)[k]? = _
    rw [Array.getElem?_append_left hk]

theorem nani_any (a : Int) (w : World) : Calls Tryz.prog 134 #[.int .i64 a] w fun e w' => e = .returned (.bool false) ∧ w' = w := by
  have h : (a == a) = true := by simp
  go_enter Tryz.func134, Tryz.ntmps134
  go_wp2_with fail
  go_ret
  exact ⟨rfl, rfl⟩
theorem nanu_any (a : Int) (w : World) : Calls Tryz.prog 177 #[.int .u32 a] w fun e w' => e = .returned (.bool false) ∧ w' = w := by
  have h : (a == a) = true := by simp
  go_enter Tryz.func177, Tryz.ntmps177
  go_wp2_with fail
  go_ret
  exact ⟨rfl, rfl⟩
theorem cmpi_any (a b : Int) (w : World) : Calls Tryz.prog 89 #[.int .i64 a, .int .i64 b] w fun e w' => e = .returned (.int .i64 (cmpI a b)) ∧ w' = w := by
  have HA := Lib.hid (fun W => nani_any a W)
  have HB := Lib.hid (fun W => nani_any b W)
  obtain ⟨c, hc⟩ : ∃ c, cmpI a b = c := ⟨_, rfl⟩
  rw [hc]
  unfold cmpI at hc
  have HC := Lib.hid hc
  clear hc
  by_cases h1 : a < b
  · have e1 : (a < b) = True := eq_true h1
    clear h1
    go_enter Tryz.func89, Tryz.ntmps89
    go_wp2_with fail
    refine (HA.out _).mono ?_
    rintro e w1 ⟨rfl, hw1⟩
    subst w1
    go_wp2_with fail
    refine (HB.out _).mono ?_
    rintro e w1 ⟨rfl, hw1⟩
    subst w1
    go_wp2_with fail
    go_ret
    exact ⟨ret_int (by rw [← HC.out, if_pos (of_eq_true e1)]), rfl⟩
  · have e1 : (a < b) = False := eq_false h1
    by_cases h2 : b < a
    · have e2 : (b < a) = True := eq_true h2
      clear h1 h2
      go_enter Tryz.func89, Tryz.ntmps89
      go_wp2_with fail
      refine (HA.out _).mono ?_
      rintro e w1 ⟨rfl, hw1⟩
      subst w1
      go_wp2_with fail
      refine (HB.out _).mono ?_
      rintro e w1 ⟨rfl, hw1⟩
      subst w1
      go_wp2_with fail
      go_ret
      exact ⟨ret_int (by rw [← HC.out, if_neg (of_eq_false e1), if_pos (of_eq_true e2)]), rfl⟩
    · have e2 : (b < a) = False := eq_false h2
      clear h1 h2
      go_enter Tryz.func89, Tryz.ntmps89
      go_wp2_with fail
      refine (HA.out _).mono ?_
      rintro e w1 ⟨rfl, hw1⟩
      subst w1
      go_wp2_with fail
      refine (HB.out _).mono ?_
      rintro e w1 ⟨rfl, hw1⟩
      subst w1
      go_wp2_with fail
      go_ret
      exact ⟨ret_int (by rw [← HC.out, if_neg (of_eq_false e1), if_neg (of_eq_false e2)]), rfl⟩
theorem cmpu_any (a b : Int) (w : World) : Calls Tryz.prog 136 #[.int .u32 a, .int .u32 b] w fun e w' => e = .returned (.int .i64 (cmpI a b)) ∧ w' = w := by
  have HA := Lib.hid (fun W => nanu_any a W)
  have HB := Lib.hid (fun W => nanu_any b W)
  obtain ⟨c, hc⟩ : ∃ c, cmpI a b = c := ⟨_, rfl⟩
  rw [hc]
  unfold cmpI at hc
  have HC := Lib.hid hc
  clear hc
  by_cases h1 : a < b
  · have e1 : (a < b) = True := eq_true h1
    clear h1
    go_enter Tryz.func136, Tryz.ntmps136
    go_wp2_with fail
    refine (HA.out _).mono ?_
    rintro e w1 ⟨rfl, hw1⟩
    subst w1
    go_wp2_with fail
    refine (HB.out _).mono ?_
    rintro e w1 ⟨rfl, hw1⟩
    subst w1
    go_wp2_with fail
    go_ret
    exact ⟨ret_int (by rw [← HC.out, if_pos (of_eq_true e1)]), rfl⟩
  · have e1 : (a < b) = False := eq_false h1
    by_cases h2 : b < a
    · have e2 : (b < a) = True := eq_true h2
      clear h1 h2
      go_enter Tryz.func136, Tryz.ntmps136
      go_wp2_with fail
      refine (HA.out _).mono ?_
      rintro e w1 ⟨rfl, hw1⟩
      subst w1
      go_wp2_with fail
      refine (HB.out _).mono ?_
      rintro e w1 ⟨rfl, hw1⟩
      subst w1
      go_wp2_with fail
      go_ret
      exact ⟨ret_int (by rw [← HC.out, if_neg (of_eq_false e1), if_pos (of_eq_true e2)]), rfl⟩
    · have e2 : (b < a) = False := eq_false h2
      clear h1 h2
      go_enter Tryz.func136, Tryz.ntmps136
      go_wp2_with fail
      refine (HA.out _).mono ?_
      rintro e w1 ⟨rfl, hw1⟩
      subst w1
      go_wp2_with fail
      refine (HB.out _).mono ?_
      rintro e w1 ⟨rfl, hw1⟩
      subst w1
      go_wp2_with fail
      go_ret
      exact ⟨ret_int (by rw [← HC.out, if_neg (of_eq_false e1), if_neg (of_eq_false e2)]), rfl⟩

theorem or_any {w : World} {b c : Nat} {x y : Int} (h : w.cell? ⟨b, 0, none⟩ = some (.int .i64 x) ∧ w.cell? ⟨b, 1, none⟩ = some (.int .i64 y)) : Calls Tryz.prog 88 #[.slice (some ⟨b, 0, none⟩) 2 c] w fun e w' => e = .returned (.int .i64 (or2 x y)) ∧ w' = w := by
  obtain ⟨c0, c1⟩ := h
  have HO := Lib.hid (show (x ≠ 0 → or2 x y = x) ∧ (x = 0 → or2 x y = y) from ⟨fun h => if_neg h, fun h => if_pos h⟩)
  generalize or2 x y = v at *
  go_enter Tryz.func88, Tryz.ntmps88
  go_wp2_with fail
  go_loopw [8] (fun kv wr => ∃ k : Nat, k ≤ 2 ∧ kv = .int .i64 k ∧ (0 < k → x = 0) ∧ (1 < k → y = 0) ∧ wr = w) (fun kv _ => 2 - (intOf kv).toNat)
  case atStart => exact ⟨0, by omega, rfl, fun h => by omega, fun h => by omega, rfl⟩
  case round =>
    obtain ⟨k, hk, rfl, h0, h1, rfl⟩ := hrel
    have hk3 : k = 0 ∨ k = 1 ∨ k = 2 := by omega
    rcases hk3 with rfl | rfl | rfl
    · clear h0 h1
      by_cases hx : x = 0
      · have hxt : (x == 0) = true := by simp [hx]
        have HX := Lib.hid hx
        clear hx
        go_wp2_with fail
        exact ⟨⟨1, by omega, rfl, fun _ => HX.out, fun h => by omega, trivial⟩, by decide⟩
      · have hxt : (x == 0) = false := by simpa using hx
        have HX := Lib.hid hx
        clear hx
        go_wp2_with fail
        go_ret
        exact ⟨ret_int (HO.out.1 HX.out).symm, rfl⟩
    · have HX := Lib.hid (h0 (by omega))
      clear h0 h1
      by_cases hy : y = 0
      · have hyt : (y == 0) = true := by simp [hy]
        have HY := Lib.hid hy
        clear hy
        go_wp2_with fail
        exact ⟨⟨2, by omega, rfl, fun _ => HX.out, fun _ => HY.out, trivial⟩, by decide⟩
      · have hyt : (y == 0) = false := by simpa using hy
        clear hy
        go_wp2_with fail
        go_ret
        exact ⟨ret_int (HO.out.2 HX.out).symm, rfl⟩
    · have HX := Lib.hid (h0 (by omega))
      have HY := Lib.hid (h1 (by omega))
      clear h0 h1
      go_wp2_with fail
      go_ret
      exact ⟨ret_int (by rw [HO.out.2 HX.out, HY.out]), rfl⟩
theorem or_cmp (a b : PK) : or2 (cmpI (a.1 : Int) (b.1 : Int)) (cmpI a.2 b.2) = cmpK a b := by
  unfold or2 cmpI cmpK cmpP
  (repeat' split) <;> omega
def TwoS (q0 q1 : Nat) (a b : PK) (w : World) : Prop := w.heap[q0]? = some (.cells #[.int .u32 (a.1 : Int), .int .i64 a.2] 58) ∧ w.heap[q1]? = some (.cells #[.int .u32 (b.1 : Int), .int .i64 b.2] 58)
theorem TwoS.cells {q0 q1 : Nat} {a b : PK} {w : World} (h : TwoS q0 q1 a b w) : (w.cell? ⟨q0, 0, none⟩ = some (.int .u32 (a.1 : Int)) ∧ w.cell? ⟨q0, 1, none⟩ = some (.int .i64 a.2)) ∧ w.cell? ⟨q1, 0, none⟩ = some (.int .u32 (b.1 : Int)) ∧ w.cell? ⟨q1, 1, none⟩ = some (.int .i64 b.2) := ⟨⟨cell_of h.1 rfl, cell_of h.1 rfl⟩, cell_of h.2 rfl, cell_of h.2 rfl⟩
theorem TwoS.on {q0 q1 : Nat} {a b : PK} {w w' : World} (h : TwoS q0 q1 a b w) (hb : Below w.heap.size w w') : TwoS q0 q1 a b w' := ⟨(hb.block _ (lt_of_blk h.1)).trans h.1, (hb.block _ (lt_of_blk h.2)).trans h.2⟩
set_option maxRecDepth 100000 in
theorem acompare_any (a b : PK) (w : World) : Calls Tryz.prog 93 #[pfx a.1 a.2, pfx b.1 b.2] w fun e w' => e = .returned (.int .i64 (cmpK a b)) ∧ Grows w w' := by
  have hg := ((Grows.refl w).alloc (.cells #[.int .u32 (a.1 : Int), .int .i64 a.2] 58)).alloc (.cells #[.int .u32 (b.1 : Int), .int .i64 b.2] 58)
  have ht : TwoS w.heap.size (w.heap.size + 1) a b ((w.alloc (.cells #[.int .u32 (a.1 : Int), .int .i64 a.2] 58)).alloc (.cells #[.int .u32 (b.1 : Int), .int .i64 b.2] 58)) := ⟨hold (hnew _ _), hnewAt (by simp)⟩
  have F0 := Lib.hid (And.intro hg.drew (show TwoS w.heap.size (w.heap.size + 1) a b ((w.alloc (.cells #[.int .u32 (a.1 : Int), .int .i64 a.2] 58)).alloc (.cells #[.int .u32 (b.1 : Int), .int .i64 b.2] 58)).drew from ht))
  have HV := Lib.hid (or_cmp a b)
  unfold pfx
  clear hg ht
  generalize cmpK a b = v at *
  go_enter Tryz.func93, Tryz.ntmps93
  go_wp2_with fail
  refine wp_region_heldP (TwoS w.heap.size (w.heap.size + 1) a b) (by kernel_rfl) ?_
  generalize ((w.alloc (.cells #[.int .u32 (a.1 : Int), .int .i64 a.2] 58)).alloc (.cells #[.int .u32 (b.1 : Int), .int .i64 b.2] 58)).drew = W1 at *
  generalize w.heap.size = q at *
  refine held_reads [0, 1, 2, 3, 5, 6, 7, 8] (g := 5) rfl (by kernel_rfl) F0.out.2 (fun _ _ d _ _ h => by cases d <;> exact h) ?_
  simp only [pick, List.getD_cons_zero, List.getD_cons_succ]
  ((with_reducible refine wpRead_step (fun K hK => ?_)); go_simp; first | ((with_reducible refine hK _ ?_); clear hK K) | (apply Exists.intro; (with_reducible refine ⟨fun w' hw' => ?_, hK _ ?_⟩); (first | exact rfl | exact ⟨rfl, rfl⟩); clear hK K))
  ((with_reducible refine wpRead_step (fun K hK => ?_)); go_simp; first | ((with_reducible refine hK _ ?_); clear hK K) | (apply Exists.intro; (with_reducible refine ⟨fun w' hw' => ?_, hK _ ?_⟩); (obtain ⟨⟨f0, f1⟩, f2, f3⟩ := TwoS.cells hw'; go_simp; first | exact rfl | exact ⟨rfl, rfl⟩); clear hK K))
  ((with_reducible refine wpRead_step (fun K hK => ?_)); go_simp; first | ((with_reducible refine hK _ ?_); clear hK K) | (apply Exists.intro; (with_reducible refine ⟨fun w' hw' => ?_, hK _ ?_⟩); (first | exact rfl | exact ⟨rfl, rfl⟩); clear hK K))
  ((with_reducible refine wpRead_step (fun K hK => ?_)); go_simp; first | ((with_reducible refine hK _ ?_); clear hK K) | (apply Exists.intro; (with_reducible refine ⟨fun w' hw' => ?_, hK _ ?_⟩); (obtain ⟨⟨f0, f1⟩, f2, f3⟩ := TwoS.cells hw'; go_simp; first | exact rfl | exact ⟨rfl, rfl⟩); clear hK K))
  ((with_reducible refine wpRead_step (fun K hK => ?_)); go_simp; first | ((with_reducible refine hK _ ?_); clear hK K) | (apply Exists.intro; (with_reducible refine ⟨fun w' hw' => ?_, hK _ ?_⟩); (first | exact rfl | exact ⟨rfl, rfl⟩); clear hK K))
  ((with_reducible refine wpRead_step (fun K hK => ?_)); go_simp; first | ((with_reducible refine hK _ ?_); clear hK K) | (apply Exists.intro; (with_reducible refine ⟨fun w' hw' => ?_, hK _ ?_⟩); (obtain ⟨⟨f0, f1⟩, f2, f3⟩ := TwoS.cells hw'; go_simp; first | exact rfl | exact ⟨rfl, rfl⟩); clear hK K))
  ((with_reducible refine wpRead_step (fun K hK => ?_)); go_simp; first | ((with_reducible refine hK _ ?_); clear hK K) | (apply Exists.intro; (with_reducible refine ⟨fun w' hw' => ?_, hK _ ?_⟩); (first | exact rfl | exact ⟨rfl, rfl⟩); clear hK K))
  ((with_reducible refine wpRead_step (fun K hK => ?_)); go_simp; first | ((with_reducible refine hK _ ?_); clear hK K) | (apply Exists.intro; (with_reducible refine ⟨fun w' hw' => ?_, hK _ ?_⟩); (obtain ⟨⟨f0, f1⟩, f2, f3⟩ := TwoS.cells hw'; go_simp; first | exact rfl | exact ⟨rfl, rfl⟩); clear hK K))
  with_reducible refine wpRead_nil ?_
  refine held_one 4 (by kernel_rfl) ?_
  simp only [pick, List.getD_cons_zero, List.getD_cons_succ]
  go_wp2_with fail
  refine (cmpu_any _ _ _).mono ?_
  rintro e W2 ⟨rfl, hw⟩
  subst hw
  go_wp2_with fail
  refine ⟨F0.out.2, ?_⟩
  refine held_one 9 (by kernel_rfl) ?_
  simp only [pick, List.getD_cons_zero, List.getD_cons_succ]
  go_wp2_with fail
  refine (cmpi_any _ _ _).mono ?_
  rintro e W2 ⟨rfl, hw⟩
  subst hw
  go_wp2_with fail
  refine ⟨F0.out.2, ?_⟩
  have hal := (Below.refl W2.heap.size W2).alloc (Nat.le_refl _) (.cells #[.int .i64 (cmpI (a.1 : Int) (b.1 : Int)), .int .i64 (cmpI a.2 b.2)] 3)
  have hnb : (W2.alloc (.cells #[.int .i64 (cmpI (a.1 : Int) (b.1 : Int)), .int .i64 (cmpI a.2 b.2)] 3)).heap[W2.heap.size]? = some (.cells #[.int .i64 (cmpI (a.1 : Int) (b.1 : Int)), .int .i64 (cmpI a.2 b.2)] 3) := hnew _ _
  have F1 := Lib.hid (And.intro (F0.out.1.alloc (.cells #[.int .i64 (cmpI (a.1 : Int) (b.1 : Int)), .int .i64 (cmpI a.2 b.2)] 3)) (And.intro (F0.out.2.on hal) (show (W2.alloc (.cells #[.int .i64 (cmpI (a.1 : Int) (b.1 : Int)), .int .i64 (cmpI a.2 b.2)] 3)).cell? ⟨W2.heap.size, 0, none⟩ = some (.int .i64 (cmpI (a.1 : Int) (b.1 : Int))) ∧ (W2.alloc (.cells #[.int .i64 (cmpI (a.1 : Int) (b.1 : Int)), .int .i64 (cmpI a.2 b.2)] 3)).cell? ⟨W2.heap.size, 1, none⟩ = some (.int .i64 (cmpI a.2 b.2)) from ⟨cell_of hnb rfl, cell_of hnb rfl⟩)))
  clear hal hnb F0
  refine held_one 10 (by kernel_rfl) ?_
  simp only [pick, List.getD_cons_zero, List.getD_cons_succ]
  go_wp2_with fail
  generalize W2.alloc (.cells #[.int .i64 (cmpI (a.1 : Int) (b.1 : Int)), .int .i64 (cmpI a.2 b.2)] 3) = W3 at *
  generalize W2.heap.size = q2 at *
  refine ⟨F1.out.2.1, ?_⟩
  refine held_one 11 (by kernel_rfl) ?_
  simp only [pick, List.getD_cons_zero, List.getD_cons_succ]
  go_wp2_with fail
  refine (or_any F1.out.2.2).mono ?_
  rintro e W4 ⟨rfl, hw⟩
  subst hw
  rw [HV.out]
  go_wp2_with fail
  refine ⟨F1.out.2.1, ?_⟩
  refine held_one 12 (by kernel_rfl) ?_
  simp only [pick, List.getD_cons_zero, List.getD_cons_succ]
  go_wp2_with fail
  refine ⟨F1.out.2.1, ?_⟩
  refine wpAnyH_done (by kernel_rfl) ?_ _
  go_wp2_with fail
  go_ret
  exact ⟨rfl, F1.out.1⟩

def TwoN (q0 q1 : Nat) (a b : Nl) (w : World) : Prop := w.heap[q0]? = some (.cells #[.int .i64 a.id, .int .u32 (a.a : Int), .int .i64 a.ln] 60) ∧ w.heap[q1]? = some (.cells #[.int .i64 b.id, .int .u32 (b.a : Int), .int .i64 b.ln] 60)
theorem TwoN.cells {q0 q1 : Nat} {a b : Nl} {w : World} (h : TwoN q0 q1 a b w) : (w.cell? ⟨q0, 0, none⟩ = some (.int .i64 a.id) ∧ w.cell? ⟨q0, 1, none⟩ = some (.int .u32 (a.a : Int)) ∧ w.cell? ⟨q0, 2, none⟩ = some (.int .i64 a.ln)) ∧ w.cell? ⟨q1, 0, none⟩ = some (.int .i64 b.id) ∧ w.cell? ⟨q1, 1, none⟩ = some (.int .u32 (b.a : Int)) ∧ w.cell? ⟨q1, 2, none⟩ = some (.int .i64 b.ln) := ⟨⟨cell_of h.1 rfl, cell_of h.1 rfl, cell_of h.1 rfl⟩, cell_of h.2 rfl, cell_of h.2 rfl, cell_of h.2 rfl⟩
theorem TwoN.on {q0 q1 : Nat} {a b : Nl} {w w' : World} (h : TwoN q0 q1 a b w) (hb : Below w.heap.size w w') : TwoN q0 q1 a b w' := ⟨(hb.block _ (lt_of_blk h.1)).trans h.1, (hb.block _ (lt_of_blk h.2)).trans h.2⟩
theorem rncompare_any (a b : Nl) (w : World) : Calls Tryz.prog 186 #[a.v, b.v] w fun e w' => e = .returned (.int .i64 (cmpN a b)) ∧ Below w.heap.size w w' := by
  have hb0 := ((Below.refl w.heap.size w).alloc (Nat.le_refl _) (.cells #[.int .i64 a.id, .int .u32 (a.a : Int), .int .i64 a.ln] 60)).alloc (by simp) (.cells #[.int .i64 b.id, .int .u32 (b.a : Int), .int .i64 b.ln] 60)
  have ht : TwoN w.heap.size (w.heap.size + 1) a b ((w.alloc (.cells #[.int .i64 a.id, .int .u32 (a.a : Int), .int .i64 a.ln] 60)).alloc (.cells #[.int .i64 b.id, .int .u32 (b.a : Int), .int .i64 b.ln] 60)) := ⟨hold (hnew _ _), hnewAt (by simp)⟩
  have F0 := Lib.hid (And.intro hb0 ht)
  have HC := Lib.hid (fun W => rcompare_any a.a a.ln b.a b.ln W)
  have hcase : (cmpP a.a a.ln b.a b.ln = 0) ∨ ((cmpP a.a a.ln b.a b.ln == 0) = false ∧ cmpN a b = cmpP a.a a.ln b.a b.ln) := by
    by_cases h : cmpP a.a a.ln b.a b.ln = 0
    · exact .inl h
    · refine .inr ⟨by simpa using h, ?_⟩
      show or2 (cmpP a.a a.ln b.a b.ln) _ = _
      exact if_neg h
  have HV := Lib.hid (show cmpP a.a a.ln b.a b.ln = 0 → cmpN a b = cmpI a.id b.id from fun h => by
    show or2 (cmpP a.a a.ln b.a b.ln) _ = _
    exact if_pos h)
  obtain ⟨v, hv⟩ : ∃ v, cmpN a b = v := ⟨_, rfl⟩
  obtain ⟨kv, hkv⟩ : ∃ v, cmpP a.a a.ln b.a b.ln = v := ⟨_, rfl⟩
  rw [hv, hkv] at hcase
  rw [hv, hkv] at HV
  rw [hkv] at HC
  rw [hv]
  unfold pfx at HC
  unfold Nl.v
  clear hb0 ht hv hkv
  have f := TwoN.cells F0.out.2
  obtain ⟨⟨c0, c1, c2⟩, d0, d1, d2⟩ := f
  go_enter Tryz.func186, Tryz.ntmps186
  go_wp2_with fail
  refine (HC.out _).mono ?_
  rintro e w1 ⟨rfl, hb⟩
  have F1 := Lib.hid (And.intro (bcall F0.out.1 (by simp) hb) (F0.out.2.on hb))
  clear hb c0 c1 c2 d0 d1 d2 F0
  have f := TwoN.cells F1.out.2
  obtain ⟨⟨c0, c1, c2⟩, d0, d1, d2⟩ := f
  rcases hcase with rfl | ⟨h1, rfl⟩
  · have HW := Lib.hid (HV.out rfl)
    clear HV
    rcases Decidable.em (a.id < b.id) with h1 | h1
    · have e1 : (a.id < b.id) = True := eq_true h1
      have HI := Lib.hid (show cmpI a.id b.id = -1 from if_pos h1)
      clear h1
      go_wp2_with fail
      go_ret
      exact ⟨ret_int (by rw [HW.out, HI.out]), F1.out.1⟩
    · have e1 : (a.id < b.id) = False := eq_false h1
      rcases Decidable.em (b.id < a.id) with h2 | h2
      · have e2 : (b.id < a.id) = True := eq_true h2
        have HI := Lib.hid (show cmpI a.id b.id = 1 from (if_neg h1).trans (if_pos h2))
        clear h1 h2
        go_wp2_with fail
        go_ret
        exact ⟨ret_int (by rw [HW.out, HI.out]), F1.out.1⟩
      · have e2 : (b.id < a.id) = False := eq_false h2
        have HI := Lib.hid (show cmpI a.id b.id = 0 from (if_neg h1).trans (if_neg h2))
        clear h1 h2
        go_wp2_with fail
        go_ret
        exact ⟨ret_int (by rw [HW.out, HI.out]), F1.out.1⟩
  · go_wp2_with fail
    go_ret
    exact ⟨rfl, F1.out.1⟩
end Go.Proofs.YtadoflcomienoaaGreat
/- Numbers of bytes. -/
namespace Go.Proofs.YtadoflcomienoaaGreat
open Go.RowKit

/-- bytes in memory -/
def RB : Rep Nat := ⟨5, 1, by decide, fun b => [.int .u8 (b : Int)], fun _ => rfl, fun _ => rfl⟩
theorem T27 : Rep.Ty Tryz.prog 110 RB 1 := Rep.Ty.mk' Tryz.underlying110 (z := .int .u8 0) (by kernel_rfl) rfl
def Bytes (l : List Nat) : Prop := ∀ b ∈ l, b < 256
def getN (l : List Nat) : Nat := l.foldl (fun a b => 256 * a + b) 0
theorem getN_snoc (l : List Nat) (b : Nat) : getN (l ++ [b]) = 256 * getN l + b := by simp [getN, List.foldl_append]
theorem foldl_lt (l : List Nat) : ∀ a, Bytes l → l.foldl (fun a b => 256 * a + b) a < (a + 1) * 256 ^ l.length := by
  induction l with
  | nil => intro a _; simp
  | cons b r ih =>
    intro a h
    have h1 := ih (256 * a + b) (fun x hx => h x (by simp [hx]))
    have h2 := h b (by simp)
    simp only [List.foldl_cons, List.length_cons]
    refine Nat.lt_of_lt_of_le h1 ?_
    rw [Nat.pow_succ, ← Nat.mul_assoc, Nat.mul_right_comm]
    exact Nat.mul_le_mul_right _ (by omega)
theorem getN_lt (l : List Nat) (h : Bytes l) : getN l < 256 ^ l.length := by
  have := foldl_lt l 0 h
  simpa [getN] using this
theorem take_snoc {α : Type} [Inhabited α] (l : List α) (k : Nat) (h : k < l.length) : l.take (k + 1) = l.take k ++ [l.getD k default] := by
  rw [List.take_succ_eq_append_getElem h]; simp [List.getD_eq_getElem?_getD, h]
end Go.Proofs.YtadoflcomienoaaGreat
/- A number's bytes. -/
namespace Go.Proofs.YtadoflcomienoaaGreat
open Go.RowKit

/-- a number's bytes, the great one first -/
def be : Nat → Nat → List Nat
  | 0, _ => []
  | k + 1, n => be k (n / 256) ++ [n % 256]
theorem be_length (k n : Nat) : (be k n).length = k := by
  induction k generalizing n with
  | zero => rfl
  | succ k ih => simp [be, ih]
theorem be_bytes (k n : Nat) : Bytes (be k n) := by
  induction k generalizing n with
  | zero => intro b hb; cases hb
  | succ k ih =>
    intro b hb
    rcases List.mem_append.1 hb with h | h
    · exact ih _ b h
    · rw [List.mem_singleton.1 h]; omega
theorem getN_be (k n : Nat) (h : n < 256 ^ k) : getN (be k n) = n := by
  induction k generalizing n with
  | zero => simp only [Nat.pow_zero] at h; simp [be, getN]; omega
  | succ k ih =>
    rw [be, getN_snoc, ih]
    · omega
    · rw [Nat.pow_succ] at h; omega
theorem own2 {w : World} {base g n : Nat} (hb : base ≤ g) (h : w.heap[g]? = some (.cells #[.int .u8 ((n / 256 % 256 : Nat) : Int), .int .u8 ((n % 256 : Nat) : Int)] 5)) : RB.Own w base (.slice (some ⟨g, 0, none⟩) 2 2) (be 2 n) := by
  have hl : (be 2 n).length = 2 := be_length _ _
  have hf : RB.flat (be 2 n) = (#[.int .u8 ((n / 256 % 256 : Nat) : Int), .int .u8 ((n % 256 : Nat) : Int)] : Array Value).toList := by
    simp only [be, List.nil_append, List.cons_append, RB, Rep.flat, List.flatMap_cons, List.flatMap_nil, List.append_nil]
  unfold Rep.Own
  rw [hl, hf]
  refine ⟨rfl, .inr ⟨g, 2, _, rfl, hb, h, Nat.le_refl _, by unfold maxLen; omega, rfl, rfl⟩⟩
theorem own4 {w : World} {base g n : Nat} (hb : base ≤ g) (h : w.heap[g]? = some (.cells #[.int .u8 ((n / 16777216 % 256 : Nat) : Int), .int .u8 ((n / 65536 % 256 : Nat) : Int), .int .u8 ((n / 256 % 256 : Nat) : Int), .int .u8 ((n % 256 : Nat) : Int)] 5)) : RB.Own w base (.slice (some ⟨g, 0, none⟩) 4 4) (be 4 n) := by
  have hl : (be 4 n).length = 4 := be_length _ _
  have hf : RB.flat (be 4 n) = (#[.int .u8 ((n / 16777216 % 256 : Nat) : Int), .int .u8 ((n / 65536 % 256 : Nat) : Int), .int .u8 ((n / 256 % 256 : Nat) : Int), .int .u8 ((n % 256 : Nat) : Int)] : Array Value).toList := by
    simp only [be, List.nil_append, List.cons_append, RB, Rep.flat, List.flatMap_cons, List.flatMap_nil, List.append_nil, Nat.div_div_eq_div_mul]
  unfold Rep.Own
  rw [hl, hf]
  refine ⟨rfl, .inr ⟨g, 4, _, rfl, hb, h, Nat.le_refl _, by unfold maxLen; omega, rfl, rfl⟩⟩
set_option maxRecDepth 100000 in
set_option maxHeartbeats 400000 in
theorem put2_any (n : Nat) (hn : n < 65536) (w : World) : Calls Tryz.prog 184 #[.int .i64 n, .int .i64 2] w fun e w' => ∃ v, e = .returned (.tuple #[v, .int .i64 0]) ∧ RB.Own w' w.heap.size v (be 2 n) ∧ Below w.heap.size w w' := by
  have hmk : ∀ w : World, (Instr.makeSlice 110 (.int .i64 2) (.int .i64 2)).run Tryz.prog w = .ok (.slice (some ⟨w.heap.size, 0, none⟩) 2 2) (w.alloc (.cells #[.int .u8 0, .int .u8 0] 5)) := fun _ => by kernel_rfl
  have hq : (n : Int) / 65536 = 0 := by omega
  have hq0 : ((n : Int) < 0) = False := by simp only [eq_iff_iff, iff_false]; omega
  go_enter Tryz.func184, Tryz.ntmps184
  go_wp2_with fail
  clear hq hq0
  have hw1 : ∃ w1, w1 = w.alloc (.cells #[.int .u8 0, .int .u8 0] 5) := ⟨_, rfl⟩
  obtain ⟨w1, hw1⟩ := hw1
  have hb1 : Below w.heap.size w w1 := by rw [hw1]; exact (Below.refl w.heap.size w).alloc (Nat.le_refl _) _
  have hc1 : w1.heap[w.heap.size]? = some (.cells #[.int .u8 0, .int .u8 0] 5) := by rw [hw1]; exact hnew _ _
  rw [← hw1]
  clear hw1 hmk
  go_loopw [27] (fun iv wr => Below w.heap.size w wr ∧ ((iv = .int .i64 0 ∧ wr.heap[w.heap.size]? = some (.cells #[.int .u8 0, .int .u8 0] 5)) ∨ (iv = .int .i64 1 ∧ wr.heap[w.heap.size]? = some (.cells #[.int .u8 ((n / 256 % 256 : Nat) : Int), .int .u8 0] 5)) ∨ (iv = .int .i64 2 ∧ wr.heap[w.heap.size]? = some (.cells #[.int .u8 ((n / 256 % 256 : Nat) : Int), .int .u8 ((n % 256 : Nat) : Int)] 5)))) (fun iv _ => 2 - (intOf iv).toNat)
  case atStart => exact ⟨hb1, .inl ⟨rfl, hc1⟩⟩
  case round =>
    obtain ⟨hbr, hrel⟩ := hrel
    rcases hrel with ⟨rfl, hcr⟩ | ⟨rfl, hcr⟩ | ⟨rfl, hcr⟩
    · have e0 : ∀ o, wr.frozen? ⟨w.heap.size, o, none⟩ = false := fun o => free_of hcr
      have c0 : wr.cell? ⟨w.heap.size, 0, none⟩ = some ((.int .u8 0)) := cell_of hcr rfl
      have c1 : wr.cell? ⟨w.heap.size, 1, none⟩ = some ((.int .u8 0)) := cell_of hcr rfl
      go_wp2_with fail
      go_roundw
      case rel =>
        refine ⟨hbr.trans (((SetB.self hcr).store (o := 0) (lt_of_blk hcr) _).below (Nat.le_refl _)), .inr (.inl ⟨rfl, (((SetB.self hcr).store (o := 0) (lt_of_blk hcr) _).at (lt_of_blk hcr)).trans ?_⟩)⟩
        simp only [List.setIfInBounds_toArray, List.set_cons_zero, Option.some.injEq, Obj.cells.injEq, and_true, true_and, Array.mk.injEq, List.cons.injEq, Value.int.injEq]
        omega
      case measure => simp [intOf]
    · have e0 : ∀ o, wr.frozen? ⟨w.heap.size, o, none⟩ = false := fun o => free_of hcr
      have c0 : wr.cell? ⟨w.heap.size, 0, none⟩ = some ((.int .u8 ((n / 256 % 256 : Nat) : Int))) := cell_of hcr rfl
      have c1 : wr.cell? ⟨w.heap.size, 1, none⟩ = some ((.int .u8 0)) := cell_of hcr rfl
      go_wp2_with fail
      go_roundw
      case rel =>
        refine ⟨hbr.trans (((SetB.self hcr).store (o := 1) (lt_of_blk hcr) _).below (Nat.le_refl _)), .inr (.inr (⟨rfl, (((SetB.self hcr).store (o := 1) (lt_of_blk hcr) _).at (lt_of_blk hcr)).trans ?_⟩))⟩
        simp only [List.setIfInBounds_toArray, List.set_cons_zero, List.set_cons_succ, Option.some.injEq, Obj.cells.injEq, and_true, true_and, Array.mk.injEq, List.cons.injEq, Value.int.injEq]
        omega
      case measure => simp [intOf]
    · go_wp2_with fail
      go_ret2
      exact ⟨_, rfl, own2 (Nat.le_refl _) hcr, hbr⟩
set_option maxRecDepth 100000 in
set_option maxHeartbeats 400000 in
theorem put4_any (n : Nat) (hn : n < 4294967296) (w : World) : Calls Tryz.prog 184 #[.int .i64 n, .int .i64 4] w fun e w' => ∃ v, e = .returned (.tuple #[v, .int .i64 0]) ∧ RB.Own w' w.heap.size v (be 4 n) ∧ Below w.heap.size w w' := by
  have hmk : ∀ w : World, (Instr.makeSlice 110 (.int .i64 4) (.int .i64 4)).run Tryz.prog w = .ok (.slice (some ⟨w.heap.size, 0, none⟩) 4 4) (w.alloc (.cells #[.int .u8 0, .int .u8 0, .int .u8 0, .int .u8 0] 5)) := fun _ => by kernel_rfl
  have hq : (n : Int) / 4294967296 = 0 := by omega
  have hq0 : ((n : Int) < 0) = False := by simp only [eq_iff_iff, iff_false]; omega
  go_enter Tryz.func184, Tryz.ntmps184
  go_wp2_with fail
  clear hq hq0
  have hw1 : ∃ w1, w1 = w.alloc (.cells #[.int .u8 0, .int .u8 0, .int .u8 0, .int .u8 0] 5) := ⟨_, rfl⟩
  obtain ⟨w1, hw1⟩ := hw1
  have hb1 : Below w.heap.size w w1 := by rw [hw1]; exact (Below.refl w.heap.size w).alloc (Nat.le_refl _) _
  have hc1 : w1.heap[w.heap.size]? = some (.cells #[.int .u8 0, .int .u8 0, .int .u8 0, .int .u8 0] 5) := by rw [hw1]; exact hnew _ _
  rw [← hw1]
  clear hw1 hmk
  go_loopw [27] (fun iv wr => Below w.heap.size w wr ∧ ((iv = .int .i64 0 ∧ wr.heap[w.heap.size]? = some (.cells #[.int .u8 0, .int .u8 0, .int .u8 0, .int .u8 0] 5)) ∨ (iv = .int .i64 1 ∧ wr.heap[w.heap.size]? = some (.cells #[.int .u8 ((n / 16777216 % 256 : Nat) : Int), .int .u8 0, .int .u8 0, .int .u8 0] 5)) ∨ (iv = .int .i64 2 ∧ wr.heap[w.heap.size]? = some (.cells #[.int .u8 ((n / 16777216 % 256 : Nat) : Int), .int .u8 ((n / 65536 % 256 : Nat) : Int), .int .u8 0, .int .u8 0] 5)) ∨ (iv = .int .i64 3 ∧ wr.heap[w.heap.size]? = some (.cells #[.int .u8 ((n / 16777216 % 256 : Nat) : Int), .int .u8 ((n / 65536 % 256 : Nat) : Int), .int .u8 ((n / 256 % 256 : Nat) : Int), .int .u8 0] 5)) ∨ (iv = .int .i64 4 ∧ wr.heap[w.heap.size]? = some (.cells #[.int .u8 ((n / 16777216 % 256 : Nat) : Int), .int .u8 ((n / 65536 % 256 : Nat) : Int), .int .u8 ((n / 256 % 256 : Nat) : Int), .int .u8 ((n % 256 : Nat) : Int)] 5)))) (fun iv _ => 4 - (intOf iv).toNat)
  case atStart => exact ⟨hb1, .inl ⟨rfl, hc1⟩⟩
  case round =>
    obtain ⟨hbr, hrel⟩ := hrel
    rcases hrel with ⟨rfl, hcr⟩ | ⟨rfl, hcr⟩ | ⟨rfl, hcr⟩ | ⟨rfl, hcr⟩ | ⟨rfl, hcr⟩
    · have e0 : ∀ o, wr.frozen? ⟨w.heap.size, o, none⟩ = false := fun o => free_of hcr
      have c0 : wr.cell? ⟨w.heap.size, 0, none⟩ = some ((.int .u8 0)) := cell_of hcr rfl
      have c1 : wr.cell? ⟨w.heap.size, 1, none⟩ = some ((.int .u8 0)) := cell_of hcr rfl
      have c2 : wr.cell? ⟨w.heap.size, 2, none⟩ = some ((.int .u8 0)) := cell_of hcr rfl
      have c3 : wr.cell? ⟨w.heap.size, 3, none⟩ = some ((.int .u8 0)) := cell_of hcr rfl
      go_wp2_with fail
      go_roundw
      case rel =>
        refine ⟨hbr.trans (((SetB.self hcr).store (o := 0) (lt_of_blk hcr) _).below (Nat.le_refl _)), .inr (.inl ⟨rfl, (((SetB.self hcr).store (o := 0) (lt_of_blk hcr) _).at (lt_of_blk hcr)).trans ?_⟩)⟩
        simp only [List.setIfInBounds_toArray, List.set_cons_zero, Option.some.injEq, Obj.cells.injEq, and_true, true_and, Array.mk.injEq, List.cons.injEq, Value.int.injEq]
        omega
      case measure => simp [intOf]
    · have e0 : ∀ o, wr.frozen? ⟨w.heap.size, o, none⟩ = false := fun o => free_of hcr
      have c0 : wr.cell? ⟨w.heap.size, 0, none⟩ = some ((.int .u8 ((n / 16777216 % 256 : Nat) : Int))) := cell_of hcr rfl
      have c1 : wr.cell? ⟨w.heap.size, 1, none⟩ = some ((.int .u8 0)) := cell_of hcr rfl
      have c2 : wr.cell? ⟨w.heap.size, 2, none⟩ = some ((.int .u8 0)) := cell_of hcr rfl
      have c3 : wr.cell? ⟨w.heap.size, 3, none⟩ = some ((.int .u8 0)) := cell_of hcr rfl
      go_wp2_with fail
      go_roundw
      case rel =>
        refine ⟨hbr.trans (((SetB.self hcr).store (o := 1) (lt_of_blk hcr) _).below (Nat.le_refl _)), .inr (.inr (.inl ⟨rfl, (((SetB.self hcr).store (o := 1) (lt_of_blk hcr) _).at (lt_of_blk hcr)).trans ?_⟩))⟩
        simp only [List.setIfInBounds_toArray, List.set_cons_zero, List.set_cons_succ, Option.some.injEq, Obj.cells.injEq, and_true, true_and, Array.mk.injEq, List.cons.injEq, Value.int.injEq]
        omega
      case measure => simp [intOf]
    · have e0 : ∀ o, wr.frozen? ⟨w.heap.size, o, none⟩ = false := fun o => free_of hcr
      have c0 : wr.cell? ⟨w.heap.size, 0, none⟩ = some ((.int .u8 ((n / 16777216 % 256 : Nat) : Int))) := cell_of hcr rfl
      have c1 : wr.cell? ⟨w.heap.size, 1, none⟩ = some ((.int .u8 ((n / 65536 % 256 : Nat) : Int))) := cell_of hcr rfl
      have c2 : wr.cell? ⟨w.heap.size, 2, none⟩ = some ((.int .u8 0)) := cell_of hcr rfl
      have c3 : wr.cell? ⟨w.heap.size, 3, none⟩ = some ((.int .u8 0)) := cell_of hcr rfl
      go_wp2_with fail
      go_roundw
      case rel =>
        refine ⟨hbr.trans (((SetB.self hcr).store (o := 2) (lt_of_blk hcr) _).below (Nat.le_refl _)), .inr (.inr (.inr (.inl ⟨rfl, (((SetB.self hcr).store (o := 2) (lt_of_blk hcr) _).at (lt_of_blk hcr)).trans ?_⟩)))⟩
        simp only [List.setIfInBounds_toArray, List.set_cons_zero, List.set_cons_succ, Option.some.injEq, Obj.cells.injEq, and_true, true_and, Array.mk.injEq, List.cons.injEq, Value.int.injEq]
        omega
      case measure => simp [intOf]
    · have e0 : ∀ o, wr.frozen? ⟨w.heap.size, o, none⟩ = false := fun o => free_of hcr
      have c0 : wr.cell? ⟨w.heap.size, 0, none⟩ = some ((.int .u8 ((n / 16777216 % 256 : Nat) : Int))) := cell_of hcr rfl
      have c1 : wr.cell? ⟨w.heap.size, 1, none⟩ = some ((.int .u8 ((n / 65536 % 256 : Nat) : Int))) := cell_of hcr rfl
      have c2 : wr.cell? ⟨w.heap.size, 2, none⟩ = some ((.int .u8 ((n / 256 % 256 : Nat) : Int))) := cell_of hcr rfl
      have c3 : wr.cell? ⟨w.heap.size, 3, none⟩ = some ((.int .u8 0)) := cell_of hcr rfl
      go_wp2_with fail
      go_roundw
      case rel =>
        refine ⟨hbr.trans (((SetB.self hcr).store (o := 3) (lt_of_blk hcr) _).below (Nat.le_refl _)), .inr (.inr (.inr (.inr (⟨rfl, (((SetB.self hcr).store (o := 3) (lt_of_blk hcr) _).at (lt_of_blk hcr)).trans ?_⟩))))⟩
        simp only [List.setIfInBounds_toArray, List.set_cons_zero, List.set_cons_succ, Option.some.injEq, Obj.cells.injEq, and_true, true_and, Array.mk.injEq, List.cons.injEq, Value.int.injEq]
        omega
      case measure => simp [intOf]
    · go_wp2_with fail
      go_ret2
      exact ⟨_, rfl, own4 (Nat.le_refl _) hcr, hbr⟩
set_option maxRecDepth 100000 in
set_option maxHeartbeats 400000 in
theorem rput2_any (n : Nat) (hn : n < 65536) (w : World) : Calls Tryz.prog 148 #[.int .i64 n, .int .i64 2] w fun e w' => ∃ v, e = .returned v ∧ RB.Own w' w.heap.size v (be 2 n) ∧ Below w.heap.size w w' := by
  have hmk : ∀ w : World, (Instr.makeSlice 110 (.int .i64 2) (.int .i64 2)).run Tryz.prog w = .ok (.slice (some ⟨w.heap.size, 0, none⟩) 2 2) (w.alloc (.cells #[.int .u8 0, .int .u8 0] 5)) := fun _ => by kernel_rfl
  go_enter Tryz.func148, Tryz.ntmps148
  go_wp2_with fail
  have hw1 : ∃ w1, w1 = w.alloc (.cells #[.int .u8 0, .int .u8 0] 5) := ⟨_, rfl⟩
  obtain ⟨w1, hw1⟩ := hw1
  have hb1 : Below w.heap.size w w1 := by rw [hw1]; exact (Below.refl w.heap.size w).alloc (Nat.le_refl _) _
  have hc1 : w1.heap[w.heap.size]? = some (.cells #[.int .u8 0, .int .u8 0] 5) := by rw [hw1]; exact hnew _ _
  rw [← hw1]
  clear hw1 hmk
  go_loopw [0, 6] (fun nv iv wr => Below w.heap.size w wr ∧ ((nv = .int .i64 ((n / 1 : Nat) : Int) ∧ iv = .int .i64 (1) ∧ wr.heap[w.heap.size]? = some (.cells #[.int .u8 0, .int .u8 0] 5)) ∨ (nv = .int .i64 ((n / 256 : Nat) : Int) ∧ iv = .int .i64 (0) ∧ wr.heap[w.heap.size]? = some (.cells #[.int .u8 0, .int .u8 ((n % 256 : Nat) : Int)] 5)) ∨ (nv = .int .i64 ((n / 65536 : Nat) : Int) ∧ iv = .int .i64 (-1) ∧ wr.heap[w.heap.size]? = some (.cells #[.int .u8 ((n / 256 % 256 : Nat) : Int), .int .u8 ((n % 256 : Nat) : Int)] 5)))) (fun _ iv _ => (intOf iv + 1).toNat)
  case atStart => exact ⟨hb1, .inl ⟨by simp, rfl, hc1⟩⟩
  case round =>
    obtain ⟨hbr, hrel⟩ := hrel
    rcases hrel with ⟨rfl, rfl, hcr⟩ | ⟨rfl, rfl, hcr⟩ | ⟨rfl, rfl, hcr⟩
    · have e0 : ∀ o, wr.frozen? ⟨w.heap.size, o, none⟩ = false := fun o => free_of hcr
      have c0 : wr.cell? ⟨w.heap.size, 0, none⟩ = some ((.int .u8 0)) := cell_of hcr rfl
      have c1 : wr.cell? ⟨w.heap.size, 1, none⟩ = some ((.int .u8 0)) := cell_of hcr rfl
      go_wp2_with fail
      go_roundw
      case rel =>
        refine ⟨hbr.trans (((SetB.self hcr).store (o := 1) (lt_of_blk hcr) _).below (Nat.le_refl _)), .inr (.inl ⟨by simp only [Value.int.injEq, true_and]; omega, rfl, (((SetB.self hcr).store (o := 1) (lt_of_blk hcr) _).at (lt_of_blk hcr)).trans ?_⟩)⟩
        simp only [List.setIfInBounds_toArray, List.set_cons_zero, List.set_cons_succ, Option.some.injEq, Obj.cells.injEq, and_true, true_and, Array.mk.injEq, List.cons.injEq, Value.int.injEq]
        omega
      case measure => simp [intOf]
    · have e0 : ∀ o, wr.frozen? ⟨w.heap.size, o, none⟩ = false := fun o => free_of hcr
      have c0 : wr.cell? ⟨w.heap.size, 0, none⟩ = some ((.int .u8 0)) := cell_of hcr rfl
      have c1 : wr.cell? ⟨w.heap.size, 1, none⟩ = some ((.int .u8 ((n % 256 : Nat) : Int))) := cell_of hcr rfl
      go_wp2_with fail
      go_roundw
      case rel =>
        refine ⟨hbr.trans (((SetB.self hcr).store (o := 0) (lt_of_blk hcr) _).below (Nat.le_refl _)), .inr (.inr (⟨by simp only [Value.int.injEq, true_and]; omega, rfl, (((SetB.self hcr).store (o := 0) (lt_of_blk hcr) _).at (lt_of_blk hcr)).trans ?_⟩))⟩
        simp only [List.setIfInBounds_toArray, List.set_cons_zero, Option.some.injEq, Obj.cells.injEq, and_true, true_and, Array.mk.injEq, List.cons.injEq, Value.int.injEq]
        omega
      case measure => simp [intOf]
    · go_wp2_with fail
      go_ret
      exact ⟨_, rfl, own2 (Nat.le_refl _) hcr, hbr⟩
set_option maxRecDepth 100000 in
set_option maxHeartbeats 400000 in
theorem rput4_any (n : Nat) (hn : n < 4294967296) (w : World) : Calls Tryz.prog 148 #[.int .i64 n, .int .i64 4] w fun e w' => ∃ v, e = .returned v ∧ RB.Own w' w.heap.size v (be 4 n) ∧ Below w.heap.size w w' := by
  have hmk : ∀ w : World, (Instr.makeSlice 110 (.int .i64 4) (.int .i64 4)).run Tryz.prog w = .ok (.slice (some ⟨w.heap.size, 0, none⟩) 4 4) (w.alloc (.cells #[.int .u8 0, .int .u8 0, .int .u8 0, .int .u8 0] 5)) := fun _ => by kernel_rfl
  go_enter Tryz.func148, Tryz.ntmps148
  go_wp2_with fail
  have hw1 : ∃ w1, w1 = w.alloc (.cells #[.int .u8 0, .int .u8 0, .int .u8 0, .int .u8 0] 5) := ⟨_, rfl⟩
  obtain ⟨w1, hw1⟩ := hw1
  have hb1 : Below w.heap.size w w1 := by rw [hw1]; exact (Below.refl w.heap.size w).alloc (Nat.le_refl _) _
  have hc1 : w1.heap[w.heap.size]? = some (.cells #[.int .u8 0, .int .u8 0, .int .u8 0, .int .u8 0] 5) := by rw [hw1]; exact hnew _ _
  rw [← hw1]
  clear hw1 hmk
  go_loopw [0, 6] (fun nv iv wr => Below w.heap.size w wr ∧ ((nv = .int .i64 ((n / 1 : Nat) : Int) ∧ iv = .int .i64 (3) ∧ wr.heap[w.heap.size]? = some (.cells #[.int .u8 0, .int .u8 0, .int .u8 0, .int .u8 0] 5)) ∨ (nv = .int .i64 ((n / 256 : Nat) : Int) ∧ iv = .int .i64 (2) ∧ wr.heap[w.heap.size]? = some (.cells #[.int .u8 0, .int .u8 0, .int .u8 0, .int .u8 ((n % 256 : Nat) : Int)] 5)) ∨ (nv = .int .i64 ((n / 65536 : Nat) : Int) ∧ iv = .int .i64 (1) ∧ wr.heap[w.heap.size]? = some (.cells #[.int .u8 0, .int .u8 0, .int .u8 ((n / 256 % 256 : Nat) : Int), .int .u8 ((n % 256 : Nat) : Int)] 5)) ∨ (nv = .int .i64 ((n / 16777216 : Nat) : Int) ∧ iv = .int .i64 (0) ∧ wr.heap[w.heap.size]? = some (.cells #[.int .u8 0, .int .u8 ((n / 65536 % 256 : Nat) : Int), .int .u8 ((n / 256 % 256 : Nat) : Int), .int .u8 ((n % 256 : Nat) : Int)] 5)) ∨ (nv = .int .i64 ((n / 4294967296 : Nat) : Int) ∧ iv = .int .i64 (-1) ∧ wr.heap[w.heap.size]? = some (.cells #[.int .u8 ((n / 16777216 % 256 : Nat) : Int), .int .u8 ((n / 65536 % 256 : Nat) : Int), .int .u8 ((n / 256 % 256 : Nat) : Int), .int .u8 ((n % 256 : Nat) : Int)] 5)))) (fun _ iv _ => (intOf iv + 1).toNat)
  case atStart => exact ⟨hb1, .inl ⟨by simp, rfl, hc1⟩⟩
  case round =>
    obtain ⟨hbr, hrel⟩ := hrel
    rcases hrel with ⟨rfl, rfl, hcr⟩ | ⟨rfl, rfl, hcr⟩ | ⟨rfl, rfl, hcr⟩ | ⟨rfl, rfl, hcr⟩ | ⟨rfl, rfl, hcr⟩
    · have e0 : ∀ o, wr.frozen? ⟨w.heap.size, o, none⟩ = false := fun o => free_of hcr
      have c0 : wr.cell? ⟨w.heap.size, 0, none⟩ = some ((.int .u8 0)) := cell_of hcr rfl
      have c1 : wr.cell? ⟨w.heap.size, 1, none⟩ = some ((.int .u8 0)) := cell_of hcr rfl
      have c2 : wr.cell? ⟨w.heap.size, 2, none⟩ = some ((.int .u8 0)) := cell_of hcr rfl
      have c3 : wr.cell? ⟨w.heap.size, 3, none⟩ = some ((.int .u8 0)) := cell_of hcr rfl
      go_wp2_with fail
      go_roundw
      case rel =>
        refine ⟨hbr.trans (((SetB.self hcr).store (o := 3) (lt_of_blk hcr) _).below (Nat.le_refl _)), .inr (.inl ⟨by simp only [Value.int.injEq, true_and]; omega, rfl, (((SetB.self hcr).store (o := 3) (lt_of_blk hcr) _).at (lt_of_blk hcr)).trans ?_⟩)⟩
        simp only [List.setIfInBounds_toArray, List.set_cons_zero, List.set_cons_succ, Option.some.injEq, Obj.cells.injEq, and_true, true_and, Array.mk.injEq, List.cons.injEq, Value.int.injEq]
        omega
      case measure => simp [intOf]
    · have e0 : ∀ o, wr.frozen? ⟨w.heap.size, o, none⟩ = false := fun o => free_of hcr
      have c0 : wr.cell? ⟨w.heap.size, 0, none⟩ = some ((.int .u8 0)) := cell_of hcr rfl
      have c1 : wr.cell? ⟨w.heap.size, 1, none⟩ = some ((.int .u8 0)) := cell_of hcr rfl
      have c2 : wr.cell? ⟨w.heap.size, 2, none⟩ = some ((.int .u8 0)) := cell_of hcr rfl
      have c3 : wr.cell? ⟨w.heap.size, 3, none⟩ = some ((.int .u8 ((n % 256 : Nat) : Int))) := cell_of hcr rfl
      go_wp2_with fail
      go_roundw
      case rel =>
        refine ⟨hbr.trans (((SetB.self hcr).store (o := 2) (lt_of_blk hcr) _).below (Nat.le_refl _)), .inr (.inr (.inl ⟨by simp only [Value.int.injEq, true_and]; omega, rfl, (((SetB.self hcr).store (o := 2) (lt_of_blk hcr) _).at (lt_of_blk hcr)).trans ?_⟩))⟩
        simp only [List.setIfInBounds_toArray, List.set_cons_zero, List.set_cons_succ, Option.some.injEq, Obj.cells.injEq, and_true, true_and, Array.mk.injEq, List.cons.injEq, Value.int.injEq]
        omega
      case measure => simp [intOf]
    · have e0 : ∀ o, wr.frozen? ⟨w.heap.size, o, none⟩ = false := fun o => free_of hcr
      have c0 : wr.cell? ⟨w.heap.size, 0, none⟩ = some ((.int .u8 0)) := cell_of hcr rfl
      have c1 : wr.cell? ⟨w.heap.size, 1, none⟩ = some ((.int .u8 0)) := cell_of hcr rfl
      have c2 : wr.cell? ⟨w.heap.size, 2, none⟩ = some ((.int .u8 ((n / 256 % 256 : Nat) : Int))) := cell_of hcr rfl
      have c3 : wr.cell? ⟨w.heap.size, 3, none⟩ = some ((.int .u8 ((n % 256 : Nat) : Int))) := cell_of hcr rfl
      go_wp2_with fail
      go_roundw
      case rel =>
        refine ⟨hbr.trans (((SetB.self hcr).store (o := 1) (lt_of_blk hcr) _).below (Nat.le_refl _)), .inr (.inr (.inr (.inl ⟨by simp only [Value.int.injEq, true_and]; omega, rfl, (((SetB.self hcr).store (o := 1) (lt_of_blk hcr) _).at (lt_of_blk hcr)).trans ?_⟩)))⟩
        simp only [List.setIfInBounds_toArray, List.set_cons_zero, List.set_cons_succ, Option.some.injEq, Obj.cells.injEq, and_true, true_and, Array.mk.injEq, List.cons.injEq, Value.int.injEq]
        omega
      case measure => simp [intOf]
    · have e0 : ∀ o, wr.frozen? ⟨w.heap.size, o, none⟩ = false := fun o => free_of hcr
      have c0 : wr.cell? ⟨w.heap.size, 0, none⟩ = some ((.int .u8 0)) := cell_of hcr rfl
      have c1 : wr.cell? ⟨w.heap.size, 1, none⟩ = some ((.int .u8 ((n / 65536 % 256 : Nat) : Int))) := cell_of hcr rfl
      have c2 : wr.cell? ⟨w.heap.size, 2, none⟩ = some ((.int .u8 ((n / 256 % 256 : Nat) : Int))) := cell_of hcr rfl
      have c3 : wr.cell? ⟨w.heap.size, 3, none⟩ = some ((.int .u8 ((n % 256 : Nat) : Int))) := cell_of hcr rfl
      go_wp2_with fail
      go_roundw
      case rel =>
        refine ⟨hbr.trans (((SetB.self hcr).store (o := 0) (lt_of_blk hcr) _).below (Nat.le_refl _)), .inr (.inr (.inr (.inr (⟨by simp only [Value.int.injEq, true_and]; omega, rfl, (((SetB.self hcr).store (o := 0) (lt_of_blk hcr) _).at (lt_of_blk hcr)).trans ?_⟩))))⟩
        simp only [List.setIfInBounds_toArray, List.set_cons_zero, Option.some.injEq, Obj.cells.injEq, and_true, true_and, Array.mk.injEq, List.cons.injEq, Value.int.injEq]
        omega
      case measure => simp [intOf]
    · go_wp2_with fail
      go_ret
      exact ⟨_, rfl, own4 (Nat.le_refl _) hcr, hbr⟩
end Go.Proofs.YtadoflcomienoaaGreat
/- Slices of bytes: Clone, Grow. -/
namespace Go.Proofs.YtadoflcomienoaaGreat
open Go.RowKit

/-- a slice that reads as bytes -/
structure BS (w : World) (oa : Option Addr) (n c : Nat) (l : List Nat) : Prop where
  sl : RB.Sl w oa n c l
  nil : oa = none → c = 0
  le : n ≤ c
  cap : c ≤ maxLen
  ad : oa = none ∨ ∃ b o, oa = some ⟨b, o, none⟩
theorem BS.below {w w' : World} {oa : Option Addr} {n c : Nat} {l : List Nat} (h : BS w oa n c l) (hb : Below w.heap.size w w') : BS w' oa n c l := ⟨h.sl.keep hb, h.nil, h.le, h.cap, h.ad⟩
theorem bs_own {w : World} {base : Nat} {v : Value} {l : List Nat} (h : RB.Own w base v l) : ∃ oa c, v = .slice oa l.length c ∧ BS w oa l.length c l := by
  obtain ⟨oa, c, rfl, hlc, hcm, hsl, -⟩ := h.sl
  refine ⟨oa, c, rfl, hsl, ?_, hlc, hcm, ?_⟩
  · rintro rfl
    rcases h.cases with ⟨hv, _⟩ | ⟨g, cap, hv, _⟩
    · injection hv
    · cases hv
  · rcases h.cases with ⟨hv, _⟩ | ⟨g, cap, hv, _⟩
    · injection hv; exact .inl ‹_›
    · injection hv; exact .inr ⟨g, 0, ‹_›⟩
theorem rb_empty (w : World) : RB.Own (w.alloc (.cells #[] 5)) w.heap.size (.slice (some ⟨w.heap.size, 0, none⟩) 0 0) [] :=
  ⟨rfl, .inr ⟨w.heap.size, 0, #[], rfl, Nat.le_refl _, hnew _ _, Nat.le_refl _, by unfold maxLen; omega, rfl, rfl⟩⟩
theorem step_append2 {P : Program} {ops : Array Oper} {Q : Exit → Act → World → Prop} {rest : List Oper} {o : Oper} {a : Act} {w : World} {t t2 : TypeId} {v u v' : Value} {w' : World} (hgd : o.guard = none) (s x : Operand) (ho : o.op = .call { callee := .builtin .append, args := #[s, x], argTypes := #[t, t2] }) (hs : a.eval s = v) (hx : a.eval x = u)
    (hrun : (Builtin.append_ #[t, t2] o.type #[v, u]).run P w = .ok v' w') (h : wpList P ops Q rest (a.put o.dst v') w') : wpList P ops Q (o :: rest) a w :=
  wpList_plain hgd fun K hK => by
    have hk := hK _ _ h
    unfold Oper.wp execOp
    simp only [ho, resolve, invoke, builtin, Sem.run_bind, Sem.run_pure, Result.andThen_ok, List.map_toArray, List.map_cons, List.map_nil, hs, hx, hrun]
    exact hk
theorem info5 : (Tryz.prog.info? 5).map (fun i => (i.zero, i.size, i.bytes)) = some (some (.int .u8 0), 1, 1) := by kernel_rfl
set_option maxRecDepth 100000 in
set_option maxHeartbeats 400000 in
theorem grow_nil (n : Nat) (hn : n ≤ 1000000000) (w : World) : Calls Tryz.prog 207 #[.slice none 0 0, .int .i64 n] w fun e w' => ∃ v, e = .returned v ∧ RB.Own w' w.heap.size v [] ∧ Below w.heap.size w w' := by
  have h0 : ((n : Int) < 0) = False := by simp only [eq_iff_iff, iff_false]; omega
  by_cases hz : n = 0
  · subst hz
    go_enter Tryz.func207, Tryz.ntmps207
    go_wp2_with fail
    go_ret
    exact ⟨_, rfl, Rep.Own.nil _ _, Below.refl _ _⟩
  · have h1 : (0 < n) = True := by simp only [eq_iff_iff, iff_true]; omega
    have h3 : ((0 : Int) < n) = True := by simp only [eq_iff_iff, iff_true]; omega
    have h2 : wrap64 (n : Int) = n := by unfold wrap64; omega
    obtain ⟨i, hi, hiz, his, hib⟩ := info_parts info5
    have hrun : ∀ ty, (Builtin.append_ #[110, 3] ty #[.slice none 0 0, .int .i64 n]).run Tryz.prog w = _ := fun ty => Lib.run_append_grow_zeros w 110 3 ty 5 i (.int .u8 0) .i64 .i64 Tryz.underlying110 Tryz.underlying3 hi hiz none 0 0 [] (by rw [his]; simp [Builtin.firstCells]) n (by omega) (by omega) (by omega) (by omega) (by rw [hib]; omega) (growslice_fits (by omega) (by rw [hib]; omega))
    have H := Lib.hid hrun
    clear hrun hz
    go_enter Tryz.func207, Tryz.ntmps207
    go_wp2_with (refine step_append2 rfl (.tmp 20) (.tmp 21) rfl rfl rfl (H.out _) ?_)
    have hcap := grownCap_le_maxLen w n 0 5 (by unfold maxLen; omega)
    have hge := grownCap_ge w n 0 5
    go_ret
    refine ⟨_, rfl, ⟨rfl, .inr ⟨w.heap.size, _, _, rfl, Nat.le_refl _, hnew _ _, Nat.zero_le _, hcap, ?_, rfl⟩⟩, ((Below.refl w.heap.size w).alloc (Nat.le_refl _) _).drew⟩
    rw [Array.size_append, size_zeroCells, size_zeroCells]
    show n * 1 + (grownCap w n 0 5 - n) * 1 = grownCap w n 0 5 * 1
    omega
end Go.Proofs.YtadoflcomienoaaGreat
/- Concat. -/
namespace Go.Proofs.YtadoflcomienoaaGreat
open Go.RowKit

/-- a slice's header -/
def RH : Rep (Option Addr × Nat × Nat) := ⟨110, 1, by decide, fun x => [.slice x.1 x.2.1 x.2.2], fun _ => rfl, fun _ => rfl⟩
/-- slices that read as lists of bytes -/
structure BSS (w : World) (vs : List (Option Addr × Nat × Nat)) (ls : List (List Nat)) : Prop where
  len : vs.length = ls.length
  all : ∀ j, j < ls.length → RB.Sl w (vs.getD j default).1 (vs.getD j default).2.1 (vs.getD j default).2.2 (ls.getD j []) ∧ ((vs.getD j default).1 = none → (vs.getD j default).2.2 = 0)
theorem BSS.keep {w w' : World} {vs : List (Option Addr × Nat × Nat)} {ls : List (List Nat)} (h : BSS w vs ls) (hb : Below w.heap.size w w') : BSS w' vs ls := ⟨h.len, fun j hj => ⟨(h.all j hj).1.keep hb, (h.all j hj).2⟩⟩
def lsum (ls : List (List Nat)) : Nat := ls.flatten.length
theorem lsum_take {ls : List (List Nat)} {i : Nat} (h : i < ls.length) : lsum (ls.take (i + 1)) = lsum (ls.take i) + (ls.getD i []).length ∧ (ls.take (i + 1)).flatten = (ls.take i).flatten ++ ls.getD i [] := by
  have h1 : ls.take (i + 1) = ls.take i ++ [ls.getD i []] := by rw [List.take_succ_eq_append_getElem h]; simp [List.getD_eq_getElem?_getD, h]
  unfold lsum
  rw [h1, List.flatten_append, List.length_append]
  simp
theorem lsum_le (ls : List (List Nat)) (i : Nat) : lsum (ls.take i) ≤ lsum ls := by
  unfold lsum
  have h : ls.flatten = (ls.take i).flatten ++ (ls.drop i).flatten := by rw [← List.flatten_append, List.take_append_drop]
  rw [h, List.length_append]; omega
set_option maxRecDepth 100000 in
set_option maxHeartbeats 1000000 in
theorem concat_any {w : World} {oa : Option Addr} {n c : Nat} {vs : List (Option Addr × Nat × Nat)} {ls : List (List Nat)} (h : RH.Sl w oa n c vs) (hs : BSS w vs ls) (hn : n ≤ 1000) (hl : lsum ls ≤ 1000000) : Calls Tryz.prog 180 #[.slice oa n c] w fun e w' => ∃ v, e = .returned v ∧ RB.Own w' w.heap.size v ls.flatten ∧ Below w.heap.size w w' := by
  have hnl : n = ls.length := h.len.trans hs.len
  have H := Lib.hid (And.intro h hs)
  clear h hs
  go_enter Tryz.func180, Tryz.ntmps180
  go_wp2_with fail
  go_loopw [3, 11] (fun sv iv wr => ∃ i : Nat, i ≤ n ∧ iv = .int .i64 i ∧ sv = .int .i64 (lsum (ls.take i) : Nat) ∧ wr = w) (fun _ iv _ => n - (intOf iv).toNat)
  case atStart => exact ⟨0, Nat.zero_le _, rfl, rfl, rfl⟩
  case round =>
    obtain ⟨i, hi, rfl, rfl, rfl⟩ := hrel
    by_cases hlt : i < n
    · obtain ⟨bb, oo, rfl, hbb, hat⟩ := H.out.1.at hlt
      have c0 := hat 0 (by decide)
      simp only [RH, Nat.mul_one, Nat.add_zero, List.getElem?_cons_zero] at c0
      have hall := H.out.2.all i (by omega)
      have hlen := hall.1.len
      obtain ⟨h1, -⟩ := lsum_take (ls := ls) (i := i) (by omega)
      have h2 := lsum_le ls i
      have h3 := lsum_le ls (i + 1)
      have hil : ((i : Int) < (n : Int)) = True := by simp; omega
      generalize vs.getD i default = x at *
      generalize ls.getD i [] = y at *
      generalize hA : lsum (ls.take i) = A at *
      generalize hB : lsum (ls.take (i + 1)) = B at *
      have hw : IntKind.i64.wrap ((A : Int) + (x.2.1 : Int)) = (B : Int) := by rw [IntWalk.i64_in _ (by omega)]; omega
      have hw0 : ((B : Int) < 0) = False := by simp only [eq_iff_iff, iff_false]; omega
      have HB := Lib.hid hB
      clear hall hat hA hB
      go_wp2_with fail
      exact ⟨⟨i + 1, by omega, by rw [Int.natCast_succ], by rw [HB.out, ← hw, IntWalk.i64_in _ (by omega), hlen], trivial⟩, by show n - ((i : Int) + 1).toNat < n - (i : Int).toNat; omega⟩
    · obtain rfl : n = i := by omega
      have hil : ((n : Int) < (n : Int)) = False := by simp
      have hs : lsum (ls.take n) = lsum ls := by rw [hnl, List.take_length]
      rw [hs]
      clear hs
      go_wp2_with fail
      obtain ⟨w0, rfl⟩ : ∃ w0 : World, w0 = wr := ⟨_, rfl⟩
      refine (grow_nil (lsum ls) (by omega) _).mono ?_
      rintro e w1 ⟨v1, rfl, ho1, hb1⟩
      have HF := Lib.hid (And.intro ho1 hb1)
      clear ho1 hb1
      go_wp2_with fail
      go_loopw [6, 27] (fun sv iv wr2 => ∃ i : Nat, i ≤ n ∧ iv = .int .i64 i ∧ RB.Own wr2 w0.heap.size sv (ls.take i).flatten ∧ Below w0.heap.size w0 wr2) (fun _ iv _ => n - (intOf iv).toNat)
      case atStart => exact ⟨0, Nat.zero_le _, rfl, HF.out.1, HF.out.2⟩
      case round =>
        obtain ⟨i, hi2, rfl, hown, hbl⟩ := hrel
        by_cases hlt2 : i < n
        · obtain ⟨w2, rfl⟩ : ∃ w2 : World, w2 = wr := ⟨_, rfl⟩
          obtain ⟨bb, oo, rfl, hbb, hat⟩ := (H.out.1.keep hbl).at hlt2
          have c0 := hat 0 (by decide)
          simp only [RH, Nat.mul_one, Nat.add_zero, List.getElem?_cons_zero] at c0
          have hall := (H.out.2.keep hbl).all i (by omega)
          have hlen := hall.1.len
          obtain ⟨h1, h2⟩ := lsum_take (ls := ls) (i := i) (by omega)
          have h3 := lsum_le ls (i + 1)
          have hil2 : ((i : Int) < (n : Int)) = True := by simp; omega
          generalize vs.getD i default = x at *
          generalize ls.getD i [] = y at *
          unfold lsum at h1 h3 hl
          have HB := Lib.hid (And.intro hown (And.intro hbl (And.intro hall h2)))
          clear hall hat h2 hown hbl
          go_wp2_with (at_builtin; refine halt ?_)
          refine Halted.go ?_
          refine Rep.append_list T27 rfl _ _ rfl (base := w0.heap.size) rfl HB.out.1 rfl (hlen ▸ HB.out.2.2.1.1) HB.out.2.2.1.2 (by unfold maxLen; omega) (by omega) HB.out.2.1.size ?_
          intro v3 w3 hown3 hb3 _
          have HG := Lib.hid (And.intro hown3 (HB.out.2.1.trans hb3))
          clear hown3 hb3
          go_wp2_with fail
          exact ⟨⟨i + 1, by omega, by rw [Int.natCast_succ], by rw [HB.out.2.2.2]; exact HG.out.1, HG.out.2⟩, by show n - ((i : Int) + 1).toNat < n - (i : Int).toNat; omega⟩
        · obtain rfl : n = i := by omega
          have HB := Lib.hid (And.intro hown hbl)
          clear hown hbl
          go_wp2_with fail
          go_ret
          refine ⟨_, rfl, ?_, HB.out.2⟩
          have := HB.out.1
          rwa [hnl, List.take_length] at this
end Go.Proofs.YtadoflcomienoaaGreat
