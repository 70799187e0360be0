/- Get, Len, Longest. -/
import Derived.Test.YtlkbaplfffbmkaaIb
import Derived.Test.YtlkbaplfffbmkaaTl
namespace Go.Proofs.Ytlkbaplfffbmkaa
open Go.RowKit

theorem longI_nil (a : Nat) (w : World) : Calls Try.prog 43 #[.pointer none, .int .u32 a] w fun e w' => e = .returned (.tuple #[pfx 0 0, .int .i64 (0 : Int), .bool false]) ∧ Below w.heap.size w w' := by
  go_enter Try.func43, Try.ntmps43
  go_wp2_with (go_at_call 55; refine (madeI_nil _).mono ?_; rintro e w1 ⟨rfl, rfl⟩)
  refine ret_cell3 rfl rfl rfl (hnewAt rfl) Try.underlying32 rfl (by kernel_rfl) ⟨rfl, (Below.refl _ _).alloc (Nat.le_refl _) _⟩
theorem kidNoneI {w : World} {b n : Nat} {N : Nat → Nat → Option Nat} {M : Nat → Nat → Option Int} (h : TrieI w b N n M) {a : Nat} {i k : Nat} (hk : N (pcut a i) i = some k) :
    w.cell? ⟨k, if decide (i < 32) && a.testBit (31 - i) then 1 else 0, none⟩ = some (ptr (N (pcut a (i + 1)) (i + 1))) := by
  obtain ⟨n0, n1, -, -, -⟩ := nodeI h hk
  have hle := (h.key _ _ _ hk).le
  by_cases hi : i < 32
  · rw [cut_kid a (by omega)]
    simp only [hi, decide_true, Bool.true_and]
    cases a.testBit (31 - i)
    · exact n0
    · exact n1
  · simp only [hi, decide_false, Bool.false_and, Bool.false_eq_true, if_false]
    rw [h.none33 _ (by omega)]
    rw [h.none33 _ (by omega)] at n0
    exact n0
set_option maxHeartbeats 1000000 in
theorem longI_any {w : World} {b n : Nat} {N : Nat → Nat → Option Nat} {M : Nat → Nat → Option Int} (h : TrieI w b N n M) (a : Nat) (ha : a < 4294967296) :
    Calls Try.prog 43 #[.pointer (some ⟨b, 0, none⟩), .int .u32 a] w fun e w' => e = .returned (.tuple (match lng M a 33 with | none => #[pfx 0 0, .int .i64 (0 : Int), .bool false] | some j => #[pfx (pcut a j) j, .int .i64 ((M (pcut a j) j).getD (0 : Int)), .bool true])) ∧ Below w.heap.size w w' := by
  obtain ⟨r, hr, hb⟩ := h.root
  have hb0 := ((Below.refl w.heap.size w).alloc (Nat.le_refl _) (.cells #[.int .u32 0, .int .i64 0] 32))
  have c0 : w.cell? ⟨b, 0, none⟩ = some (.pointer (some ⟨r, 0, none⟩)) := cell_of hb rfl
  have c1 := cell_hold c0 (.cells #[.int .u32 0, .int .i64 0] 32)
  have HM := Lib.hid (madeI_any (h.below hb0))
  have HT := Lib.hid (h.below hb0)
  have HA := Lib.hid ha
  have HB0 := Lib.hid hb0
  have HK := Lib.hid (fun (j : Nat) w => make_any a j ha w)
  generalize hres : (match lng M a 33 with | none => #[pfx 0 0, .int .i64 (0 : Int), .bool false] | some j => #[pfx (pcut a j) j, .int .i64 ((M (pcut a j) j).getD (0 : Int)), .bool true]) = res
  have HRes := Lib.hid hres
  clear hres
  clear ha h hb hb0
  go_enter Try.func43, Try.ntmps43
  go_wp2_with (go_at_call 55; refine (HM.out).mono ?_; rintro e w1 ⟨rfl, rfl⟩)
  clear HM c0 c1
  obtain ⟨w1, hw1⟩ : ∃ w1 : World, w1 = w.alloc (.cells #[.int .u32 0, .int .i64 0] 32) := ⟨_, rfl⟩
  have hcell : w1.heap[w.heap.size]? = some (.cells #[.int .u32 0, .int .i64 0] 32) := by rw [hw1]; exact hnew _ _
  have HCell := Lib.hid hcell
  rw [← hw1] at HT HB0 ⊢
  clear hw1 hcell
  go_loopw [7, 8, 9, 10] (fun xv lv av iv wr => ∃ i : Nat, i ≤ 33 ∧ iv = .int .i64 i ∧ av = ptr (N (pcut a i) i) ∧ xv = .int .i64 (lngX (0 : Int) M a i) ∧ lv = .int .i64 (lngN M a i) ∧ Below w1.heap.size w1 wr) (fun _ _ _ iv _ => 34 - (intOf iv).toNat)
  case atStart => exact ⟨0, by omega, rfl, by rw [cut_0 HA.out, hr]; rfl, rfl, rfl, Below.refl _ _⟩
  case round =>
    obtain ⟨i, hi, rfl, rfl, rfl, rfl, hbw⟩ := hrel
    cases hN : N (pcut a i) i with
    | none =>
      have hst : lng M a 33 = lng M a i := lng_stop (fun j h1 h2 => by
        have := HT.out.none_down hN (j - i) (by omega)
        rw [show i + (j - i) = j by omega] at this
        exact HT.out.thing_none this) hi
      have hres := HRes.out
      rw [hst] at hres
      have hcw : wr.heap[w.heap.size]? = some (.cells #[.int .u32 0, .int .i64 0] 32) := (hbw.block _ (lt_of_blk HCell.out)).trans HCell.out
      have HW := Lib.hid (HB0.out.trans (hbw.mono HB0.out.size))
      unfold lngX lngN
      cases hl : lng M a i with
      | none =>
        rw [hl] at hres
        dsimp only at hres ⊢
        unfold ptr
        simp only [Option.map_none]
        have d0 : wr.cell? ⟨w.heap.size, 0, none⟩ = some (.int .u32 0) := cell_of hcw rfl
        have d1 : wr.cell? ⟨w.heap.size, 1, none⟩ = some (.int .i64 0) := cell_of hcw rfl
        have e0 : ∀ o, wr.frozen? ⟨w.heap.size, o, none⟩ = false := fun o => free_of hcw
        clear hbw hN hst hl HRes HK
        have HC := Lib.hid hcw
        have HE := Lib.hid hres
        clear hcw hres
        go_wp2_with fail
        have hs := ((SetB.self HC.out).store (o := 0) (lt_of_blk HC.out) (.int .u32 0)).store (o := 1) (lt_of_blk HC.out) (.int .i64 0)
        rw [← HE.out]
        refine ret_cell3 rfl rfl rfl (hs.at (lt_of_blk HC.out)) Try.underlying32 rfl (by kernel_rfl) ⟨rfl, HW.out.trans (hs.below (Nat.le_refl _))⟩
      | some j =>
        rw [hl] at hres
        dsimp only at hres ⊢
        unfold ptr
        simp only [Option.map_none]
        have hj := lng_lt hl
        have hcl : cl j = j := by unfold cl; rw [if_neg (by omega), if_neg (by omega)]; exact Int.toNat_natCast j
        have HMk := Lib.hid (HK.out j)
        rw [hcl] at HMk
        unfold pfx at HMk hres
        generalize (M (pcut a j) j).getD (0 : Int) = y at *
        clear hbw hN hst hl HRes HK hcl
        have HC := Lib.hid hcw
        have HE := Lib.hid hres
        clear hcw hres
        go_wp2_with (go_at_call 60; refine (HMk.out _).mono ?_; rintro e w2 ⟨rfl, hb2⟩; have hc2 := (hb2.block _ (lt_of_blk HC.out)).trans HC.out; have HC2 := Lib.hid hc2; have d0 : w2.cell? ⟨w.heap.size, 0, none⟩ = some (.int .u32 0) := cell_of hc2 rfl; have d1 : w2.cell? ⟨w.heap.size, 1, none⟩ = some (.int .i64 0) := cell_of hc2 rfl; have e0 : ∀ o, w2.frozen? ⟨w.heap.size, o, none⟩ = false := fun o => free_of hc2; have HB2 := Lib.hid hb2; clear hb2 hc2)
        have hs := ((SetB.self HC2.out).store (o := 0) (lt_of_blk HC2.out) (.int .u32 (pcut a j))).store (o := 1) (lt_of_blk HC2.out) (.int .i64 j)
        rw [← HE.out]
        refine ret_cell3 rfl rfl rfl (hs.at (lt_of_blk HC2.out)) Try.underlying32 rfl (by kernel_rfl) ⟨rfl, (HW.out.trans (HB2.out.mono HW.out.size)).trans (hs.below (Nat.le_refl _))⟩
    | some k =>
      have ht := HT.out.below hbw
      have hkk := (ht.key _ _ _ hN).le
      have nj := kidNoneI ht hN
      obtain ⟨-, -, c2, c3, -⟩ := nodeI ht hN
      have HBit := Lib.hid (bit_any a i HA.out)
      have HW := Lib.hid hbw
      have HSt := Lib.hid (And.intro (fun h => lng_none (z := (0 : Int)) (M := M) (a := a) (i := i) h) (fun x h => lng_some (z := (0 : Int)) (x := x) (M := M) (a := a) (i := i) h))
      generalize hpn : ptr (N (pcut a (i + 1)) (i + 1)) = pn at *
      have HPN := Lib.hid hpn
      clear hbw hN ht hpn
      unfold ptr
      simp only [Option.map_some]
      generalize (decide (i < 32) && a.testBit (31 - i)) = c at *
      cases hM : M (pcut a i) i with
      | none =>
        have hst := HSt.out.1 hM
        rw [hM] at c2 c3
        simp only [Option.isSome_none] at c3
        have HST := Lib.hid hst
        clear c2 hM hst HSt
        generalize lngX (0 : Int) M a i = x0 at *
        generalize lngN M a i = l0 at *
        cases c
        all_goals
          simp only [Bool.false_eq_true, if_false, if_true] at HBit nj
          go_wp2_with fail
          refine wp_region_quiet_tail (fun w' => w' = wr.drew) 8 (by kernel_rfl) (by kernel_rfl) rfl ?_
          simp only [List.take_succ_cons, List.take_zero, List.drop_succ_cons, List.drop_zero]
          iterate 8 (((with_reducible refine wpQuiet_step (fun K hK => ?_)); go_simp; first | ((with_reducible refine hK _ ?_); clear hK K) | (apply Exists.intro; refine ⟨?_, hK _ ?_⟩; (with_reducible refine (HBit.out _).mono ?_); rintro e w2 ⟨rfl, rfl⟩; exact ⟨rfl, rfl⟩; clear hK K)))
          refine wpQuiet_nil ?_
          rintro _ rfl
          clear HBit nj
          go_wp2_with fail
          go_roundw
          case rel => exact ⟨i + 1, by omega, by go_num, HPN.out.symm, by rw [HST.out.1], by rw [HST.out.2], HW.out.drew⟩
          case measure => simp [intOf]; omega
      | some y =>
        have hst := HSt.out.2 y hM
        rw [hM] at c2 c3
        simp only [Option.isSome_some, Option.getD_some] at c2 c3
        have HST := Lib.hid hst
        clear hM hst HSt
        generalize lngX (0 : Int) M a i = x0 at *
        generalize lngN M a i = l0 at *
        cases c
        all_goals
          simp only [Bool.false_eq_true, if_false, if_true] at HBit nj
          go_wp2_with fail
          refine wp_region_quiet_tail (fun w' => w' = wr.drew) 8 (by kernel_rfl) (by kernel_rfl) rfl ?_
          simp only [List.take_succ_cons, List.take_zero, List.drop_succ_cons, List.drop_zero]
          iterate 8 (((with_reducible refine wpQuiet_step (fun K hK => ?_)); go_simp; first | ((with_reducible refine hK _ ?_); clear hK K) | (apply Exists.intro; refine ⟨?_, hK _ ?_⟩; (with_reducible refine (HBit.out _).mono ?_); rintro e w2 ⟨rfl, rfl⟩; exact ⟨rfl, rfl⟩; clear hK K)))
          refine wpQuiet_nil ?_
          rintro _ rfl
          clear HBit nj
          go_wp2_with fail
          go_roundw
          case rel => exact ⟨i + 1, by omega, by go_num, HPN.out.symm, by rw [HST.out.1], by rw [HST.out.2], HW.out.drew⟩
          case measure => simp [intOf]; omega
end Go.Proofs.Ytlkbaplfffbmkaa
