/- The reference's prefixes: bit, Make, Check. -/
import Derived.Test.YtfmehahjjgalfaaTl
namespace Go.Proofs.Ytfmehahjjgalfaa
open Go.RowKit

theorem rbit_nat (a j : Nat) (hj : j < 32) : ((a : Int) / (2 ^ j % 4294967296)) % 2 = if a.testBit j then 1 else 0 := by
  have h1 : ((2 : Int) ^ j % 4294967296) = ((2 ^ j : Nat) : Int) := by
    have : 2 ^ j < 2 ^ 32 := Nat.pow_lt_pow_right (by decide) hj
    rw [Int.emod_eq_of_lt]
    · exact (Int.natCast_pow 2 j).symm
    · exact Int.pow_nonneg (by decide)
    · have h5 : ((2 ^ j : Nat) : Int) < 4294967296 := by
        have h6 : 2 ^ j < 4294967296 := this
        omega
      exact h5
  rw [h1, Nat.testBit_eq_decide_div_mod_eq]
  have h2 : ((a : Int) / ((2 ^ j : Nat) : Int)) % 2 = ((a / 2 ^ j % 2 : Nat) : Int) := by simp
  rw [h2]
  rcases Nat.mod_two_eq_zero_or_one (a / 2 ^ j) with h0 | h0 <;> rw [h0] <;> decide
theorem rbit_any (a i : Nat) (hi : i < 32) (w : World) : Calls Try.prog 111 #[.int .u32 a, .int .i64 i] w fun e w' => e = .returned (.int .u32 (if a.testBit (31 - i) then 1 else 0)) ∧ w' = w := by
  have h1 : ¬ ((i : Int) < 0) := by omega
  have h2 : ¬ ((31 : Int) < i) := by omega
  have hw31 : IntKind.i64.wrap ((31 : Int) - i) = 31 - i := IntWalk.i64_in _ (by omega)
  have hn31 : ¬ ((31 : Int) - i < 0) := by omega
  have hp : ((2 : Int) ^ (31 - i) % 4294967296 = 0) = False := by
    have : 0 < 2 ^ (31 - i) := pow_pos2 _
    have h3 : 2 ^ (31 - i) < 2 ^ 32 := Nat.pow_lt_pow_right (by decide) (by omega)
    have h4 : ((2 : Int) ^ (31 - i)) = ((2 ^ (31 - i) : Nat) : Int) := by simp
    rw [h4]
    simp only [eq_iff_iff, iff_false]
    omega
  have HB := Lib.hid (rbit_nat a (31 - i) (by omega))
  generalize (if a.testBit (31 - i) = true then (1 : Int) else 0) = v at *
  go_enter Try.func111, Try.ntmps111
  go_wp2_with fail
  go_ret
  exact ⟨ret_int HB.out, rfl⟩
theorem cut_lt {a : Nat} (h : a < 4294967296) (n : Nat) : pcut a n < 4294967296 := Nat.lt_of_le_of_lt (cut_le a n) h
set_option maxHeartbeats 1000000 in
theorem rmake_at (a m : Nat) (n : Int) (ha : a < 4294967296) (hm : m = cl n) (w : World) : Calls Try.prog 91 #[.int .u32 a, .int .i64 n] w fun e w' => e = .returned (pfx (pcut a m) m) ∧ Below w.heap.size w w' := by
  have hm32 : m ≤ 32 := by rw [hm]; exact cl_le n
  have HA := Lib.hid ha
  have hcase : (n < 0 ∧ m = 0) ∨ (32 < n ∧ m = 32) ∨ (¬ n < 0 ∧ ¬ 32 < n ∧ n = m) := by
    unfold cl at hm
    rcases Decidable.em (n < 0) with h | h
    · rw [if_pos h] at hm; exact .inl ⟨h, hm⟩
    · rw [if_neg h] at hm
      rcases Decidable.em (32 < n) with h2 | h2
      · rw [if_pos h2] at hm; exact .inr (.inl ⟨h2, hm⟩)
      · rw [if_neg h2] at hm; exact .inr (.inr ⟨h, h2, by omega⟩)
  clear hm ha
  rcases hcase with ⟨h1, rfl⟩ | ⟨h1, rfl⟩ | ⟨h1, h2, rfl⟩
  · have hlt0 : (0 : Int) ≤ 0 := by omega
    go_enter Try.func91, Try.ntmps91
    go_wp2_with fail
    obtain ⟨w2, hw2⟩ : ∃ w2 : World, w2 = (w.alloc (.cells #[.int .u32 0, .int .i64 0] 58)).alloc (.cells #[.int .u32 0, .int .i64 0] 58) := ⟨_, rfl⟩
    have hb2 : Below w.heap.size w w2 := by rw [hw2]; exact ((Below.refl _ _).alloc (Nat.le_refl _) _).alloc (by simp) _
    have hc2 : w2.heap[w.heap.size + 1]? = some (.cells #[.int .u32 (pcut a 0 : Nat), .int .i64 0] 58) := by rw [hw2, cut_0 HA.out]; exact hnewAt (by simp)
    have hr2 : w2.heap[w.heap.size]? = some (.cells #[.int .u32 0, .int .i64 0] 58) := by rw [hw2]; exact hold (hnew _ _)
    rw [← hw2]
    have H2 := Lib.hid (And.intro hb2 (And.intro hc2 hr2))
    clear hw2 hb2 hc2 hr2
    go_loopw [6] (fun iv wr => ∃ i : Nat, i ≤ 0 ∧ iv = .int .i64 i ∧ SetB w2 wr (w.heap.size + 1) (.cells #[.int .u32 (pcut a i : Nat), .int .i64 0] 58)) (fun iv _ => 0 - (intOf iv).toNat)
    case atStart => exact ⟨0, Nat.zero_le _, rfl, SetB.self H2.out.2.1⟩
    case round =>
      obtain ⟨i, hi, rfl, hs⟩ := hrel
      have hcell := hs.at (lt_of_blk H2.out.2.1)
      have d0 : wr.cell? ⟨w.heap.size + 1, 0, none⟩ = some (.int .u32 (pcut a i : Nat)) := cell_of hcell rfl
      have d1 : wr.cell? ⟨w.heap.size + 1, 1, none⟩ = some (.int .i64 0) := cell_of hcell rfl
      have e0 : wr.frozen? ⟨w.heap.size + 1, 0, none⟩ = false := free_of hcell
      have HS := Lib.hid hs
      by_cases hlt : (i : Int) < 0
      · exact absurd hlt (by omega)
      · obtain rfl : i = 0 := by omega
        have hrc := (hs.other (by omega)).trans H2.out.2.2
        have f0 : wr.cell? ⟨w.heap.size, 0, none⟩ = some (.int .u32 0) := cell_of hrc rfl
        have f1 : wr.cell? ⟨w.heap.size, 1, none⟩ = some (.int .i64 0) := cell_of hrc rfl
        have f2 : ∀ o, wr.frozen? ⟨w.heap.size, o, none⟩ = false := fun o => free_of hrc
        have HRC := Lib.hid hrc
        clear hs hcell hrc
        go_wp2_with fail
        have hst := ((SetB.self HRC.out).store (o := 0) (lt_of_blk HRC.out) (.int .u32 (pcut a 0 : Nat))).store (o := 1) (lt_of_blk HRC.out) (.int .i64 0)
        exact ret_cell rfl rfl rfl (hst.at (lt_of_blk HRC.out)) Try.underlying58 rfl (by kernel_rfl) ⟨rfl, (H2.out.1.trans (HS.out.below (by omega))).trans (hst.below (Nat.le_refl _))⟩
  · have hlt0 : (0 : Int) ≤ 32 := by omega
    go_enter Try.func91, Try.ntmps91
    go_wp2_with fail
    obtain ⟨w2, hw2⟩ : ∃ w2 : World, w2 = (w.alloc (.cells #[.int .u32 0, .int .i64 0] 58)).alloc (.cells #[.int .u32 0, .int .i64 32] 58) := ⟨_, rfl⟩
    have hb2 : Below w.heap.size w w2 := by rw [hw2]; exact ((Below.refl _ _).alloc (Nat.le_refl _) _).alloc (by simp) _
    have hc2 : w2.heap[w.heap.size + 1]? = some (.cells #[.int .u32 (pcut a 0 : Nat), .int .i64 32] 58) := by rw [hw2, cut_0 HA.out]; exact hnewAt (by simp)
    have hr2 : w2.heap[w.heap.size]? = some (.cells #[.int .u32 0, .int .i64 0] 58) := by rw [hw2]; exact hold (hnew _ _)
    rw [← hw2]
    have H2 := Lib.hid (And.intro hb2 (And.intro hc2 hr2))
    clear hw2 hb2 hc2 hr2
    go_loopw [6] (fun iv wr => ∃ i : Nat, i ≤ 32 ∧ iv = .int .i64 i ∧ SetB w2 wr (w.heap.size + 1) (.cells #[.int .u32 (pcut a i : Nat), .int .i64 32] 58)) (fun iv _ => 32 - (intOf iv).toNat)
    case atStart => exact ⟨0, Nat.zero_le _, rfl, SetB.self H2.out.2.1⟩
    case round =>
      obtain ⟨i, hi, rfl, hs⟩ := hrel
      have hcell := hs.at (lt_of_blk H2.out.2.1)
      have d0 : wr.cell? ⟨w.heap.size + 1, 0, none⟩ = some (.int .u32 (pcut a i : Nat)) := cell_of hcell rfl
      have d1 : wr.cell? ⟨w.heap.size + 1, 1, none⟩ = some (.int .i64 32) := cell_of hcell rfl
      have e0 : wr.frozen? ⟨w.heap.size + 1, 0, none⟩ = false := free_of hcell
      have HS := Lib.hid hs
      by_cases hlt : (i : Int) < 32
      · have hi31 : i ≤ 31 := by omega
        have hcs := pcut_succ a hi31
        have hlt2 := cut_lt HA.out (i + 1)
        have HBit := Lib.hid (rbit_any a i (by omega))
        have h31 : ¬ ((31 : Int) < i) := by omega
        have hw31 : IntKind.i64.wrap ((31 : Int) - i) = 31 - i := IntWalk.i64_in _ (by omega)
        have hn31 : ¬ ((31 : Int) - i < 0) := by omega
        clear hs hcell
        cases hbit : a.testBit (31 - i)
        all_goals
          rw [hbit] at HBit hcs
          simp only [Bool.false_eq_true, if_false, if_true, Nat.add_zero] at HBit hcs
          have HCS := Lib.hid (And.intro hcs hlt2)
          clear hbit hcs hlt2
          go_wp2_with fail
          refine wp_region_quiet_tail (fun w' => w' = wr.drew) 10 (by kernel_rfl) (by kernel_rfl) rfl ?_
          simp only [List.take_succ_cons, List.take_zero, List.drop_succ_cons, List.drop_zero]
          iterate 10 (((with_reducible refine wpQuiet_step (fun K hK => ?_)); go_simp; first | ((with_reducible refine hK _ ?_); clear hK K) | (apply Exists.intro; refine ⟨?_, hK _ ?_⟩; (with_reducible refine (HBit.out _).mono ?_); rintro e w2 ⟨rfl, rfl⟩; exact ⟨rfl, rfl⟩; clear hK K)))
          refine wpQuiet_nil ?_
          rintro _ rfl
          clear HBit
          go_wp2_with fail
          obtain ⟨hcs, hlt2⟩ := HCS.out
          have hpow : ((2 : Int) ^ (31 - i)) = ((2 ^ (31 - i) : Nat) : Int) := (Int.natCast_pow 2 (31 - i)).symm
          first
            | exact ⟨⟨i + 1, by omega, by go_num, by
                have hst := (HS.out.store (o := 0) (lt_of_blk H2.out.2.1) (.int .u32 ((pcut a i : Int) % 4294967296))).drew
                have hv : (pcut a i : Int) % 4294967296 = ((pcut a (i + 1) : Nat) : Int) := by omega
                rw [hv] at hst ⊢
                exact hst⟩, by simp [intOf]; omega⟩
            | exact ⟨⟨i + 1, by omega, by go_num, by
                have hst := (HS.out.store (o := 0) (lt_of_blk H2.out.2.1) (.int .u32 (((pcut a i : Int) + 2 ^ (31 - i)) % 4294967296))).drew
                have hv : ((pcut a i : Int) + 2 ^ (31 - i)) % 4294967296 = ((pcut a (i + 1) : Nat) : Int) := by rw [hpow]; omega
                rw [hv] at hst ⊢
                exact hst⟩, by simp [intOf]; omega⟩
      · obtain rfl : i = 32 := by omega
        have hrc := (hs.other (by omega)).trans H2.out.2.2
        have f0 : wr.cell? ⟨w.heap.size, 0, none⟩ = some (.int .u32 0) := cell_of hrc rfl
        have f1 : wr.cell? ⟨w.heap.size, 1, none⟩ = some (.int .i64 0) := cell_of hrc rfl
        have f2 : ∀ o, wr.frozen? ⟨w.heap.size, o, none⟩ = false := fun o => free_of hrc
        have HRC := Lib.hid hrc
        clear hs hcell hrc
        go_wp2_with fail
        have hst := ((SetB.self HRC.out).store (o := 0) (lt_of_blk HRC.out) (.int .u32 (pcut a 32 : Nat))).store (o := 1) (lt_of_blk HRC.out) (.int .i64 32)
        exact ret_cell rfl rfl rfl (hst.at (lt_of_blk HRC.out)) Try.underlying58 rfl (by kernel_rfl) ⟨rfl, (H2.out.1.trans (HS.out.below (by omega))).trans (hst.below (Nat.le_refl _))⟩
  · have hlt0 : (0 : Int) ≤ m := by omega
    go_enter Try.func91, Try.ntmps91
    go_wp2_with fail
    obtain ⟨w2, hw2⟩ : ∃ w2 : World, w2 = (w.alloc (.cells #[.int .u32 0, .int .i64 0] 58)).alloc (.cells #[.int .u32 0, .int .i64 m] 58) := ⟨_, rfl⟩
    have hb2 : Below w.heap.size w w2 := by rw [hw2]; exact ((Below.refl _ _).alloc (Nat.le_refl _) _).alloc (by simp) _
    have hc2 : w2.heap[w.heap.size + 1]? = some (.cells #[.int .u32 (pcut a 0 : Nat), .int .i64 m] 58) := by rw [hw2, cut_0 HA.out]; exact hnewAt (by simp)
    have hr2 : w2.heap[w.heap.size]? = some (.cells #[.int .u32 0, .int .i64 0] 58) := by rw [hw2]; exact hold (hnew _ _)
    rw [← hw2]
    have H2 := Lib.hid (And.intro hb2 (And.intro hc2 hr2))
    clear hw2 hb2 hc2 hr2
    go_loopw [6] (fun iv wr => ∃ i : Nat, i ≤ m ∧ iv = .int .i64 i ∧ SetB w2 wr (w.heap.size + 1) (.cells #[.int .u32 (pcut a i : Nat), .int .i64 m] 58)) (fun iv _ => m - (intOf iv).toNat)
    case atStart => exact ⟨0, Nat.zero_le _, rfl, SetB.self H2.out.2.1⟩
    case round =>
      obtain ⟨i, hi, rfl, hs⟩ := hrel
      have hcell := hs.at (lt_of_blk H2.out.2.1)
      have d0 : wr.cell? ⟨w.heap.size + 1, 0, none⟩ = some (.int .u32 (pcut a i : Nat)) := cell_of hcell rfl
      have d1 : wr.cell? ⟨w.heap.size + 1, 1, none⟩ = some (.int .i64 m) := cell_of hcell rfl
      have e0 : wr.frozen? ⟨w.heap.size + 1, 0, none⟩ = false := free_of hcell
      have HS := Lib.hid hs
      by_cases hlt : (i : Int) < m
      · have hi31 : i ≤ 31 := by omega
        have hcs := pcut_succ a hi31
        have hlt2 := cut_lt HA.out (i + 1)
        have HBit := Lib.hid (rbit_any a i (by omega))
        have h31 : ¬ ((31 : Int) < i) := by omega
        have hw31 : IntKind.i64.wrap ((31 : Int) - i) = 31 - i := IntWalk.i64_in _ (by omega)
        have hn31 : ¬ ((31 : Int) - i < 0) := by omega
        clear hs hcell
        cases hbit : a.testBit (31 - i)
        all_goals
          rw [hbit] at HBit hcs
          simp only [Bool.false_eq_true, if_false, if_true, Nat.add_zero] at HBit hcs
          have HCS := Lib.hid (And.intro hcs hlt2)
          clear hbit hcs hlt2
          go_wp2_with fail
          refine wp_region_quiet_tail (fun w' => w' = wr.drew) 10 (by kernel_rfl) (by kernel_rfl) rfl ?_
          simp only [List.take_succ_cons, List.take_zero, List.drop_succ_cons, List.drop_zero]
          iterate 10 (((with_reducible refine wpQuiet_step (fun K hK => ?_)); go_simp; first | ((with_reducible refine hK _ ?_); clear hK K) | (apply Exists.intro; refine ⟨?_, hK _ ?_⟩; (with_reducible refine (HBit.out _).mono ?_); rintro e w2 ⟨rfl, rfl⟩; exact ⟨rfl, rfl⟩; clear hK K)))
          refine wpQuiet_nil ?_
          rintro _ rfl
          clear HBit
          go_wp2_with fail
          obtain ⟨hcs, hlt2⟩ := HCS.out
          have hpow : ((2 : Int) ^ (31 - i)) = ((2 ^ (31 - i) : Nat) : Int) := (Int.natCast_pow 2 (31 - i)).symm
          first
            | exact ⟨⟨i + 1, by omega, by go_num, by
                have hst := (HS.out.store (o := 0) (lt_of_blk H2.out.2.1) (.int .u32 ((pcut a i : Int) % 4294967296))).drew
                have hv : (pcut a i : Int) % 4294967296 = ((pcut a (i + 1) : Nat) : Int) := by omega
                rw [hv] at hst ⊢
                exact hst⟩, by simp [intOf]; omega⟩
            | exact ⟨⟨i + 1, by omega, by go_num, by
                have hst := (HS.out.store (o := 0) (lt_of_blk H2.out.2.1) (.int .u32 (((pcut a i : Int) + 2 ^ (31 - i)) % 4294967296))).drew
                have hv : ((pcut a i : Int) + 2 ^ (31 - i)) % 4294967296 = ((pcut a (i + 1) : Nat) : Int) := by rw [hpow]; omega
                rw [hv] at hst ⊢
                exact hst⟩, by simp [intOf]; omega⟩
      · obtain rfl : i = m := by omega
        have hrc := (hs.other (by omega)).trans H2.out.2.2
        have f0 : wr.cell? ⟨w.heap.size, 0, none⟩ = some (.int .u32 0) := cell_of hrc rfl
        have f1 : wr.cell? ⟨w.heap.size, 1, none⟩ = some (.int .i64 0) := cell_of hrc rfl
        have f2 : ∀ o, wr.frozen? ⟨w.heap.size, o, none⟩ = false := fun o => free_of hrc
        have HRC := Lib.hid hrc
        clear hs hcell hrc
        go_wp2_with fail
        have hst := ((SetB.self HRC.out).store (o := 0) (lt_of_blk HRC.out) (.int .u32 (pcut a i : Nat))).store (o := 1) (lt_of_blk HRC.out) (.int .i64 i)
        exact ret_cell rfl rfl rfl (hst.at (lt_of_blk HRC.out)) Try.underlying58 rfl (by kernel_rfl) ⟨rfl, (H2.out.1.trans (HS.out.below (by omega))).trans (hst.below (Nat.le_refl _))⟩
end Go.Proofs.Ytfmehahjjgalfaa
