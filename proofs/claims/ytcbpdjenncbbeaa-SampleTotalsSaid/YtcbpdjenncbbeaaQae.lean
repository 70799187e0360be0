/- The reference's prefixes: bit, Make, Check. -/
import Derived.Test.YtcbpdjenncbbeaaQab
import Derived.Test.YtcbpdjenncbbeaaQac
import Derived.Test.YtcbpdjenncbbeaaQad
import Derived.Maps.RangeRun
import Derived.Maps.Keyed
import Derived.Maps.Own
import Derived.Test.YtcbpdjenncbbeaaQaa
namespace Go.Proofs.Ytcbpdjenncbbeaa
open Go.RowKit

theorem rbit_nat (a j : Nat) (hj : j < 32) : ((a : Int) / (2 ^ j % 4294967296)) % 2 = if a.testBit j then 1 else 0 := by
  have h1 : ((2 : Int) ^ j % 4294967296) = ((2 ^ j : Nat) : Int) := by
    have : 2 ^ j < 2 ^ 32 := Nat.pow_lt_pow_right (by decide) hj
    rw [Int.emod_eq_of_lt]
    · exact (Int.natCast_pow 2 j).symm
    · exact Int.pow_nonneg (by decide)
    · have h5 : ((2 ^ j : Nat) : Int) < 4294967296 := by
        have h6 : 2 ^ j < 4294967296 := this
        omega
      exact h5
  rw [h1, Nat.testBit_eq_decide_div_mod_eq]
  have h2 : ((a : Int) / ((2 ^ j : Nat) : Int)) % 2 = ((a / 2 ^ j % 2 : Nat) : Int) := by simp
  rw [h2]
  rcases Nat.mod_two_eq_zero_or_one (a / 2 ^ j) with h0 | h0 <;> rw [h0] <;> decide
theorem rbit_any (a i : Nat) (hi : i < 32) (w : World) : Calls Try.prog 61 #[.int .u32 a, .int .i64 i] w fun e w' => e = .returned (.int .u32 (if a.testBit (31 - i) then 1 else 0)) ∧ w' = w := by
  have h1 : ¬ ((i : Int) < 0) := by omega
  have h2 : ¬ ((31 : Int) < i) := by omega
  have hw31 : IntKind.i64.wrap ((31 : Int) - i) = 31 - i := IntWalk.i64_in _ (by omega)
  have hn31 : ¬ ((31 : Int) - i < 0) := by omega
  have hp : ((2 : Int) ^ (31 - i) % 4294967296 = 0) = False := by
    have : 0 < 2 ^ (31 - i) := pow_pos2 _
    have h3 : 2 ^ (31 - i) < 2 ^ 32 := Nat.pow_lt_pow_right (by decide) (by omega)
    have h4 : ((2 : Int) ^ (31 - i)) = ((2 ^ (31 - i) : Nat) : Int) := by simp
    rw [h4]
    simp only [eq_iff_iff, iff_false]
    omega
  have HB := Lib.hid (rbit_nat a (31 - i) (by omega))
  generalize (if a.testBit (31 - i) = true then (1 : Int) else 0) = v at *
  go_enter Try.func61, Try.ntmps61
  go_wp2_with fail
  go_ret
  exact ⟨ret_int HB.out, rfl⟩
theorem cut_lt {a : Nat} (h : a < 4294967296) (n : Nat) : cut a n < 4294967296 := Nat.lt_of_le_of_lt (cut_le a n) h
set_option maxHeartbeats 1000000 in
theorem rmake_at (a m : Nat) (n : Int) (ha : a < 4294967296) (hm : m = cl n) (w : World) : Calls Try.prog 43 #[.int .u32 a, .int .i64 n] w fun e w' => e = .returned (pfx (cut a m) m) ∧ Below w.heap.size w w' := by
  have hm32 : m ≤ 32 := by rw [hm]; exact cl_le n
  have HA := Lib.hid ha
  have hcase : (n < 0 ∧ m = 0) ∨ (32 < n ∧ m = 32) ∨ (¬ n < 0 ∧ ¬ 32 < n ∧ n = m) := by
    unfold cl at hm
    rcases Decidable.em (n < 0) with h | h
    · rw [if_pos h] at hm; exact .inl ⟨h, hm⟩
    · rw [if_neg h] at hm
      rcases Decidable.em (32 < n) with h2 | h2
      · rw [if_pos h2] at hm; exact .inr (.inl ⟨h2, hm⟩)
      · rw [if_neg h2] at hm; exact .inr (.inr ⟨h, h2, by omega⟩)
  clear hm ha
  rcases hcase with ⟨h1, rfl⟩ | ⟨h1, rfl⟩ | ⟨h1, h2, rfl⟩
  · have hlt0 : (0 : Int) ≤ 0 := by omega
    go_enter Try.func43, Try.ntmps43
    go_wp2_with fail
    obtain ⟨w2, hw2⟩ : ∃ w2 : World, w2 = (w.alloc (.cells #[.int .u32 0, .int .i64 0] 46)).alloc (.cells #[.int .u32 0, .int .i64 0] 46) := ⟨_, rfl⟩
    have hb2 : Below w.heap.size w w2 := by rw [hw2]; exact ((Below.refl _ _).alloc (Nat.le_refl _) _).alloc (by simp) _
    have hc2 : w2.heap[w.heap.size + 1]? = some (.cells #[.int .u32 (cut a 0 : Nat), .int .i64 0] 46) := by rw [hw2, cut_0 HA.out]; exact hnewAt (by simp)
    have hr2 : w2.heap[w.heap.size]? = some (.cells #[.int .u32 0, .int .i64 0] 46) := by rw [hw2]; exact hold (hnew _ _)
    rw [← hw2]
    have H2 := Lib.hid (And.intro hb2 (And.intro hc2 hr2))
    clear hw2 hb2 hc2 hr2
    go_loopw [6] (fun iv wr => ∃ i : Nat, i ≤ 0 ∧ iv = .int .i64 i ∧ SetB w2 wr (w.heap.size + 1) (.cells #[.int .u32 (cut a i : Nat), .int .i64 0] 46)) (fun iv _ => 0 - (intOf iv).toNat)
    case atStart => exact ⟨0, Nat.zero_le _, rfl, SetB.self H2.out.2.1⟩
    case round =>
      obtain ⟨i, hi, rfl, hs⟩ := hrel
      have hcell := hs.at (lt_of_blk H2.out.2.1)
      have d0 : wr.cell? ⟨w.heap.size + 1, 0, none⟩ = some (.int .u32 (cut a i : Nat)) := cell_of hcell rfl
      have d1 : wr.cell? ⟨w.heap.size + 1, 1, none⟩ = some (.int .i64 0) := cell_of hcell rfl
      have e0 : wr.frozen? ⟨w.heap.size + 1, 0, none⟩ = false := free_of hcell
      have HS := Lib.hid hs
      by_cases hlt : (i : Int) < 0
      · exact absurd hlt (by omega)
      · obtain rfl : i = 0 := by omega
        have hrc := (hs.other (by omega)).trans H2.out.2.2
        have f0 : wr.cell? ⟨w.heap.size, 0, none⟩ = some (.int .u32 0) := cell_of hrc rfl
        have f1 : wr.cell? ⟨w.heap.size, 1, none⟩ = some (.int .i64 0) := cell_of hrc rfl
        have f2 : ∀ o, wr.frozen? ⟨w.heap.size, o, none⟩ = false := fun o => free_of hrc
        have HRC := Lib.hid hrc
        clear hs hcell hrc
        go_wp2_with fail
        have hst := ((SetB.self HRC.out).store (o := 0) (lt_of_blk HRC.out) (.int .u32 (cut a 0 : Nat))).store (o := 1) (lt_of_blk HRC.out) (.int .i64 0)
        exact ret_cell rfl rfl rfl (hst.at (lt_of_blk HRC.out)) Try.underlying46 rfl (by kernel_rfl) ⟨rfl, (H2.out.1.trans (HS.out.below (by omega))).trans (hst.below (Nat.le_refl _))⟩
  · have hlt0 : (0 : Int) ≤ 32 := by omega
    go_enter Try.func43, Try.ntmps43
    go_wp2_with fail
    obtain ⟨w2, hw2⟩ : ∃ w2 : World, w2 = (w.alloc (.cells #[.int .u32 0, .int .i64 0] 46)).alloc (.cells #[.int .u32 0, .int .i64 32] 46) := ⟨_, rfl⟩
    have hb2 : Below w.heap.size w w2 := by rw [hw2]; exact ((Below.refl _ _).alloc (Nat.le_refl _) _).alloc (by simp) _
    have hc2 : w2.heap[w.heap.size + 1]? = some (.cells #[.int .u32 (cut a 0 : Nat), .int .i64 32] 46) := by rw [hw2, cut_0 HA.out]; exact hnewAt (by simp)
    have hr2 : w2.heap[w.heap.size]? = some (.cells #[.int .u32 0, .int .i64 0] 46) := by rw [hw2]; exact hold (hnew _ _)
    rw [← hw2]
    have H2 := Lib.hid (And.intro hb2 (And.intro hc2 hr2))
    clear hw2 hb2 hc2 hr2
    go_loopw [6] (fun iv wr => ∃ i : Nat, i ≤ 32 ∧ iv = .int .i64 i ∧ SetB w2 wr (w.heap.size + 1) (.cells #[.int .u32 (cut a i : Nat), .int .i64 32] 46)) (fun iv _ => 32 - (intOf iv).toNat)
    case atStart => exact ⟨0, Nat.zero_le _, rfl, SetB.self H2.out.2.1⟩
    case round =>
      obtain ⟨i, hi, rfl, hs⟩ := hrel
      have hcell := hs.at (lt_of_blk H2.out.2.1)
      have d0 : wr.cell? ⟨w.heap.size + 1, 0, none⟩ = some (.int .u32 (cut a i : Nat)) := cell_of hcell rfl
      have d1 : wr.cell? ⟨w.heap.size + 1, 1, none⟩ = some (.int .i64 32) := cell_of hcell rfl
      have e0 : wr.frozen? ⟨w.heap.size + 1, 0, none⟩ = false := free_of hcell
      have HS := Lib.hid hs
      by_cases hlt : (i : Int) < 32
      · have hi31 : i ≤ 31 := by omega
        have hcs := cut_succ a hi31
        have hlt2 := cut_lt HA.out (i + 1)
        have HBit := Lib.hid (rbit_any a i (by omega))
        have h31 : ¬ ((31 : Int) < i) := by omega
        have hw31 : IntKind.i64.wrap ((31 : Int) - i) = 31 - i := IntWalk.i64_in _ (by omega)
        have hn31 : ¬ ((31 : Int) - i < 0) := by omega
        clear hs hcell
        cases hbit : a.testBit (31 - i)
        all_goals
          rw [hbit] at HBit hcs
          simp only [Bool.false_eq_true, if_false, if_true, Nat.add_zero] at HBit hcs
          have HCS := Lib.hid (And.intro hcs hlt2)
          clear hbit hcs hlt2
          go_wp2_with fail
          refine wp_region_quiet_tail (fun w' => w' = wr.drew) 10 (by kernel_rfl) (by kernel_rfl) rfl ?_
          simp only [List.take_succ_cons, List.take_zero, List.drop_succ_cons, List.drop_zero]
          iterate 10 (((with_reducible refine wpQuiet_step (fun K hK => ?_)); go_simp; first | ((with_reducible refine hK _ ?_); clear hK K) | (apply Exists.intro; refine ⟨?_, hK _ ?_⟩; (with_reducible refine (HBit.out _).mono ?_); rintro e w2 ⟨rfl, rfl⟩; exact ⟨rfl, rfl⟩; clear hK K)))
          refine wpQuiet_nil ?_
          rintro _ rfl
          clear HBit
          go_wp2_with fail
          obtain ⟨hcs, hlt2⟩ := HCS.out
          have hpow : ((2 : Int) ^ (31 - i)) = ((2 ^ (31 - i) : Nat) : Int) := (Int.natCast_pow 2 (31 - i)).symm
          first
            | exact ⟨⟨i + 1, by omega, by go_num, by
                have hst := (HS.out.store (o := 0) (lt_of_blk H2.out.2.1) (.int .u32 ((cut a i : Int) % 4294967296))).drew
                have hv : (cut a i : Int) % 4294967296 = ((cut a (i + 1) : Nat) : Int) := by omega
                rw [hv] at hst ⊢
                exact hst⟩, by simp [intOf]; omega⟩
            | exact ⟨⟨i + 1, by omega, by go_num, by
                have hst := (HS.out.store (o := 0) (lt_of_blk H2.out.2.1) (.int .u32 (((cut a i : Int) + 2 ^ (31 - i)) % 4294967296))).drew
                have hv : ((cut a i : Int) + 2 ^ (31 - i)) % 4294967296 = ((cut a (i + 1) : Nat) : Int) := by rw [hpow]; omega
                rw [hv] at hst ⊢
                exact hst⟩, by simp [intOf]; omega⟩
      · obtain rfl : i = 32 := by omega
        have hrc := (hs.other (by omega)).trans H2.out.2.2
        have f0 : wr.cell? ⟨w.heap.size, 0, none⟩ = some (.int .u32 0) := cell_of hrc rfl
        have f1 : wr.cell? ⟨w.heap.size, 1, none⟩ = some (.int .i64 0) := cell_of hrc rfl
        have f2 : ∀ o, wr.frozen? ⟨w.heap.size, o, none⟩ = false := fun o => free_of hrc
        have HRC := Lib.hid hrc
        clear hs hcell hrc
        go_wp2_with fail
        have hst := ((SetB.self HRC.out).store (o := 0) (lt_of_blk HRC.out) (.int .u32 (cut a 32 : Nat))).store (o := 1) (lt_of_blk HRC.out) (.int .i64 32)
        exact ret_cell rfl rfl rfl (hst.at (lt_of_blk HRC.out)) Try.underlying46 rfl (by kernel_rfl) ⟨rfl, (H2.out.1.trans (HS.out.below (by omega))).trans (hst.below (Nat.le_refl _))⟩
  · have hlt0 : (0 : Int) ≤ m := by omega
    go_enter Try.func43, Try.ntmps43
    go_wp2_with fail
    obtain ⟨w2, hw2⟩ : ∃ w2 : World, w2 = (w.alloc (.cells #[.int .u32 0, .int .i64 0] 46)).alloc (.cells #[.int .u32 0, .int .i64 m] 46) := ⟨_, rfl⟩
    have hb2 : Below w.heap.size w w2 := by rw [hw2]; exact ((Below.refl _ _).alloc (Nat.le_refl _) _).alloc (by simp) _
    have hc2 : w2.heap[w.heap.size + 1]? = some (.cells #[.int .u32 (cut a 0 : Nat), .int .i64 m] 46) := by rw [hw2, cut_0 HA.out]; exact hnewAt (by simp)
    have hr2 : w2.heap[w.heap.size]? = some (.cells #[.int .u32 0, .int .i64 0] 46) := by rw [hw2]; exact hold (hnew _ _)
    rw [← hw2]
    have H2 := Lib.hid (And.intro hb2 (And.intro hc2 hr2))
    clear hw2 hb2 hc2 hr2
    go_loopw [6] (fun iv wr => ∃ i : Nat, i ≤ m ∧ iv = .int .i64 i ∧ SetB w2 wr (w.heap.size + 1) (.cells #[.int .u32 (cut a i : Nat), .int .i64 m] 46)) (fun iv _ => m - (intOf iv).toNat)
    case atStart => exact ⟨0, Nat.zero_le _, rfl, SetB.self H2.out.2.1⟩
    case round =>
      obtain ⟨i, hi, rfl, hs⟩ := hrel
      have hcell := hs.at (lt_of_blk H2.out.2.1)
      have d0 : wr.cell? ⟨w.heap.size + 1, 0, none⟩ = some (.int .u32 (cut a i : Nat)) := cell_of hcell rfl
      have d1 : wr.cell? ⟨w.heap.size + 1, 1, none⟩ = some (.int .i64 m) := cell_of hcell rfl
      have e0 : wr.frozen? ⟨w.heap.size + 1, 0, none⟩ = false := free_of hcell
      have HS := Lib.hid hs
      by_cases hlt : (i : Int) < m
      · have hi31 : i ≤ 31 := by omega
        have hcs := cut_succ a hi31
        have hlt2 := cut_lt HA.out (i + 1)
        have HBit := Lib.hid (rbit_any a i (by omega))
        have h31 : ¬ ((31 : Int) < i) := by omega
        have hw31 : IntKind.i64.wrap ((31 : Int) - i) = 31 - i := IntWalk.i64_in _ (by omega)
        have hn31 : ¬ ((31 : Int) - i < 0) := by omega
        clear hs hcell
        cases hbit : a.testBit (31 - i)
        all_goals
          rw [hbit] at HBit hcs
          simp only [Bool.false_eq_true, if_false, if_true, Nat.add_zero] at HBit hcs
          have HCS := Lib.hid (And.intro hcs hlt2)
          clear hbit hcs hlt2
          go_wp2_with fail
          refine wp_region_quiet_tail (fun w' => w' = wr.drew) 10 (by kernel_rfl) (by kernel_rfl) rfl ?_
          simp only [List.take_succ_cons, List.take_zero, List.drop_succ_cons, List.drop_zero]
          iterate 10 (((with_reducible refine wpQuiet_step (fun K hK => ?_)); go_simp; first | ((with_reducible refine hK _ ?_); clear hK K) | (apply Exists.intro; refine ⟨?_, hK _ ?_⟩; (with_reducible refine (HBit.out _).mono ?_); rintro e w2 ⟨rfl, rfl⟩; exact ⟨rfl, rfl⟩; clear hK K)))
          refine wpQuiet_nil ?_
          rintro _ rfl
          clear HBit
          go_wp2_with fail
          obtain ⟨hcs, hlt2⟩ := HCS.out
          have hpow : ((2 : Int) ^ (31 - i)) = ((2 ^ (31 - i) : Nat) : Int) := (Int.natCast_pow 2 (31 - i)).symm
          first
            | exact ⟨⟨i + 1, by omega, by go_num, by
                have hst := (HS.out.store (o := 0) (lt_of_blk H2.out.2.1) (.int .u32 ((cut a i : Int) % 4294967296))).drew
                have hv : (cut a i : Int) % 4294967296 = ((cut a (i + 1) : Nat) : Int) := by omega
                rw [hv] at hst ⊢
                exact hst⟩, by simp [intOf]; omega⟩
            | exact ⟨⟨i + 1, by omega, by go_num, by
                have hst := (HS.out.store (o := 0) (lt_of_blk H2.out.2.1) (.int .u32 (((cut a i : Int) + 2 ^ (31 - i)) % 4294967296))).drew
                have hv : ((cut a i : Int) + 2 ^ (31 - i)) % 4294967296 = ((cut a (i + 1) : Nat) : Int) := by rw [hpow]; omega
                rw [hv] at hst ⊢
                exact hst⟩, by simp [intOf]; omega⟩
      · obtain rfl : i = m := by omega
        have hrc := (hs.other (by omega)).trans H2.out.2.2
        have f0 : wr.cell? ⟨w.heap.size, 0, none⟩ = some (.int .u32 0) := cell_of hrc rfl
        have f1 : wr.cell? ⟨w.heap.size, 1, none⟩ = some (.int .i64 0) := cell_of hrc rfl
        have f2 : ∀ o, wr.frozen? ⟨w.heap.size, o, none⟩ = false := fun o => free_of hrc
        have HRC := Lib.hid hrc
        clear hs hcell hrc
        go_wp2_with fail
        have hst := ((SetB.self HRC.out).store (o := 0) (lt_of_blk HRC.out) (.int .u32 (cut a i : Nat))).store (o := 1) (lt_of_blk HRC.out) (.int .i64 i)
        exact ret_cell rfl rfl rfl (hst.at (lt_of_blk HRC.out)) Try.underlying46 rfl (by kernel_rfl) ⟨rfl, (H2.out.1.trans (HS.out.below (by omega))).trans (hst.below (Nat.le_refl _))⟩
end Go.Proofs.Ytcbpdjenncbbeaa
/- The reference's prefixes: Check, Holds, Within, Compare. -/
namespace Go.Proofs.Ytcbpdjenncbbeaa
open Go.RowKit

theorem rcheck_any (a : Nat) (n : Int) (ha : a < 4294967296) (w : World) : Calls Try.prog 24 #[pfx a n] w fun e w' => e = .returned (.bool (okP a n)) ∧ Below w.heap.size w w' := by
  have HM := Lib.hid (fun w' => rmake_at a (cl n) n ha rfl w')
  have HK := Lib.hid (okP_cl (a := a) (n := n))
  have HO := Lib.hid (okP_iff (a := a) (n := n))
  have hmn : 0 ≤ n → n ≤ 32 → ((cl n : Nat) : Int) = n := fun h0 h1 => by unfold cl; rw [if_neg (by omega), if_neg (by omega)]; omega
  clear ha
  generalize hv : okP a n = v
  rw [hv] at HK HO
  clear hv
  unfold pfx at HM ⊢
  generalize hx : cut a (cl n) = x at HM HK
  generalize hm : cl n = m at HM HK hmn
  clear hx hm
  have hcase : ((0 ≤ n) = False ∧ v = false) ∨ ((0 ≤ n) = True ∧ (n ≤ 32) = False ∧ v = false) ∨ ((0 ≤ n) = True ∧ (n ≤ 32) = True ∧ ((m : Int) = n) = True ∧ ((x : Int) = a) = True ∧ v = true) ∨ ((0 ≤ n) = True ∧ (n ≤ 32) = True ∧ ((m : Int) = n) = True ∧ ((x : Int) = a) = False ∧ v = false) := by
    have h3 := HK.out
    have h4 := HO.out
    by_cases h1 : 0 ≤ n <;> by_cases h2 : n ≤ 32 <;> by_cases h5 : (x : Int) = a <;> cases v <;> simp_all
  clear HK HO hmn
  rcases hcase with ⟨h1, rfl⟩ | ⟨h1, h2, rfl⟩ | ⟨h1, h2, h3, h4, rfl⟩ | ⟨h1, h2, h3, h4, rfl⟩
  all_goals
    go_enter Try.func24, Try.ntmps24
    go_wp2_with fail
    refine wp_region_quiet_tail (fun w' => Below (w.heap.size + 1) (w.alloc (.cells #[.int .u32 a, .int .i64 n] 46)) w') 17 (by kernel_rfl) (by kernel_rfl) (Below.drew (Below.refl _ _)) ?_
    simp only [List.take_succ_cons, List.take_zero, List.drop_succ_cons, List.drop_zero]
    iterate 17 ((with_reducible refine wpQuiet_step (fun K hK => ?_)); go_simp; first | ((with_reducible refine hK _ ?_); clear hK K) | (apply Exists.intro; (with_reducible refine ⟨fun w' hw' => ?_, hK _ ?_⟩); first | (go_at_call 43; (with_reducible refine (HM.out w').mono ?_); rintro e w2 ⟨rfl, hb⟩; exact ⟨rfl, hw'.trans (hb.mono (by have := hw'.size; simp at this; omega))⟩) | (have hb := (hw'.block w.heap.size (by simp)).trans (hnew _ _); have c0 : w'.cell? ⟨w.heap.size, 0, none⟩ = some (.int .u32 a) := cell_of hb rfl; have c1 : w'.cell? ⟨w.heap.size, 1, none⟩ = some (.int .i64 n) := cell_of hb rfl; clear hb; go_simp; first | exact rfl | exact ⟨rfl, rfl⟩); clear hK K))
    with_reducible refine wpQuiet_nil ?_
    intro wq hq
    have HQ := Lib.hid (((Below.refl w.heap.size w).alloc (Nat.le_refl _) _).trans (hq.mono (by omega)))
    clear HM hq
    go_wp2_with fail
    go_ret
    exact ⟨rfl, HQ.out⟩
def holdsP (a : Nat) (n : Int) (x : Nat) : Bool := okP a n && decide (cut x n.toNat = a)
theorem rholds_any (a : Nat) (n : Int) (x : Nat) (ha : a < 4294967296) (hx : x < 4294967296) (w : World) : Calls Try.prog 28 #[pfx a n, .int .u32 x] w fun e w' => e = .returned (.bool (holdsP a n x)) ∧ Below w.heap.size w w' := by
  have HC := Lib.hid (fun w' => rcheck_any a n ha w')
  have HM := Lib.hid (fun w' => rmake_at x (cl n) n hx rfl w')
  clear ha hx
  have hcase : (okP a n = false ∧ holdsP a n x = false) ∨ (okP a n = true ∧ ((cl n : Nat) : Int) = n ∧ (((cut x (cl n) : Nat) : Int) = a) = True ∧ holdsP a n x = true) ∨ (okP a n = true ∧ ((cl n : Nat) : Int) = n ∧ (((cut x (cl n) : Nat) : Int) = a) = False ∧ holdsP a n x = false) := by
    cases h : okP a n with
    | false => exact .inl ⟨rfl, by simp [holdsP, h]⟩
    | true =>
      obtain ⟨h1, h2, -⟩ := okP_iff.1 h
      have hcl : cl n = n.toNat := by unfold cl; rw [if_neg (by omega), if_neg (by omega)]
      by_cases h3 : cut x (cl n) = a
      · exact .inr (.inl ⟨rfl, by rw [hcl]; omega, by simp [h3], by rw [hcl] at h3; simp [holdsP, h, h3]⟩)
      · exact .inr (.inr ⟨rfl, by rw [hcl]; omega, by simp; omega, by rw [hcl] at h3; simp [holdsP, h, h3]⟩)
  unfold pfx at HC HM ⊢
  generalize holdsP a n x = v at hcase ⊢
  generalize okP a n = o at hcase HC
  generalize cut x (cl n) = y at hcase HM
  generalize cl n = k at hcase HM
  rcases hcase with ⟨rfl, rfl⟩ | ⟨rfl, h1, h2, rfl⟩ | ⟨rfl, h1, h2, rfl⟩
  all_goals
    go_enter Try.func28, Try.ntmps28
    go_wp2_with fail
    refine wp_region_quiet_tail (fun w' => Below (w.heap.size + 1) (w.alloc (.cells #[.int .u32 a, .int .i64 n] 46)) w') 10 (by kernel_rfl) (by kernel_rfl) (Below.drew (Below.refl _ _)) ?_
    simp only [List.take_succ_cons, List.take_zero, List.drop_succ_cons, List.drop_zero]
    iterate 10 ((with_reducible refine wpQuiet_step (fun K hK => ?_)); go_simp; first | ((with_reducible refine hK _ ?_); clear hK K) | (apply Exists.intro; (with_reducible refine ⟨fun w' hw' => ?_, hK _ ?_⟩); first | (go_at_call 24; (with_reducible refine (HC.out w').mono ?_); rintro e w2 ⟨rfl, hb⟩; exact ⟨rfl, hw'.trans (hb.mono (by have := hw'.size; simp at this; omega))⟩) | (go_at_call 43; (with_reducible refine (HM.out w').mono ?_); rintro e w2 ⟨rfl, hb⟩; exact ⟨rfl, hw'.trans (hb.mono (by have := hw'.size; simp at this; omega))⟩) | (have hb := (hw'.block w.heap.size (by simp)).trans (hnew _ _); have c0 : w'.cell? ⟨w.heap.size, 0, none⟩ = some (.int .u32 a) := cell_of hb rfl; have c1 : w'.cell? ⟨w.heap.size, 1, none⟩ = some (.int .i64 n) := cell_of hb rfl; clear hb; go_simp; first | exact rfl | exact ⟨rfl, rfl⟩); clear hK K))
    with_reducible refine wpQuiet_nil ?_
    intro wq hq
    have HQ := Lib.hid (((Below.refl w.heap.size w).alloc (Nat.le_refl _) _).trans (hq.mono (by omega)))
    clear hq
    go_wp2_with fail
    go_ret
    exact ⟨rfl, HQ.out⟩
def inP (a : Nat) (n : Int) (b : Nat) (m : Int) : Bool := okP a n && okP b m && decide (n ≤ m) && decide (cut b n.toNat = a)
def cmpP (a : Nat) (n : Int) (b : Nat) (m : Int) : Int := if a < b ∨ (a = b ∧ n < m) then -1 else if a = b ∧ n = m then 0 else 1
theorem rcompare_any (a : Nat) (n : Int) (b : Nat) (m : Int) (w : World) : Calls Try.prog 25 #[pfx a n, pfx b m] w fun e w' => e = .returned (.int .i64 (cmpP a n b m)) ∧ Below w.heap.size w w' := by
  have hb0 := Lib.hid (((Below.refl w.heap.size w).alloc (Nat.le_refl _) (.cells #[.int .u32 a, .int .i64 n] 46)).alloc (by simp) (.cells #[.int .u32 b, .int .i64 m] 46))
  have hcase : (((a : Int) < b) = True ∧ cmpP a n b m = -1) ∨ (((a : Int) < b) = False ∧ ((a : Int) = b) = False ∧ cmpP a n b m = 1) ∨ (((a : Int) < b) = False ∧ ((a : Int) = b) = True ∧ (n < m) = True ∧ cmpP a n b m = -1) ∨ (((a : Int) < b) = False ∧ ((a : Int) = b) = True ∧ (n < m) = False ∧ (n = m) = True ∧ cmpP a n b m = 0) ∨ (((a : Int) < b) = False ∧ ((a : Int) = b) = True ∧ (n < m) = False ∧ (n = m) = False ∧ cmpP a n b m = 1) := by
    unfold cmpP
    by_cases h1 : a < b
    · exact .inl ⟨by simp; omega, by simp [h1]⟩
    · by_cases h2 : a = b
      · by_cases h3 : n < m
        · exact .inr (.inr (.inl ⟨by simp; omega, by simp [h2], by simp [h3], by simp [h2, h3]⟩))
        · by_cases h4 : n = m
          · exact .inr (.inr (.inr (.inl ⟨by simp; omega, by simp [h2], by simp [h3], by simp [h4], by simp [h2, h4]⟩)))
          · exact .inr (.inr (.inr (.inr ⟨by simp; omega, by simp [h2], by simp [h3], by simp [h4], by simp [h2, h3, h4]⟩)))
      · exact .inr (.inl ⟨by simp; omega, by simp; omega, by simp [h1, h2]⟩)
  unfold pfx
  generalize cmpP a n b m = v at hcase ⊢
  have hbeq : ((a : Int) == (b : Int)) = decide ((a : Int) = b) := by rw [Bool.eq_iff_iff]; simp
  rcases hcase with ⟨h1, rfl⟩ | ⟨h1, h2, rfl⟩ | ⟨h1, h2, h3, rfl⟩ | ⟨h1, h2, h3, h4, rfl⟩ | ⟨h1, h2, h3, h4, rfl⟩
  all_goals
    (try simp only [h2, decide_true, decide_false] at hbeq)
    go_enter Try.func25, Try.ntmps25
    go_wp2_with fail
    go_ret
    exact ⟨rfl, hb0.out⟩
end Go.Proofs.Ytcbpdjenncbbeaa
/- A trie's prefixes in order are those of the sorted list of its things. -/
namespace Go.Proofs.Ytcbpdjenncbbeaa
open Go.RowKit

def ltK (x y : Nat × Nat) : Prop := x.1 < y.1 ∨ (x.1 = y.1 ∧ x.2 < y.2)
theorem ltK_irrefl (x : Nat × Nat) : ¬ ltK x x := by unfold ltK; omega
theorem ltK_trans {x y z : Nat × Nat} (h : ltK x y) (k : ltK y z) : ltK x z := by unfold ltK at *; omega
theorem sorted_ext : ∀ {L M : List (Nat × Nat)}, L.Pairwise ltK → M.Pairwise ltK → (∀ p, p ∈ L ↔ p ∈ M) → L = M
  | [], [], _, _, _ => rfl
  | [], y :: M, _, _, h => absurd ((h y).2 (by simp)) (by simp)
  | x :: L, [], _, _, h => absurd ((h x).1 (by simp)) (by simp)
  | x :: L, y :: M, hL, hM, h => by
    obtain ⟨h1, hL'⟩ := List.pairwise_cons.1 hL
    obtain ⟨h2, hM'⟩ := List.pairwise_cons.1 hM
    have hxy : x = y := by
      have hx := (h x).1 (by simp)
      have hy := (h y).2 (by simp)
      rcases List.mem_cons.1 hx with e | e
      · exact e
      · rcases List.mem_cons.1 hy with e2 | e2
        · exact e2.symm
        · exact absurd (ltK_trans (h1 y e2) (h2 x e)) (ltK_irrefl _)
    subst hxy
    rw [sorted_ext hL' hM' fun p => ?_]
    have hp := h p
    constructor
    · intro hm
      rcases List.mem_cons.1 (hp.1 (by simp [hm])) with e | e
      · subst e; exact absurd (h1 p hm) (ltK_irrefl _)
      · exact e
    · intro hm
      rcases List.mem_cons.1 (hp.2 (by simp [hm])) with e | e
      · subst e; exact absurd (h2 p hm) (ltK_irrefl _)
      · exact e
section
variable {α : Type} {M : Nat → Nat → Option α}
theorem cut_ge {x d a : Nat} (h : cut x d = a) : a ≤ x := h ▸ cut_le x d
theorem mem_trav (hM : ∀ a d, (M a d).isSome → Key a d) : ∀ (f a d : Nat), d + f = 33 → Key a d → ∀ p : Nat × Nat, p ∈ trav M f a d ↔ (M p.1 p.2).isSome ∧ d ≤ p.2 ∧ cut p.1 d = a
  | 0, a, d, hf, hk, p => by have := hk.le; omega
  | f + 1, a, d, hf, hk, p => by
    have hroot : p ∈ (if (M a d).isSome then [(a, d)] else []) ↔ (M p.1 p.2).isSome ∧ p = (a, d) := by
      split
      · rename_i h; simp; rintro rfl; exact h
      · rename_i h; simp; rintro h1 rfl; exact h h1
    rw [trav, List.mem_append, List.mem_append, hroot]
    by_cases hd : d ≤ 31
    · rw [mem_trav hM f _ _ (by omega) (hk.kid hd false), mem_trav hM f _ _ (by omega) (hk.kid hd true)]
      constructor
      · rintro (⟨h1, rfl⟩ | ⟨h1, h2, h3⟩ | ⟨h1, h2, h3⟩)
        · exact ⟨h1, Nat.le_refl _, hk.is⟩
        · exact ⟨h1, by omega, by rw [← cut_cut p.1 (Nat.le_succ d), h3, kid_cut hk hd]⟩
        · exact ⟨h1, by omega, by rw [← cut_cut p.1 (Nat.le_succ d), h3, kid_cut hk hd]⟩
      · rintro ⟨h1, h2, h3⟩
        rcases Nat.eq_or_lt_of_le h2 with h4 | h4
        · refine .inl ⟨h1, ?_⟩
          have := (hM _ _ h1).is
          rw [← h4, h3] at this
          exact Prod.ext this.symm h4.symm
        · refine .inr ?_
          have h5 := cut_kid p.1 hd
          rw [h3] at h5
          cases hb : p.1.testBit (31 - d) with
          | false => rw [hb] at h5; exact .inl ⟨h1, h4, h5⟩
          | true => rw [hb] at h5; exact .inr ⟨h1, h4, h5⟩
    · obtain rfl : f = 0 := by omega
      simp only [trav, List.not_mem_nil, or_false]
      constructor
      · rintro ⟨h1, rfl⟩; exact ⟨h1, Nat.le_refl _, hk.is⟩
      · rintro ⟨h1, h2, h3⟩
        have h6 := hM _ _ h1
        have h7 := h6.le
        have h8 : p.2 = d := by omega
        refine ⟨h1, Prod.ext ?_ h8⟩
        have := h6.is
        rw [h8, h3] at this
        exact this.symm
theorem sorted_trav (hM : ∀ a d, (M a d).isSome → Key a d) : ∀ (f a d : Nat), d + f = 33 → Key a d → (trav M f a d).Pairwise ltK
  | 0, a, d, hf, hk => List.Pairwise.nil
  | f + 1, a, d, hf, hk => by
    rw [trav]
    have hbig : ∀ c, ∀ p ∈ trav M f (kid a d c) (d + 1), a ≤ p.1 ∧ d < p.2 ∧ (c = true → a + 2 ^ (31 - d) ≤ p.1) ∧ (c = false → p.1 < a + 2 ^ (31 - d)) := by
      intro c p hp
      by_cases hd : d ≤ 31
      · obtain ⟨h1, h2, h3⟩ := (mem_trav hM f _ _ (by omega) (hk.kid hd c) p).1 hp
        have h4 := cut_ge h3
        refine ⟨?_, by omega, fun hc => ?_, fun hc => ?_⟩
        · have h9 := pow_pos2 (31 - d)
          cases c
          · exact h4
          · have h4' : a + 2 ^ (31 - d) ≤ p.1 := h4
            omega
        · subst hc; exact h4
        · subst hc
          have h3' : cut p.1 (d + 1) = a := h3
          unfold cut at h3'
          rw [show 32 - (d + 1) = 31 - d by omega] at h3'
          have h5 := Nat.div_add_mod p.1 (2 ^ (31 - d))
          have h6 := Nat.mod_lt p.1 (pow_pos2 (31 - d))
          rw [Nat.mul_comm] at h5
          omega
      · obtain rfl : f = 0 := by omega
        simp [trav] at hp
    have hrec : ∀ c, (trav M f (kid a d c) (d + 1)).Pairwise ltK := by
      intro c
      by_cases hd : d ≤ 31
      · exact sorted_trav hM f _ _ (by omega) (hk.kid hd c)
      · obtain rfl : f = 0 := by omega
        exact List.Pairwise.nil
    refine List.pairwise_append.2 ⟨by split <;> simp, List.pairwise_append.2 ⟨hrec false, hrec true, fun p hp q hq => ?_⟩, fun p hp q hq => ?_⟩
    · have h1 := (hbig false p hp).2.2.2 rfl
      have h2 := (hbig true q hq).2.2.1 rfl
      exact .inl (by omega)
    · have e : p = (a, d) := by
        split at hp
        · simpa using hp
        · cases hp
      subst e
      have h1 : a ≤ q.1 ∧ d < q.2 := by
        rcases List.mem_append.1 hq with h | h
        · exact ⟨(hbig false q h).1, (hbig false q h).2.1⟩
        · exact ⟨(hbig true q h).1, (hbig true q h).2.1⟩
      unfold ltK
      dsimp only
      omega
/-- a list of things in order, and what it says of each prefix -/
structure RefOk (E : List ((Nat × Nat) × α)) (M : Nat → Nat → Option α) : Prop where
  sorted : (E.map (·.1)).Pairwise ltK
  key : ∀ e ∈ E, Key e.1.1 e.1.2
  is : ∀ x d v, M x d = some v ↔ ((x, d), v) ∈ E
theorem RefOk.some {E : List ((Nat × Nat) × α)} (h : RefOk E M) (x d : Nat) : (M x d).isSome ↔ (x, d) ∈ E.map (·.1) := by
  rw [Option.isSome_iff_exists]
  constructor
  · rintro ⟨v, hv⟩; exact List.mem_map.2 ⟨_, (h.is x d v).1 hv, rfl⟩
  · intro hm
    obtain ⟨⟨p, v⟩, h1, h2⟩ := List.mem_map.1 hm
    dsimp only at h2; subst h2
    exact ⟨v, (h.is x d v).2 h1⟩
theorem RefOk.keyM {E : List ((Nat × Nat) × α)} (h : RefOk E M) (x d : Nat) (hs : (M x d).isSome) : Key x d := by
  obtain ⟨v, hv⟩ := Option.isSome_iff_exists.1 hs
  exact h.key _ ((h.is x d v).1 hv)
theorem key_ok {a n : Nat} (h : Key a n) : okP a n = true := by rw [okP_iff]; exact ⟨by omega, by have := h.le; omega, by rw [Int.toNat_natCast]; exact h.is⟩
def heldG (M : Nat → Nat → Option α) (a : Nat) (m : Int) : List (Nat × Nat) := if okP a m then trav M 33 a m.toNat else []
theorem trav_fuel (M : Nat → Nat → Option α) (hM : ∀ a d, (M a d).isSome → Key a d) : ∀ (f a d g : Nat), 33 ≤ d + f → trav M (f + g) a d = trav M f a d := by
  have h0 : ∀ (g a d : Nat), 33 ≤ d → trav M g a d = [] := by
    intro g
    induction g with
    | zero => intro _ _ _; rfl
    | succ g ih =>
      intro a d hd
      have hn : (M a d).isSome = false := by
        cases e : (M a d).isSome with
        | false => rfl
        | true => have := (hM a d e).le; omega
      rw [trav, hn, ih _ _ (by omega), ih _ _ (by omega)]; rfl
  intro f
  induction f with
  | zero => intro a d g hd; rw [h0 _ _ _ (by omega)]; rfl
  | succ f ih =>
    intro a d g hd
    rw [Nat.succ_add, trav, trav, ih _ _ _ (by omega), ih _ _ _ (by omega)]
theorem held_filter {E : List ((Nat × Nat) × α)} (h : RefOk E M) (a : Nat) (m : Int) (ha : a < 4294967296) : heldG M a m = (E.map (·.1)).filter (fun p => inP a m p.1 p.2) := by
  unfold heldG
  cases hok : okP a m with
  | false =>
    have : ∀ p ∈ E.map (·.1), ¬ (inP a m p.1 p.2 = true) := by intro p _; simp [inP, hok]
    simp [List.filter_eq_nil_iff.2 this]
  | true =>
    obtain ⟨h1, h2, h3⟩ := okP_iff.1 hok
    simp only [if_true]
    have hk : Key a m.toNat := ⟨by omega, h3, ha⟩
    have e33 : trav M 33 a m.toNat = trav M (33 - m.toNat) a m.toNat := by
      have := trav_fuel M h.keyM (33 - m.toNat) a m.toNat m.toNat (by omega)
      rwa [show 33 - m.toNat + m.toNat = 33 by omega] at this
    rw [e33]
    refine sorted_ext (sorted_trav h.keyM _ _ _ (by omega) hk) (h.sorted.filter _) fun p => ?_
    rw [mem_trav h.keyM _ _ _ (by omega) hk, List.mem_filter, h.some]
    constructor
    · rintro ⟨h4, h5, h6⟩
      have h7 := key_ok (h.keyM p.1 p.2 ((h.some _ _).2 h4))
      refine ⟨h4, ?_⟩
      unfold inP
      rw [hok, h7]
      simp only [Bool.true_and, Bool.and_eq_true, decide_eq_true_eq]
      exact ⟨by omega, h6⟩
    · rintro ⟨h4, h5⟩
      unfold inP at h5
      simp only [Bool.and_eq_true, decide_eq_true_eq] at h5
      exact ⟨h4, by omega, h5.2⟩
end
end Go.Proofs.Ytcbpdjenncbbeaa
/- Lists of things in order: a thing is set, a thing is taken away. -/
namespace Go.Proofs.Ytcbpdjenncbbeaa
open Go.RowKit

instance (x y : Nat × Nat) : Decidable (ltK x y) := by unfold ltK; exact inferInstance
section
variable {α : Type}
def insE (k : Nat × Nat) (v : α) : List ((Nat × Nat) × α) → List ((Nat × Nat) × α)
  | [] => [(k, v)]
  | e :: r => if ltK e.1 k then e :: insE k v r else if e.1 = k then (k, v) :: r else (k, v) :: e :: r
def delE (k : Nat × Nat) (E : List ((Nat × Nat) × α)) : List ((Nat × Nat) × α) := E.filter (fun e => decide (e.1 ≠ k))
theorem ltK_or {x y : Nat × Nat} (h : ¬ ltK x y) (hn : x ≠ y) : ltK y x := by
  unfold ltK at *
  have : ¬ (x.1 = y.1 ∧ x.2 = y.2) := fun e => hn (Prod.ext e.1 e.2)
  omega
theorem ins_keys (k : Nat × Nat) (v : α) : ∀ (E : List ((Nat × Nat) × α)) (q : Nat × Nat), q ∈ (insE k v E).map (·.1) ↔ q = k ∨ q ∈ E.map (·.1)
  | [], q => by simp [insE]
  | e :: r, q => by
    unfold insE
    split
    · rw [List.map_cons, List.mem_cons, ins_keys k v r q, List.map_cons, List.mem_cons]
      constructor
      · rintro (h | h | h) <;> simp [h]
      · rintro (h | h | h) <;> simp [h]
    · split
      · rename_i h; simp [h]
      · simp
theorem ins_sorted (k : Nat × Nat) (v : α) : ∀ (E : List ((Nat × Nat) × α)), (E.map (·.1)).Pairwise ltK → ((insE k v E).map (·.1)).Pairwise ltK
  | [], _ => by simp [insE]
  | e :: r, h => by
    obtain ⟨h1, h2⟩ := List.pairwise_cons.1 (show (e.1 :: r.map (·.1)).Pairwise ltK from h)
    unfold insE
    split
    · rename_i hl
      refine List.pairwise_cons.2 ⟨fun q hq => ?_, ins_sorted k v r h2⟩
      rcases (ins_keys k v r q).1 hq with rfl | hq
      · exact hl
      · exact h1 q hq
    · rename_i hl
      split
      · rename_i he
        exact List.pairwise_cons.2 ⟨fun q hq => he ▸ h1 q hq, h2⟩
      · rename_i he
        have hk := ltK_or hl he
        refine List.pairwise_cons.2 ⟨fun q hq => ?_, h⟩
        rcases List.mem_cons.1 hq with rfl | hq
        · exact hk
        · exact ltK_trans hk (h1 q hq)
theorem ins_mem (k : Nat × Nat) (v : α) : ∀ (E : List ((Nat × Nat) × α)), (E.map (·.1)).Pairwise ltK → ∀ (q : Nat × Nat) (u : α), (q, u) ∈ insE k v E ↔ if q = k then u = v else (q, u) ∈ E
  | [], _, q, u => by
    unfold insE
    by_cases h : q = k
    · subst h; simp
    · simp [h]
  | e :: r, hs, q, u => by
    obtain ⟨h1, h2⟩ := List.pairwise_cons.1 (show (e.1 :: r.map (·.1)).Pairwise ltK from hs)
    have hnot : ∀ {q : Nat × Nat} {u : α}, (q, u) ∈ r → ltK e.1 q := fun hm => h1 _ (List.mem_map.2 ⟨_, hm, rfl⟩)
    unfold insE
    split
    · rename_i hl
      rw [List.mem_cons, ins_mem k v r h2 q u, List.mem_cons]
      by_cases hq : q = k
      · subst hq
        simp only [if_true]
        constructor
        · rintro (h | h)
          · exact absurd (by rw [← h] at hl; exact hl) (ltK_irrefl _)
          · exact h
        · exact .inr
      · simp only [if_neg hq]
    · rename_i hl
      split
      · rename_i he
        rw [List.mem_cons, List.mem_cons]
        by_cases hq : q = k
        · subst hq
          simp only [if_true]
          constructor
          · rintro (h | h)
            · injection h
            · exact absurd (he ▸ hnot h) (ltK_irrefl _)
          · intro h; exact .inl (by rw [h])
        · simp only [if_neg hq]
          constructor
          · rintro (h | h)
            · exact absurd (Prod.mk.inj h).1 hq
            · exact .inr h
          · rintro (h | h)
            · exact absurd (by rw [← he, ← h]) hq
            · exact .inr h
      · rename_i he
        have hk := ltK_or hl he
        rw [List.mem_cons]
        by_cases hq : q = k
        · subst hq
          simp only [if_true]
          constructor
          · rintro (h | h)
            · injection h
            · rcases List.mem_cons.1 h with h | h
              · exact absurd (by rw [← h]) he
              · exact absurd (ltK_trans hk (hnot h)) (ltK_irrefl _)
          · intro h; exact .inl (by rw [h])
        · simp only [if_neg hq]
          constructor
          · rintro (h | h)
            · exact absurd (Prod.mk.inj h).1 hq
            · exact h
          · exact .inr
variable {M : Nat → Nat → Option α}
theorem RefOk.nil : RefOk ([] : List ((Nat × Nat) × α)) (fun _ _ => none) := ⟨List.Pairwise.nil, by simp, by simp⟩
theorem RefOk.put {E : List ((Nat × Nat) × α)} (h : RefOk E M) {k : Nat × Nat} (hk : Key k.1 k.2) (v : α) : RefOk (insE k v E) (upd M k.1 k.2 (Option.some v)) := by
  refine ⟨ins_sorted k v E h.sorted, fun e he => ?_, fun x d u => ?_⟩
  · rcases (ins_keys k v E e.1).1 (List.mem_map.2 ⟨e, he, rfl⟩) with h1 | h1
    · rw [h1]; exact hk
    · obtain ⟨e2, h2, h3⟩ := List.mem_map.1 h1
      rw [← h3]; exact h.key e2 h2
  · rw [ins_mem k v E h.sorted]
    by_cases hq : (x, d) = k
    · subst hq
      simp only [upd_same, if_true, Option.some.injEq]
      exact eq_comm
    · rw [upd_other _ _ (fun e => hq (Prod.ext e.1 e.2)), if_neg hq, h.is]
theorem del_keys (k : Nat × Nat) (E : List ((Nat × Nat) × α)) : (delE k E).map (·.1) = (E.map (·.1)).filter (fun q => decide (q ≠ k)) := by
  unfold delE
  induction E with
  | nil => rfl
  | cons e r ih =>
    simp only [List.filter_cons, List.map_cons]
    split <;> simp_all
theorem RefOk.del {E : List ((Nat × Nat) × α)} (h : RefOk E M) (k : Nat × Nat) : RefOk (delE k E) (upd M k.1 k.2 none) := by
  refine ⟨by rw [del_keys]; exact h.sorted.filter _, fun e he => h.key e (List.mem_filter.1 he).1, fun x d u => ?_⟩
  unfold delE
  rw [List.mem_filter]
  by_cases hq : (x, d) = k
  · subst hq; simp [upd_same]
  · rw [upd_other _ _ (fun e => hq (Prod.ext e.1 e.2)), h.is]
    simp [hq]
theorem ins_length (k : Nat × Nat) (v : α) : ∀ (E : List ((Nat × Nat) × α)), (E.map (·.1)).Pairwise ltK → (insE k v E).length = if k ∈ E.map (·.1) then E.length else E.length + 1
  | [], _ => by simp [insE]
  | e :: r, hs => by
    obtain ⟨h1, h2⟩ := List.pairwise_cons.1 (show (e.1 :: r.map (·.1)).Pairwise ltK from hs)
    unfold insE
    split
    · rename_i hl
      have hne : k ≠ e.1 := fun h => ltK_irrefl _ (h ▸ hl)
      rw [List.length_cons, ins_length k v r h2, List.map_cons]
      have : (k ∈ e.1 :: r.map (·.1)) ↔ k ∈ r.map (·.1) := by simp [hne]
      simp only [this]
      split <;> simp
    · rename_i hl
      split
      · rename_i he; rw [if_pos (by simp [he])]; rfl
      · rename_i he
        have hk := ltK_or hl he
        rw [if_neg]
        · rfl
        · rw [List.map_cons, List.mem_cons]
          rintro (h | h)
          · exact he h.symm
          · exact ltK_irrefl _ (ltK_trans hk (h1 _ h))
theorem del_length (k : Nat × Nat) : ∀ (E : List ((Nat × Nat) × α)), (E.map (·.1)).Pairwise ltK → (delE k E).length + (if k ∈ E.map (·.1) then 1 else 0) = E.length
  | [], _ => by simp [delE]
  | e :: r, hs => by
    obtain ⟨h1, h2⟩ := List.pairwise_cons.1 (show (e.1 :: r.map (·.1)).Pairwise ltK from hs)
    have ih := del_length k r h2
    unfold delE at *
    rw [List.filter_cons, List.map_cons]
    by_cases he : e.1 = k
    · have hn : k ∉ r.map (·.1) := fun h => ltK_irrefl _ (h1 k h |> fun x => he ▸ x)
      rw [if_neg hn] at ih
      simp [he] at ih ⊢
      exact ih
    · have : (k ∈ e.1 :: r.map (·.1)) ↔ k ∈ r.map (·.1) := by simp [Ne.symm he]
      simp only [this]
      simp only [ne_eq] at ih
      simp only [he, ne_eq, not_false_eq_true, decide_true, if_true, List.length_cons]
      omega
theorem RefOk.in00 {E : List ((Nat × Nat) × α)} (h : RefOk E M) : (E.map (·.1)).filter (fun p => inP 0 0 p.1 p.2) = E.map (·.1) := by
  refine List.filter_eq_self.2 fun p hp => ?_
  obtain ⟨e, he, rfl⟩ := List.mem_map.1 hp
  have hk := h.key e he
  unfold inP
  rw [key_ok hk, show okP 0 0 = true by decide]
  simp [cut_0 hk.lt]
end
end Go.Proofs.Ytcbpdjenncbbeaa
/- What calls make of a list of things in order. -/
namespace Go.Proofs.Ytcbpdjenncbbeaa
open Go.RowKit

section
variable {α : Type}
def setL (E : List ((Nat × Nat) × α)) (a : Nat) (l : Int) (v : α) : List ((Nat × Nat) × α) := if okP a l then insE (a, l.toNat) v E else E
def delL (E : List ((Nat × Nat) × α)) (a : Nat) (l : Int) : List ((Nat × Nat) × α) := if okP a l then delE (a, l.toNat) E else E
def keysIn (E : List ((Nat × Nat) × α)) (a : Nat) (m : Int) : List (Nat × Nat) := (E.map (·.1)).filter (fun p => inP a m p.1 p.2)
theorem setL_length (E : List ((Nat × Nat) × α)) (hs : (E.map (·.1)).Pairwise ltK) (a : Nat) (l : Int) (v : α) : (setL E a l v).length ≤ E.length + 1 := by
  unfold setL
  split
  · rw [ins_length _ _ _ hs]; split <;> omega
  · omega
theorem keysIn_length (E : List ((Nat × Nat) × α)) (a : Nat) (m : Int) : (keysIn E a m).length ≤ E.length := by
  unfold keysIn
  exact Nat.le_trans (List.length_filter_le _ _) (by simp)
theorem okP_key {a : Nat} {l : Int} (ha : a < 4294967296) (h : okP a l = true) : Key a l.toNat ∧ l = (l.toNat : Int) := by
  obtain ⟨h1, h2, h3⟩ := okP_iff.1 h
  exact ⟨⟨by omega, h3, ha⟩, by omega⟩
end
end Go.Proofs.Ytcbpdjenncbbeaa
/- A trie and the list of its things in order. -/
namespace Go.Proofs.Ytcbpdjenncbbeaa
open Go.RowKit

def TrieEX (w : World) (b : Nat) (N : Nat → Nat → Option Nat) (E : List ((Nat × Nat) × (Option Addr))) : Prop := ∃ M, TrieX w b N E.length M ∧ RefOk E M
theorem TrieEX.keep {w w' : World} {b : Nat} {N : Nat → Nat → Option Nat} {E : List ((Nat × Nat) × (Option Addr))} (h : TrieEX w b N E) (e : ∀ k, foot b N k → w'.heap[k]? = w.heap[k]?) : TrieEX w' b N E := by
  obtain ⟨M, h1, h2⟩ := h; exact ⟨M, h1.keep e, h2⟩
theorem TrieEX.below {w w' : World} {b : Nat} {N : Nat → Nat → Option Nat} {E : List ((Nat × Nat) × (Option Addr))} (h : TrieEX w b N E) (hb : Below w.heap.size w w') : TrieEX w' b N E := by
  obtain ⟨M, h1, h2⟩ := h; exact ⟨M, h1.below hb, h2⟩
theorem TrieEX.lt {w : World} {b : Nat} {N : Nat → Nat → Option Nat} {E : List ((Nat × Nat) × (Option Addr))} (h : TrieEX w b N E) {k : Nat} (hk : foot b N k) : k < w.heap.size := by
  obtain ⟨M, h1, h2⟩ := h; exact h1.lt hk
theorem TrieEX.sorted {w : World} {b : Nat} {N : Nat → Nat → Option Nat} {E : List ((Nat × Nat) × (Option Addr))} (h : TrieEX w b N E) : (E.map (·.1)).Pairwise ltK := by
  obtain ⟨M, h1, h2⟩ := h; exact h2.sorted
theorem newEX (w : World) : Calls Try.prog 21 #[] w fun e w' => e = .returned (.pointer (some ⟨w.heap.size + 1, 0, none⟩)) ∧ ∃ N, TrieEX w' (w.heap.size + 1) N [] ∧ (∀ k, foot (w.heap.size + 1) N k → w.heap.size ≤ k) ∧ Below w.heap.size w w' :=
  (newX_any w).mono fun e w' ⟨h1, h2, h3⟩ => ⟨h1, _, ⟨_, h2, RefOk.nil⟩, (fun k hk => by
    rcases hk with rfl | ⟨x, d, hk⟩
    · omega
    · dsimp only at hk
      split at hk
      · injection hk with hk; omega
      · cases hk), h3⟩
theorem setEX {w : World} {b : Nat} {N : Nat → Nat → Option Nat} {E : List ((Nat × Nat) × (Option Addr))} (h : TrieEX w b N E) (hE : E.length < 4611686018427387904) (a : Nat) (l : Int) (ha : a < 4294967296) (v : (Option Addr)) :
    Calls Try.prog 22 #[.pointer (some ⟨b, 0, none⟩), pfx a l, .pointer v] w fun e w' => e = .returned (.int .i64 (if okP a l then 0 else 20)) ∧ ∃ N', TrieEX w' b N' (setL E a l v) ∧ Moved w w' (foot b N) (foot b N') := by
  obtain ⟨M, h1, h2⟩ := h
  unfold setL
  cases hok : okP a l with
  | false => exact (setX_bad h1 a l ha hok v).mono fun e w' ⟨h3, h4⟩ => ⟨h3, N, ⟨M, h1.below h4, h2⟩, Moved.of_below h4 _⟩
  | true =>
    obtain ⟨hk, hl⟩ := okP_key ha hok
    rw [hl] at hok ⊢
    simp only [if_true, Int.toNat_natCast]
    refine (setX_any h1 a l.toNat ha hok hE v).mono fun e w' ⟨h3, N', h4, h5⟩ => ⟨h3, N', ⟨_, ?_, h2.put (k := (a, l.toNat)) hk v⟩, h5⟩
    have hn : (if (M a l.toNat).isSome = true then E.length else E.length + 1) = (insE (a, l.toNat) v E).length := by
      rw [ins_length _ _ _ h2.sorted]
      by_cases hm : (M a l.toNat).isSome = true
      · rw [if_pos hm, if_pos ((h2.some _ _).1 hm)]
      · rw [if_neg hm, if_neg (fun h => hm ((h2.some _ _).2 h))]
    rw [← hn]; exact h4
theorem withinEX {w : World} {b : Nat} {N : Nat → Nat → Option Nat} {E : List ((Nat × Nat) × (Option Addr))} (h : TrieEX w b N E) (hE : E.length ≤ 4294967296) (a : Nat) (m : Int) (ha : a < 4294967296) :
    Calls Try.prog 47 #[.pointer (some ⟨b, 0, none⟩), pfx a m] w fun e w' => ∃ v, e = .returned v ∧ RP.Own w' w.heap.size v (keysIn E a m) ∧ Below w.heap.size w w' := by
  obtain ⟨M, h1, h2⟩ := h
  have e : heldX M a m = keysIn E a m := held_filter h2 a m ha
  have := withinX_any h1 a m ha (by rw [e]; exact Nat.le_trans (keysIn_length E a m) hE)
  rw [e] at this
  exact this
theorem prefixesEX {w : World} {b : Nat} {N : Nat → Nat → Option Nat} {E : List ((Nat × Nat) × (Option Addr))} (h : TrieEX w b N E) (hE : E.length ≤ 4294967296) :
    Calls Try.prog 30 #[.pointer (some ⟨b, 0, none⟩)] w fun e w' => ∃ v, e = .returned v ∧ RP.Own w' w.heap.size v (E.map (·.1)) ∧ Below w.heap.size w w' := by
  obtain ⟨M, h1, h2⟩ := h
  have e : heldX M 0 0 = E.map (·.1) := (held_filter h2 0 0 (by decide)).trans h2.in00
  have := prefixesX_any h1 (by rw [e]; simpa using hE)
  rw [e] at this
  exact this
end Go.Proofs.Ytcbpdjenncbbeaa
/- Maps, as lists of entries: look-up, store, delete, length, and the steps of a range. -/
namespace Go.Proofs.Ytcbpdjenncbbeaa.MR
open Go.Maps Go.MapKept
open Go.ChangeMaps (setBlock)

/-- how keys are written in memory -/
structure Enc (P : Program) (K : TypeId) (κ : Type) where
  enc : κ → Value
  ok : κ → Prop
  law : Keyed P K
  reads : ∀ k, ok k → ∃ l, keyOf P K (enc k) = some l
  inj : ∀ a b, enc a = enc b → a = b

abbrev Ent (κ : Type) := κ × Value × Nat
def ents {κ : Type} (enc : κ → Value) (l : List (Ent κ)) : List MapEntry := l.map fun e => ⟨enc e.1, e.2.1, e.2.2⟩

section
variable {P : Program} {K : TypeId} {κ : Type} (N : Enc P K κ)

structure MapAt (w : World) (b : Nat) (l : List (Ent κ)) (clock : Nat) : Prop where
  blk : w.heap[b]? = some (.map (ents N.enc l).toArray clock)
  ok : ∀ e ∈ l, N.ok e.1
  nodup : (l.map (·.1)).Nodup
  born : ∀ e ∈ l, e.2.2 < clock
  bnodup : (l.map (·.2.2)).Nodup

theorem ents_length (enc : κ → Value) (l : List (Ent κ)) : (ents enc l).length = l.length := by simp [ents]

theorem find_cases {w w' : World} {b clock : Nat} {l : List (Ent κ)} (h : MapAt N w b l clock) {x : κ} (hx : N.ok x) :
    ((Instr.findKey K (N.enc x) (ents N.enc l)).run P w' = .ok none w' ∧ x ∉ l.map (·.1)) ∨
    ∃ j v bn, (Instr.findKey K (N.enc x) (ents N.enc l)).run P w' = .ok (some (j, v)) w' ∧ l[j]? = some (x, v, bn) := by
  obtain ⟨lx, hlx⟩ := N.reads x hx
  have hr : ∀ e ∈ ents N.enc l, ∃ l', keyOf P K e.key = some l' := by
    intro e he
    obtain ⟨y, hy, rfl⟩ := List.mem_map.1 he
    exact N.reads _ (h.ok y hy)
  rcases N.law.find w' hlx (ents N.enc l) hr with ⟨h1, h2⟩ | ⟨j, e, h1, h2, h3⟩
  · left
    refine ⟨h1, fun hm => ?_⟩
    obtain ⟨y, hy, rfl⟩ := List.mem_map.1 hm
    exact h2 ⟨N.enc y.1, y.2.1, y.2.2⟩ (List.mem_map.2 ⟨y, hy, rfl⟩) rfl
  · right
    simp only [ents, List.getElem?_map, Option.map_eq_some_iff] at h2
    obtain ⟨⟨yk, yv, yb⟩, hy, rfl⟩ := h2
    obtain rfl : yk = x := N.inj _ _ h3
    exact ⟨j, yv, yb, h1, hy⟩

theorem run_len {w : World} {b clock : Nat} {l : List (Ent κ)} (h : MapAt N w b l clock) {T E : TypeId} (ht : P.underlying T = some (.map K E)) (ty : TypeId) :
    (Builtin.len_ #[T] ty #[.map (some b)]).run P w = .ok (.int .i64 l.length) w := by
  unfold Builtin.len_
  simp [run_underlying ht, Result.andThen, getObj, Sem.run, h.blk, goInt, ents]

theorem MapAt.blk_iff {w w' : World} {b clock : Nat} {l : List (Ent κ)} (h : MapAt N w b l clock) (e : w'.heap[b]? = w.heap[b]?) : MapAt N w' b l clock := ⟨e.trans h.blk, h.ok, h.nodup, h.born, h.bnodup⟩
theorem mapAt_made {w : World} {b : Nat} (h : w.heap[b]? = some (.map #[] 0)) : MapAt N w b [] 0 := ⟨h, by simp, by simp, by simp, by simp⟩
section
variable [DecidableEq κ]
def get? (l : List (Ent κ)) (x : κ) : Option Value := (l.find? (fun e => decide (e.1 = x))).map (·.2.1)
def put (l : List (Ent κ)) (x : κ) (v : Value) (clock : Nat) : List (Ent κ) :=
  if x ∈ l.map (·.1) then l.map (fun e => if e.1 = x then (x, v, e.2.2) else e) else l ++ [(x, v, clock)]
def clock' (l : List (Ent κ)) (x : κ) (clock : Nat) : Nat := if x ∈ l.map (·.1) then clock else clock + 1
def del (l : List (Ent κ)) (x : κ) : List (Ent κ) := l.filter (fun e => decide (e.1 ≠ x))

theorem get?_none {l : List (Ent κ)} {x : κ} (h : x ∉ l.map (·.1)) : get? l x = none := by
  unfold get?
  rw [List.find?_eq_none.2]
  · rfl
  · intro e he
    simp only [decide_eq_true_eq]
    rintro rfl
    exact h (List.mem_map.2 ⟨e, he, rfl⟩)
theorem get?_mem {l : List (Ent κ)} (hn : (l.map (·.1)).Nodup) {e : Ent κ} (he : e ∈ l) : get? l e.1 = some e.2.1 := by
  induction l with
  | nil => cases he
  | cons y r ih =>
    simp only [List.map_cons, List.nodup_cons] at hn
    unfold get?
    rw [List.find?_cons]
    rcases List.mem_cons.1 he with rfl | he'
    · simp
    · have hne : y.1 ≠ e.1 := fun h => hn.1 (List.mem_map.2 ⟨e, he', h.symm⟩)
      simp only [hne, decide_false]
      exact ih hn.2 he'
theorem mem_of_get? {l : List (Ent κ)} {x : κ} {v : Value} (h : get? l x = some v) : ∃ e ∈ l, e.1 = x ∧ e.2.1 = v := by
  unfold get? at h
  simp only [Option.map_eq_some_iff] at h
  obtain ⟨e, he, rfl⟩ := h
  have h1 := List.find?_some he
  exact ⟨e, List.mem_of_find?_eq_some he, by simpa using h1, rfl⟩

theorem get?_put (l : List (Ent κ)) (x y : κ) (v : Value) (c : Nat) : get? (put l x v c) y = if y = x then some v else get? l y := by
  unfold put
  split
  · rename_i hx
    clear c
    induction l with
    | nil => simp at hx
    | cons e r ih =>
      unfold get?
      simp only [List.map_cons, List.find?_cons]
      by_cases he : e.1 = x
      · by_cases hy : y = x
        · subst hy; simp [he]
        · have : ¬ (x = y) := fun h => hy h.symm
          have hey : ¬ (e.1 = y) := by rw [he]; exact this
          simp only [he, if_true, this, decide_false, hy, if_false]
          by_cases hxr : x ∈ r.map (·.1)
          · have := ih hxr
            unfold get? at this
            rw [this, if_neg hy]
          · have : r.map (fun e => if e.1 = x then (x, v, e.2.2) else e) = r := by
              conv => rhs; rw [← List.map_id r]
              refine List.map_congr_left fun e' he' => ?_
              rw [if_neg]
              · rfl
              · rintro rfl; exact hxr (List.mem_map.2 ⟨e', he', rfl⟩)
            rw [this]
      · simp only [he, if_false]
        have hxr : x ∈ r.map (·.1) := by
          simp only [List.map_cons, List.mem_cons] at hx
          rcases hx with h | h
          · exact absurd h.symm he
          · exact h
        have ih' := ih hxr
        unfold get? at ih'
        by_cases hey : e.1 = y
        · have : y ≠ x := by rintro rfl; exact he hey
          simp [hey, this]
        · simp only [hey, decide_false]
          exact ih'
  · rename_i hx
    unfold get?
    rw [List.find?_append]
    by_cases hy : y = x
    · subst hy
      have := get?_none hx
      unfold get? at this
      simp only [Option.map_eq_none_iff] at this
      simp [this]
    · have : ¬ (x = y) := fun h => hy h.symm
      simp [hy, this]

theorem get?_del (l : List (Ent κ)) (x y : κ) : get? (del l x) y = if y = x then none else get? l y := by
  unfold del get?
  rw [List.find?_filter]
  by_cases hy : y = x
  · subst hy
    rw [if_pos rfl, List.find?_eq_none.2]
    · rfl
    · intro e he; simp
  · rw [if_neg hy]
    congr 2
    funext e
    by_cases h : e.1 = y
    · have : ¬ (e.1 = x) := by rw [h]; exact hy
      simp [h, hy]
    · simp [h]

theorem run_lookup {w : World} {b clock : Nat} {l : List (Ent κ)} (h : MapAt N w b l clock) {x : κ} (hx : N.ok x) {T E : TypeId} (ht : P.underlying T = some (.map K E)) {z : Value} (hz : ∀ w, (zeroValue E).run P w = .ok z w) (ok : Bool) :
    (Instr.lookup T (.map (some b)) (N.enc x) ok).run P w = .ok (if ok then .tuple #[(get? l x).getD z, .bool (get? l x).isSome] else (get? l x).getD z) w := by
  obtain ⟨lx, hlx⟩ := N.reads x hx
  unfold Instr.lookup
  simp only [Sem.run_bind, run_underlying ht, Result.andThen, getObj, Sem.run, h.blk, N.law.check w _ hlx, Sem.run_pure]
  rcases find_cases N h (w' := w) hx with ⟨h1, h2⟩ | ⟨j, v, bn, h1, h2⟩
  · simp only [h1, Sem.run_bind, Result.andThen, hz, Sem.run_pure, get?_none h2]
    cases ok <;> rfl
  · have hm : (x, v, bn) ∈ l := List.mem_of_getElem? h2
    have := get?_mem h.nodup hm
    simp only [h1, this]
    cases ok <;> rfl

theorem setBlock_heap (w : World) (b : Nat) (o : Obj) (hb : b < w.heap.size) : (setBlock w b o).heap[b]? = some o := by
  simp [setBlock, hb]

theorem ents_put_old (enc : κ → Value) (_inj : ∀ a b, enc a = enc b → a = b) {l : List (Ent κ)} (hn : (l.map (·.1)).Nodup) {j : Nat} {x : κ} {u v : Value} {bn : Nat} (hj : l[j]? = some (x, u, bn)) :
    (ents enc l).toArray.modify j (fun e => { e with key := enc x, val := v }) = (ents enc (l.map fun e => if e.1 = x then (x, v, e.2.2) else e)).toArray := by
  apply Array.ext_getElem?
  intro i
  simp only [Array.getElem?_modify, List.getElem?_toArray, ents, List.getElem?_map]
  by_cases hij : j = i
  · subst hij
    simp [hj]
  · rw [if_neg hij]
    cases hi : l[i]? with
    | none => rfl
    | some e =>
      have hne : ¬ (e.1 = x) := by
        rintro rfl
        have hi' := List.getElem?_eq_some_iff.1 hi
        have hj' := List.getElem?_eq_some_iff.1 hj
        obtain ⟨a1, a2⟩ := hi'
        obtain ⟨b1, b2⟩ := hj'
        have h1 : (l.map (·.1))[i]'(by simpa using a1) = (l.map (·.1))[j]'(by simpa using b1) := by simp [a2, b2]
        exact hij ((List.getElem_inj hn).1 h1.symm)
      simp [hne]

theorem mapAt_put {w' : World} {b clock : Nat} {l : List (Ent κ)} {w : World} (h : MapAt N w b l clock) {x : κ} (hx : N.ok x) (v : Value) (hw : w'.heap[b]? = some (.map (ents N.enc (put l x v clock)).toArray (clock' l x clock))) : MapAt N w' b (put l x v clock) (clock' l x clock) := by
  refine ⟨hw, ?_, ?_, ?_, ?_⟩
  all_goals unfold put
  all_goals try unfold clock'
  all_goals split
  · intro e he
    obtain ⟨y, hy, rfl⟩ := List.mem_map.1 he
    split
    · exact hx
    · exact h.ok y hy
  · intro e he
    rcases List.mem_append.1 he with he | he
    · exact h.ok e he
    · simp at he; subst he; exact hx
  · have : (l.map fun e => if e.1 = x then (x, v, e.2.2) else e).map (·.1) = l.map (·.1) := by
      rw [List.map_map]
      refine List.map_congr_left fun e _ => ?_
      simp only [Function.comp]
      split
      · rename_i h'; exact h'.symm
      · rfl
    rw [this]; exact h.nodup
  · rename_i hni
    rw [List.map_append, List.nodup_append]
    refine ⟨h.nodup, by simp, ?_⟩
    intro a ha c hc
    simp at hc
    subst hc
    rintro rfl
    exact hni ha
  · intro e he
    obtain ⟨y, hy, rfl⟩ := List.mem_map.1 he
    have := h.born y hy
    split <;> exact this
  · intro e he
    rcases List.mem_append.1 he with he | he
    · have := h.born e he; omega
    · simp at he; subst he; simp
  · have : (l.map fun e => if e.1 = x then (x, v, e.2.2) else e).map (·.2.2) = l.map (·.2.2) := by
      rw [List.map_map]
      refine List.map_congr_left fun e _ => ?_
      simp only [Function.comp]
      split <;> rfl
    rw [this]; exact h.bnodup
  · rw [List.map_append, List.nodup_append]
    refine ⟨h.bnodup, by simp, ?_⟩
    intro a ha c hc
    simp at hc
    subst hc
    obtain ⟨y, hy, rfl⟩ := List.mem_map.1 ha
    have := h.born y hy
    omega

theorem run_update {w : World} {b clock : Nat} {l : List (Ent κ)} (h : MapAt N w b l clock) {x : κ} (hx : N.ok x) {T E : TypeId} (ht : P.underlying T = some (.map K E)) (v : Value) :
    (Instr.mapUpdate T (.map (some b)) (N.enc x) v).run P w = .ok () (setBlock w b (.map (ents N.enc (put l x v clock)).toArray (clock' l x clock))) ∧
    MapAt N (setBlock w b (.map (ents N.enc (put l x v clock)).toArray (clock' l x clock))) b (put l x v clock) (clock' l x clock) := by
  have hlt : b < w.heap.size := by
    rcases Nat.lt_or_ge b w.heap.size with h' | h'
    · exact h'
    · have := h.blk; rw [Array.getElem?_eq_none h'] at this; cases this
  refine ⟨?_, mapAt_put N h hx v (setBlock_heap _ _ _ hlt)⟩
  obtain ⟨lx, hlx⟩ := N.reads x hx
  unfold Instr.mapUpdate
  simp only [Sem.run_bind, run_underlying ht, Result.andThen, getObj, Sem.run, h.blk, N.law.check w _ hlx]
  have hset : ∀ o : Obj, (setObj b o).run P w = .ok () (setBlock w b o) := by
    intro o; simp [setObj, Sem.run, h.blk, setBlock]
  rcases find_cases N h (w' := w) hx with ⟨h1, h2⟩ | ⟨j, u, bn, h1, h2⟩
  · simp only [h1, hset]
    unfold put clock'
    rw [if_neg h2, if_neg h2]
    simp [ents]
  · have hm : x ∈ l.map (·.1) := List.mem_map.2 ⟨_, List.mem_of_getElem? h2, rfl⟩
    have hk : ((((ents N.enc l).toArray[j]?).map (·.key)).getD (N.enc x)) = N.enc x := by simp [ents, h2]
    simp only [h1, Sem.run_bind, hk, N.law.stays w hlx, Result.andThen, hset]
    unfold put clock'
    rw [if_pos hm, if_pos hm, ents_put_old N.enc N.inj h.nodup h2]

theorem ents_del (_enc : κ → Value) {l : List (Ent κ)} (hn : (l.map (·.1)).Nodup) {j : Nat} {x : κ} {u : Value} {bn : Nat} (hj : l[j]? = some (x, u, bn)) :
    l.eraseIdx j = del l x := by
  induction l generalizing j with
  | nil => simp at hj
  | cons y r ih =>
    simp only [List.map_cons, List.nodup_cons] at hn
    cases j with
    | zero =>
      simp at hj
      subst hj
      simp only [List.eraseIdx_zero, List.tail_cons, del, List.filter_cons]
      simp only [ne_eq, not_true_eq_false, decide_false, Bool.false_eq_true, if_false]
      symm
      rw [List.filter_eq_self]
      intro e he
      simp only [decide_eq_true_eq]
      rintro rfl
      exact hn.1 (List.mem_map.2 ⟨e, he, rfl⟩)
    | succ j =>
      simp at hj
      have hne : y.1 ≠ x := by
        rintro rfl
        exact hn.1 (List.mem_map.2 ⟨_, List.mem_of_getElem? hj, rfl⟩)
      simp only [List.eraseIdx_cons_succ, del, List.filter_cons]
      simp only [ne_eq, hne, not_false_eq_true, decide_true, if_true]
      rw [ih hn.2 hj]
      rfl

theorem mapAt_del {w w' : World} {b clock : Nat} {l : List (Ent κ)} (h : MapAt N w b l clock) (x : κ) (hw : w'.heap[b]? = some (.map (ents N.enc (del l x)).toArray clock)) : MapAt N w' b (del l x) clock :=
  ⟨hw, fun e he => h.ok e (List.mem_filter.1 he).1, (List.filter_sublist.map _).nodup h.nodup, fun e he => h.born e (List.mem_filter.1 he).1, (List.filter_sublist.map _).nodup h.bnodup⟩

theorem del_none {l : List (Ent κ)} {x : κ} (h : x ∉ l.map (·.1)) : del l x = l := by
  unfold del
  rw [List.filter_eq_self]
  intro e he
  simp only [decide_eq_true_eq]
  rintro rfl
  exact h (List.mem_map.2 ⟨e, he, rfl⟩)

theorem run_delete {w : World} {b clock : Nat} {l : List (Ent κ)} (h : MapAt N w b l clock) {x : κ} (hx : N.ok x) {T E K' : TypeId} (ht : P.underlying T = some (.map K E)) (ty : TypeId) :
    (Builtin.delete_ #[T, K'] ty #[.map (some b), N.enc x]).run P w = .ok (.tuple #[]) (setBlock w b (.map (ents N.enc (del l x)).toArray clock)) ∧
    MapAt N (setBlock w b (.map (ents N.enc (del l x)).toArray clock)) b (del l x) clock := by
  have hlt : b < w.heap.size := by
    rcases Nat.lt_or_ge b w.heap.size with h' | h'
    · exact h'
    · have := h.blk; rw [Array.getElem?_eq_none h'] at this; cases this
  refine ⟨?_, mapAt_del N h x (setBlock_heap _ _ _ hlt)⟩
  obtain ⟨lx, hlx⟩ := N.reads x hx
  have hset : ∀ o : Obj, (setObj b o).run P w = .ok () (setBlock w b o) := by
    intro o; simp [setObj, Sem.run, h.blk, setBlock]
  unfold Builtin.delete_
  simp only [Sem.run_bind, run_underlying ht, Result.andThen, getObj, Sem.run, h.blk, N.law.check w _ hlx, List.getElem?_toArray, List.getElem?_cons_zero, List.getElem?_cons_succ]
  rcases find_cases N h (w' := w) hx with ⟨h1, h2⟩ | ⟨j, u, bn, h1, h2⟩
  · simp only [h1, Sem.run_bind, Result.andThen, hset, del_none h2, Sem.run_pure]
  · have := ents_del N.enc h.nodup h2
    simp only [h1, Sem.run_bind, Result.andThen, hset, Sem.run_pure]
    rw [show (ents N.enc l).toArray.eraseIdxIfInBounds j = (ents N.enc (del l x)).toArray by
      rw [← this]; simp [ents, ChangeMaps.map_eraseIdx]]

end
end
end Go.Proofs.Ytcbpdjenncbbeaa.MR
/- A range over a map that does not turn: which entries have come, in whatever order. -/
namespace Go.Proofs.Ytcbpdjenncbbeaa.MR
open Go.Maps Go.MapKept
open Go.ChangeMaps (setBlock)

section
variable {P : Program} {K : TypeId} {κ : Type} (N : Enc P K κ)
/-- these have come, in this order -/
structure Ran (l : List (Ent κ)) (seen : Array Nat) (done : List (Ent κ)) : Prop where
  seen : seen.toList = done.map (·.2.2)
  sub : ∀ e ∈ done, e ∈ l
  nodup : (done.map (·.2.2)).Nodup
theorem Ran.none (l : List (Ent κ)) : Ran l #[] [] := ⟨rfl, fun e he => (by cases he), by simp⟩
theorem Ran.more {l : List (Ent κ)} {seen : Array Nat} {done : List (Ent κ)} (h : Ran l seen done) {e : Ent κ} (he : e ∈ l) (hn : e.2.2 ∉ seen) : Ran l (seen.push e.2.2) (done ++ [e]) := by
  refine ⟨by simp [h.seen], fun x hx => ?_, ?_⟩
  · rcases List.mem_append.1 hx with hx | hx
    · exact h.sub x hx
    · simp at hx; subst hx; exact he
  · rw [List.map_append, List.nodup_append]
    refine ⟨h.nodup, by simp, fun a ha b hb => ?_⟩
    simp at hb
    subst hb
    rintro rfl
    rw [← h.seen] at ha
    exact hn (by simpa using ha)
theorem inj_of_nodup {α β : Type} {f : α → β} {l : List α} (h : (l.map f).Nodup) {a b : α} (ha : a ∈ l) (hb : b ∈ l) (e : f a = f b) : a = b := by
  induction l with
  | nil => cases ha
  | cons x r ih =>
    simp only [List.map_cons, List.nodup_cons] at h
    rcases List.mem_cons.1 ha with rfl | ha'
    · rcases List.mem_cons.1 hb with rfl | hb'
      · rfl
      · exact absurd (List.mem_map.2 ⟨b, hb', e.symm⟩) h.1
    · rcases List.mem_cons.1 hb with rfl | hb'
      · exact absurd (List.mem_map.2 ⟨a, ha', e⟩) h.1
      · exact ih h.2 ha' hb'
theorem nodup_of_map {α β : Type} {f : α → β} {l : List α} (h : (l.map f).Nodup) : l.Nodup := by
  induction l with
  | nil => exact List.nodup_nil
  | cons x r ih =>
    simp only [List.map_cons, List.nodup_cons] at h
    exact List.nodup_cons.2 ⟨fun hx => h.1 (List.mem_map.2 ⟨x, hx, rfl⟩), ih h.2⟩
theorem Ran.all {l : List (Ent κ)} {seen : Array Nat} {done : List (Ent κ)} (h : Ran l seen done) (hb : (l.map (·.2.2)).Nodup) (ha : ∀ e ∈ l, e.2.2 ∈ seen) : done.Perm l := by
  rw [List.perm_ext_iff_of_nodup (nodup_of_map h.nodup) (nodup_of_map hb)]
  intro e
  refine ⟨h.sub e, fun he => ?_⟩
  have h1 := ha e he
  rw [← Array.mem_toList_iff, h.seen] at h1
  obtain ⟨x, hx, hxe⟩ := List.mem_map.1 h1
  rw [← inj_of_nodup hb (h.sub x hx) he hxe]
  exact hx
theorem run_range {w : World} {b clock : Nat} {l : List (Ent κ)} (h : MapAt N w b l clock) {T E : TypeId} (ht : P.underlying T = some (.map K E)) : (Instr.range T (.map (some b))).run P w = .ok (.pointer (some ⟨w.heap.size, 0, none⟩)) (w.alloc (.mapIter (some b) clock #[] clock)) :=
  run_range_map w T K E b _ clock ht h.blk
theorem next_step {w : World} {b clock r : Nat} {l : List (Ent κ)} {seen : Array Nat} (h : MapAt N w b l clock) (hr : w.heap[r]? = some (.mapIter (some b) clock seen clock)) (ty : TypeId) :
    ((∀ e ∈ l, e.2.2 ∈ seen) ∧ (Instr.next (.pointer (some ⟨r, 0, none⟩)) false ty).run P w = .ok (.tuple #[.bool false]) w) ∨
    ∃ e ∈ l, e.2.2 ∉ seen ∧ ∃ w1, (Instr.next (.pointer (some ⟨r, 0, none⟩)) false ty).run P w = .ok (.tuple #[.bool true, N.enc e.1, e.2.1]) w1 ∧ SetB w w1 r (.mapIter (some b) clock (seen.push e.2.2) clock) := by
  have hold : ∀ x ∈ (ents N.enc l).toArray.toList, x.born < clock := by
    intro x hx
    obtain ⟨e, he, rfl⟩ := List.mem_map.1 (by simpa using hx : x ∈ ents N.enc l)
    exact h.born e he
  rcases run_next_at (P := P) w ty r b clock clock seen _ clock hr h.blk hold (Nat.le_refl _) with ⟨h1, h2⟩ | ⟨x, hx, w1, hw, h2⟩
  · left
    refine ⟨fun e he => ?_, h2⟩
    have : leftOf (ents N.enc l).toArray seen = #[] := Array.eq_empty_of_size_eq_zero h1
    unfold leftOf at this
    rw [Array.filter_eq_empty_iff] at this
    have h3 := this ⟨N.enc e.1, e.2.1, e.2.2⟩ (by simp [ents]; exact ⟨_, _, _, he, rfl, rfl, rfl⟩)
    simpa using h3
  · right
    unfold leftOf at hx
    simp only [Array.toList_filter, List.mem_filter, Bool.not_eq_true'] at hx
    obtain ⟨hm, hs⟩ := hx
    obtain ⟨e, he, rfl⟩ := List.mem_map.1 (by simpa using hm : x ∈ ents N.enc l)
    refine ⟨e, he, by simpa using hs, _, h2, ?_⟩
    rcases hw with rfl | rfl <;> exact ⟨rfl, rfl, rfl, rfl⟩
theorem run_entry {w : World} {b clock r : Nat} {l : List (Ent κ)} {seen : Array Nat} (h : MapAt N w b l clock) {e : Ent κ} (he : e ∈ l) (hr : w.heap[r]? = some (.mapIter (some b) clock (seen.push e.2.2) clock)) : (Instr.entry (.pointer (some ⟨r, 0, none⟩))).run P w = .ok (.tuple #[N.enc e.1, e.2.1]) w := by
  refine run_entry_at (P := P) w r b clock seen _ clock ⟨N.enc e.1, e.2.1, e.2.2⟩ hr h.blk (by simp [ents]; exact ⟨_, _, _, he, rfl, rfl, rfl⟩) ?_
  have : ((ents N.enc l).toArray.toList.map (·.born)) = l.map (·.2.2) := by simp [ents]
  rw [this]
  exact h.bnodup
end
end Go.Proofs.Ytcbpdjenncbbeaa.MR
/- Small facts that all walks use. -/
namespace Go.Proofs.Ytcbpdjenncbbeaa
open Go.RowKit
open Go.ChangeMaps (setBlock)
theorem bcall {B : Nat} {w w2 w3 : World} (h : Below B w w2) (hB : B ≤ w.heap.size) (h3 : Below w2.heap.size w2 w3) : Below B w w3 := h.trans (h3.mono (Nat.le_trans hB h.size))
theorem wrapS {i n : Nat} (h : i < n) (hn : n ≤ maxLen) : wrap64 ((i : Int) + 1) = ((i + 1 : Nat) : Int) := by unfold maxLen at hn; unfold wrap64; omega
theorem mSucc {i n : Nat} (h : i < n) : n - (intOf (.int .i64 ((i + 1 : Nat) : Int))).toNat < n - (intOf (.int .i64 (i : Int))).toNat := by show n - ((i + 1 : Nat) : Int).toNat < n - (i : Int).toNat; omega
theorem wfI {n : Int} (h : -9223372036854775808 ≤ n ∧ n ≤ 9223372036854775807) : (Lit.int .i64 n).wf = true := by
  simp only [Lit.wf, IntKind.min, IntKind.max, IntKind.signed, IntKind.bits, Bool.and_eq_true, decide_eq_true_eq]; simpa using h
theorem wfU {n : Int} (h : 0 ≤ n ∧ n ≤ 4294967295) : (Lit.int .u32 n).wf = true := by
  simp only [Lit.wf, IntKind.min, IntKind.max, IntKind.signed, IntKind.bits, Bool.and_eq_true]; simpa using h
theorem setBlock_other {b i : Nat} {W : World} {o : Obj} (h : i ≠ b) : (setBlock W b o).heap[i]? = W.heap[i]? := by
  show (W.heap.setIfInBounds b o)[i]? = _; rw [Array.getElem?_setIfInBounds, if_neg (Ne.symm h)]
theorem size_setBlock (w : World) (b : Nat) (O : Obj) : (setBlock w b O).heap.size = w.heap.size := by simp [setBlock]
theorem below_put {w W : World} {b : Nat} (h : Below w.heap.size w W) (hb : w.heap.size ≤ b) (O : Obj) : Below w.heap.size w (setBlock W b O) := ((But.of_below h []).setBlock (.inl hb) O).below (Nat.le_refl _) (by simp)
theorem ret_vb {v : Value} {a b : Bool} (h : a = b) : Ending.returned (.tuple #[v, .bool a]) = .returned (.tuple #[v, .bool b]) := by rw [h]
theorem ret_nb {a b : Int} {x y : Bool} (h : a = b) (k : x = y) : Ending.returned (.tuple #[.int .i64 a, .bool x]) = .returned (.tuple #[.int .i64 b, .bool y]) := by rw [h, k]
def lenV : Value → Nat
  | .slice _ n _ => n
  | _ => 0
def seenN (w : World) (b : Nat) : Nat := match w.heap[b]? with
  | some (.mapIter _ _ seen _) => seen.size
  | _ => 0
theorem seenN_of {w : World} {b : Nat} {m : Option Nat} {c : Nat} {seen : Array Nat} {d : Nat} (h : w.heap[b]? = some (.mapIter m c seen d)) : seenN w b = seen.size := by unfold seenN; rw [h]
theorem filter_snoc {α : Type} (p : α → Bool) (l : List α) (x : α) : (l ++ [x]).filter p = if p x then l.filter p ++ [x] else l.filter p := by
  rw [List.filter_append, List.filter_cons]
  split <;> simp
end Go.Proofs.Ytcbpdjenncbbeaa
/- Small facts on lists; a class of worlds behind a name. -/
namespace Go.Proofs.Ytcbpdjenncbbeaa
open Go.RowKit
theorem getD_mem {α : Type} [Inhabited α] {M : List α} {i : Nat} (h : i < M.length) : M.getD i default ∈ M := by
  rw [List.getD_eq_getElem?_getD, List.getElem?_eq_getElem h]; exact List.getElem_mem _
def ExtS (w w' : World) : Prop := Below w.heap.size w w'
end Go.Proofs.Ytcbpdjenncbbeaa
