/- Mask, Make, Check, Bit. -/
import Derived.Test.YtadoflcomienoaaGreatRows
import Derived.Test.YtadoflcomienoaaGreatZaa
import Derived.Laws.BitsLemmas
import Derived.Maps.RangeRun
import Derived.Maps.Keyed
import Derived.Maps.Own
namespace Go.Proofs.YtadoflcomienoaaGreat
open Go.RowKit

def pfx (a : Nat) (n : Int) : Value := .agg #[.int .u32 a, .int .i64 n]
/-- a number of bits, within bounds -/
def cl (n : Int) : Nat := if n < 0 then 0 else if 32 < n then 32 else n.toNat
theorem cl_le (n : Int) : cl n ≤ 32 := by unfold cl; split; omega; split; omega; omega
def okP (a : Nat) (n : Int) : Bool := decide (0 ≤ n) && decide (n ≤ 32) && decide (cut a n.toNat = a)
theorem okP_iff {a : Nat} {n : Int} : okP a n = true ↔ 0 ≤ n ∧ n ≤ 32 ∧ cut a n.toNat = a := by simp [okP, and_assoc]
theorem u64_mask (n : Nat) (hn : n ≤ 32) : IntKind.u64.wrap (18446744073709551615 * 2 ^ (32 - n)) % 4294967296 = ((2 ^ 32 - 2 ^ (32 - n) : Nat) : Int) := by
  have : ∀ m, m < 33 → IntKind.u64.wrap (18446744073709551615 * 2 ^ m) % 4294967296 = ((2 ^ 32 - 2 ^ m : Nat) : Int) := by decide
  exact this (32 - n) (by omega)
theorem mask_any (n : Nat) (hn : n ≤ 32) (w : World) : Calls Tryz.prog 141 #[.int .i64 n] w fun e w' => e = .returned (.int .u32 ((2 ^ 32 - 2 ^ (32 - n) : Nat) : Int)) ∧ w' = w := by
  have h1 : ¬ ((n : Int) < 0) := by omega
  have h2 : ¬ ((32 : Int) < n) := by omega
  go_enter Tryz.func141, Tryz.ntmps141
  go_wp2_with fail
  go_ret
  exact ⟨ret_int (u64_mask n hn), rfl⟩
theorem and_cut (a n : Nat) (ha : a < 4294967296) (hn : n ≤ 32) : bits .and .u32 (a : Int) ((2 ^ 32 - 2 ^ (32 - n) : Nat) : Int) = ((cut a n : Nat) : Int) := by
  have hp := pow_pos2 (32 - n)
  have hm : 2 ^ (32 - n) ≤ 2 ^ 32 := Nat.pow_le_pow_right (by decide) (by omega)
  rw [(bits_nat .u32 32 (by decide) (fun n h0 h1 => by rw [IntKind.wrap_u32]; omega) a (2 ^ 32 - 2 ^ (32 - n)) ha (by omega)).1]
  congr 1
  apply Nat.eq_of_testBit_eq
  intro i
  have e : 2 ^ 32 - 2 ^ (32 - n) = 2 ^ 32 - ((2 ^ (32 - n) - 1) + 1) := by omega
  rw [Nat.testBit_and, e, Nat.testBit_two_pow_sub_succ (by omega), Nat.testBit_two_pow_sub_one]
  unfold cut
  rw [Nat.testBit_mul_two_pow, Nat.testBit_div_two_pow]
  by_cases h1 : 32 - n ≤ i
  · by_cases h2 : i < 32
    · simp [h1, h2, show ¬ i < 32 - n by omega]
    · have : a.testBit i = false := Nat.testBit_lt_two_pow (Nat.lt_of_lt_of_le ha (by
        have : 2 ^ 32 ≤ 2 ^ i := Nat.pow_le_pow_right (by decide) (by omega)
        omega))
      simp [h2, h1, this]
  · simp [show i < 32 - n by omega]; intro h; omega
theorem mask_ex (n : Nat) (hn : n ≤ 32) (a : Nat) (ha : a < 4294967296) : ∃ m : Int, (∀ w, Calls Tryz.prog 141 #[.int .i64 n] w fun e w' => e = .returned (.int .u32 m) ∧ w' = w) ∧ bits .and .u32 (a : Int) m = ((cut a n : Nat) : Int) :=
  ⟨_, fun w => mask_any n hn w, and_cut a n ha hn⟩
theorem make_any (a : Nat) (n : Int) (ha : a < 4294967296) (w : World) : Calls Tryz.prog 103 #[.int .u32 a, .int .i64 n] w fun e w' => e = .returned (pfx (cut a (cl n)) (cl n)) ∧ Below w.heap.size w w' := by
  have hle := cl_le n
  obtain ⟨m, hm, hb⟩ := mask_ex (cl n) hle a ha
  have HM := Lib.hid hm
  have HB := Lib.hid hb
  clear hm hb
  rcases Decidable.em (n < 0) with h | h
  · have e : cl n = 0 := by simp [cl, h]
    rw [e] at HM HB ⊢
    clear hle e
    go_enter Tryz.func103, Tryz.ntmps103
    go_wp2_with (go_at_call 141; refine (HM.out _).mono ?_; rintro e w1 ⟨rfl, rfl⟩)
    rw [HB.out]
    refine ret_cell rfl rfl rfl (hnew _ _) Tryz.underlying58 rfl (by kernel_rfl) ⟨rfl, (Below.refl _ _).alloc (Nat.le_refl _) _⟩
  · rcases Decidable.em (32 < n) with h2 | h2
    · have e : cl n = 32 := by simp [cl, h, h2]
      rw [e] at HM HB ⊢
      clear hle e
      go_enter Tryz.func103, Tryz.ntmps103
      go_wp2_with (go_at_call 141; refine (HM.out _).mono ?_; rintro e w1 ⟨rfl, rfl⟩)
      rw [HB.out]
      refine ret_cell rfl rfl rfl (hnew _ _) Tryz.underlying58 rfl (by kernel_rfl) ⟨rfl, (Below.refl _ _).alloc (Nat.le_refl _) _⟩
    · obtain ⟨k, rfl⟩ := Int.eq_ofNat_of_zero_le (show 0 ≤ n by omega)
      have e : cl k = k := by unfold cl; rw [if_neg h, if_neg h2]; exact Int.toNat_natCast k
      rw [e] at HM HB hle ⊢
      clear e
      have h1 : ¬ ((k : Int) < 0) := by omega
      go_enter Tryz.func103, Tryz.ntmps103
      go_wp2_with (go_at_call 141; refine (HM.out _).mono ?_; rintro e w1 ⟨rfl, rfl⟩)
      rw [HB.out]
      refine ret_cell rfl rfl rfl (hnew _ _) Tryz.underlying58 rfl (by kernel_rfl) ⟨rfl, (Below.refl _ _).alloc (Nat.le_refl _) _⟩
theorem bit_nat (a j : Nat) (ha : a < 4294967296) : bits .and .u32 ((a : Int) / 2 ^ j) 1 = if a.testBit j then 1 else 0 := by
  have h : ((a : Int) / 2 ^ j) = ((a / 2 ^ j : Nat) : Int) := by simp
  have hl : a / 2 ^ j < 2 ^ 32 := Nat.lt_of_le_of_lt (Nat.div_le_self _ _) ha
  rw [h]
  have := (bits_nat .u32 32 (by decide) (fun n h0 h1 => by rw [IntKind.wrap_u32]; omega) (a / 2 ^ j) 1 hl (by decide)).1
  rw [show ((1 : Nat) : Int) = 1 from rfl] at this
  rw [this, Nat.and_one_is_mod, Nat.testBit_eq_decide_div_mod_eq]
  rcases Nat.mod_two_eq_zero_or_one (a / 2 ^ j) with h0 | h0 <;> simp [h0]
theorem bit_any (a i : Nat) (ha : a < 4294967296) (w : World) : Calls Tryz.prog 151 #[.int .u32 a, .int .i64 i] w fun e w' => e = .returned (.int .i64 (if decide (i < 32) && a.testBit (31 - i) then 1 else 0)) ∧ w' = w := by
  have h1 : ¬ ((i : Int) < 0) := by omega
  have HB := Lib.hid (bit_nat a (31 - i) ha)
  by_cases hi : i < 32
  · have h2 : ¬ ((32 : Int) ≤ i) := by omega
    rw [show decide (i < 32) = true by simp [hi], Bool.true_and]
    have HV : Hid (wrap64 (if a.testBit (31 - i) = true then (1 : Int) else 0) = (if a.testBit (31 - i) = true then (1 : Int) else 0)) := Lib.hid (by by_cases h : a.testBit (31 - i) = true <;> simp [h, wrap64])
    generalize (if a.testBit (31 - i) = true then (1 : Int) else 0) = v at *
    go_enter Tryz.func151, Tryz.ntmps151
    go_wp2_with fail
    go_ret
    exact ⟨ret_int (by rw [HB.out]; exact HV.out), rfl⟩
  · have h2 : ((32 : Int) ≤ i) := by omega
    rw [show decide (i < 32) = false by simp [hi]]
    go_enter Tryz.func151, Tryz.ntmps151
    clear HB
    go_wp2_with fail
    go_ret
    exact ⟨rfl, rfl⟩
theorem okP_cl {a : Nat} {n : Int} : okP a n = true ↔ ((cut a (cl n) : Nat) : Int) = a ∧ ((cl n : Nat) : Int) = n := by
  rw [okP_iff]
  constructor
  · rintro ⟨h0, h1, h2⟩
    have e : cl n = n.toNat := by unfold cl; rw [if_neg (by omega), if_neg (by omega)]
    rw [e, h2]; exact ⟨rfl, by omega⟩
  · rintro ⟨h1, h2⟩
    have := cl_le n
    have e : n.toNat = cl n := by omega
    rw [e]; exact ⟨by omega, by omega, by omega⟩
theorem check_any (a : Nat) (n : Int) (ha : a < 4294967296) (w : World) : Calls Tryz.prog 54 #[pfx a n] w fun e w' => e = .returned (.int .i64 (if okP a n then 0 else 20)) ∧ Below w.heap.size w w' := by
  have HM := Lib.hid (make_any a n ha)
  have HK := Lib.hid (okP_cl (a := a) (n := n))
  clear ha
  generalize hv : (if okP a n = true then (0 : Int) else 20) = v
  have HV := Lib.hid hv
  clear hv
  unfold pfx at HM ⊢
  generalize hx : cut a (cl n) = x at HM HK
  generalize hm : cl n = m at HM HK
  clear hx hm
  go_enter Tryz.func54, Tryz.ntmps54
  go_wp2_with fail
  refine wp_region_quiet_tail (fun w' => Below (w.heap.size + 1) (w.alloc (.cells #[.int .u32 a, .int .i64 n] 58)) w') 6 (by kernel_rfl) (by kernel_rfl) (Below.drew (Below.refl _ _)) ?_
  simp only [List.take_succ_cons, List.take_zero, List.drop_succ_cons, List.drop_zero]
  iterate 5 (((with_reducible refine wpQuiet_step (fun K hK => ?_)); go_simp; first | ((with_reducible refine hK _ ?_); clear hK K) | (apply Exists.intro; refine ⟨fun w' hw' => ?_, hK _ ?_⟩; first | (go_at_call 103; (with_reducible refine (HM.out w').mono ?_); rintro e w2 ⟨rfl, hb⟩; exact ⟨rfl, hw'.trans (hb.mono (by have := hw'.size; simp at this; omega))⟩) | (have hc0 := fun j => Below.cell hw' (p := ⟨w.heap.size, j, none⟩) (by simp); go_simp; first | exact rfl | exact ⟨rfl, rfl⟩); clear hK K)))
  with_reducible refine wpQuiet_step (fun K hK => ?_)
  go_simp
  apply Exists.intro; refine ⟨fun w' hw' => ?_, hK _ ?_⟩
  · have hb : w'.heap[w.heap.size]? = some (.cells #[.int .u32 a, .int .i64 n] 58) := (hw'.block _ (by simp)).trans (hnew _ _)
    have c0 : w'.cell? ⟨w.heap.size, 0, none⟩ = some (.int .u32 a) := cell_of hb rfl
    have c1 : w'.cell? ⟨w.heap.size, 1, none⟩ = some (.int .i64 n) := cell_of hb rfl
    go_simp
    first | exact rfl | exact ⟨rfl, rfl⟩
  clear hK K
  refine wpQuiet_nil ?_
  intro wq hq
  have HQ := Lib.hid (((Below.refl w.heap.size w).alloc (Nat.le_refl _) _).trans (hq.mono (by omega)))
  clear HM hq
  go_wp2_with fail
  all_goals
    go_ret
    refine ⟨ret_int ?_, HQ.out⟩
    have h1 := HV.out
    have h2 := HK.out
    rw [← h1]
    simp_all
end Go.Proofs.YtadoflcomienoaaGreat
/- What a trie tells, of its things. -/
namespace Go.Proofs.YtadoflcomienoaaGreat
open Go.RowKit
section
variable {α : Type}
def look (M : Nat → Nat → Option α) (a : Nat) (l : Int) : Option α := if okP a l then M a l.toNat else none
end
theorem or_kid {x e : Nat} (h : Key x e) (he : e ≤ 31) : bits .or .u32 (x : Int) (2 ^ (31 - e) % 4294967296) = ((kid x e true : Nat) : Int) := by
  have hle : 2 ^ (31 - e) ≤ 2 ^ 31 := Nat.pow_le_pow_right (by decide) (by omega)
  have hlt := h.lt
  have hc : ((2 : Int) ^ (31 - e) % 4294967296) = ((2 ^ (31 - e) : Nat) : Int) := by
    rw [Int.emod_eq_of_lt]
    · simp
    · exact Int.pow_nonneg (by decide)
    · have : ((2 ^ (31 - e) : Nat) : Int) < 4294967296 := by omega
      simpa using this
  have hk := (h.kid he true).lt
  obtain ⟨q, e1, _⟩ := h.div
  have hmod : x % 2 ^ (32 - e) = 0 := by rw [e1]; exact Nat.mul_mod_left _ _
  rw [hc, bits_join .u32 32 (by decide) (fun n h0 h1 => by rw [IntKind.wrap_u32]; omega) (32 - e) x ((2 ^ (31 - e) : Nat) : Int) (by omega) (by exact_mod_cast hmod) (by exact_mod_cast hlt) (by omega) (by
    have : 2 ^ (31 - e) < 2 ^ (32 - e) := Nat.pow_lt_pow_right (by decide) (by omega)
    exact_mod_cast this) (by exact_mod_cast (by omega : 2 ^ (31 - e) < 4294967296))]
  simp [kid]
section
variable {P : Program} {a : Act} {w : World}
end
end Go.Proofs.YtadoflcomienoaaGreat
/- The reference's prefixes: bit, Make, Check. -/
namespace Go.Proofs.YtadoflcomienoaaGreat
open Go.RowKit

theorem rbit_nat (a j : Nat) (hj : j < 32) : ((a : Int) / (2 ^ j % 4294967296)) % 2 = if a.testBit j then 1 else 0 := by
  have h1 : ((2 : Int) ^ j % 4294967296) = ((2 ^ j : Nat) : Int) := by
    have : 2 ^ j < 2 ^ 32 := Nat.pow_lt_pow_right (by decide) hj
    rw [Int.emod_eq_of_lt]
    · exact (Int.natCast_pow 2 j).symm
    · exact Int.pow_nonneg (by decide)
    · have h5 : ((2 ^ j : Nat) : Int) < 4294967296 := by
        have h6 : 2 ^ j < 4294967296 := this
        omega
      exact h5
  rw [h1, Nat.testBit_eq_decide_div_mod_eq]
  have h2 : ((a : Int) / ((2 ^ j : Nat) : Int)) % 2 = ((a / 2 ^ j % 2 : Nat) : Int) := by simp
  rw [h2]
  rcases Nat.mod_two_eq_zero_or_one (a / 2 ^ j) with h0 | h0 <;> rw [h0] <;> decide
theorem rbit_any (a i : Nat) (hi : i < 32) (w : World) : Calls Tryz.prog 140 #[.int .u32 a, .int .i64 i] w fun e w' => e = .returned (.int .u32 (if a.testBit (31 - i) then 1 else 0)) ∧ w' = w := by
  have h1 : ¬ ((i : Int) < 0) := by omega
  have h2 : ¬ ((31 : Int) < i) := by omega
  have hw31 : IntKind.i64.wrap ((31 : Int) - i) = 31 - i := IntWalk.i64_in _ (by omega)
  have hn31 : ¬ ((31 : Int) - i < 0) := by omega
  have hp : ((2 : Int) ^ (31 - i) % 4294967296 = 0) = False := by
    have : 0 < 2 ^ (31 - i) := pow_pos2 _
    have h3 : 2 ^ (31 - i) < 2 ^ 32 := Nat.pow_lt_pow_right (by decide) (by omega)
    have h4 : ((2 : Int) ^ (31 - i)) = ((2 ^ (31 - i) : Nat) : Int) := by simp
    rw [h4]
    simp only [eq_iff_iff, iff_false]
    omega
  have HB := Lib.hid (rbit_nat a (31 - i) (by omega))
  generalize (if a.testBit (31 - i) = true then (1 : Int) else 0) = v at *
  go_enter Tryz.func140, Tryz.ntmps140
  go_wp2_with fail
  go_ret
  exact ⟨ret_int HB.out, rfl⟩
theorem cut_lt {a : Nat} (h : a < 4294967296) (n : Nat) : cut a n < 4294967296 := Nat.lt_of_le_of_lt (cut_le a n) h
set_option maxHeartbeats 1000000 in
theorem rmake_at (a m : Nat) (n : Int) (ha : a < 4294967296) (hm : m = cl n) (w : World) : Calls Tryz.prog 100 #[.int .u32 a, .int .i64 n] w fun e w' => e = .returned (pfx (cut a m) m) ∧ Below w.heap.size w w' := by
  have hm32 : m ≤ 32 := by rw [hm]; exact cl_le n
  have HA := Lib.hid ha
  have hcase : (n < 0 ∧ m = 0) ∨ (32 < n ∧ m = 32) ∨ (¬ n < 0 ∧ ¬ 32 < n ∧ n = m) := by
    unfold cl at hm
    rcases Decidable.em (n < 0) with h | h
    · rw [if_pos h] at hm; exact .inl ⟨h, hm⟩
    · rw [if_neg h] at hm
      rcases Decidable.em (32 < n) with h2 | h2
      · rw [if_pos h2] at hm; exact .inr (.inl ⟨h2, hm⟩)
      · rw [if_neg h2] at hm; exact .inr (.inr ⟨h, h2, by omega⟩)
  clear hm ha
  rcases hcase with ⟨h1, rfl⟩ | ⟨h1, rfl⟩ | ⟨h1, h2, rfl⟩
  · have hlt0 : (0 : Int) ≤ 0 := by omega
    go_enter Tryz.func100, Tryz.ntmps100
    go_wp2_with fail
    obtain ⟨w2, hw2⟩ : ∃ w2 : World, w2 = (w.alloc (.cells #[.int .u32 0, .int .i64 0] 58)).alloc (.cells #[.int .u32 0, .int .i64 0] 58) := ⟨_, rfl⟩
    have hb2 : Below w.heap.size w w2 := by rw [hw2]; exact ((Below.refl _ _).alloc (Nat.le_refl _) _).alloc (by simp) _
    have hc2 : w2.heap[w.heap.size + 1]? = some (.cells #[.int .u32 (cut a 0 : Nat), .int .i64 0] 58) := by rw [hw2, cut_0 HA.out]; exact hnewAt (by simp)
    have hr2 : w2.heap[w.heap.size]? = some (.cells #[.int .u32 0, .int .i64 0] 58) := by rw [hw2]; exact hold (hnew _ _)
    rw [← hw2]
    have H2 := Lib.hid (And.intro hb2 (And.intro hc2 hr2))
    clear hw2 hb2 hc2 hr2
    go_loopw [6] (fun iv wr => ∃ i : Nat, i ≤ 0 ∧ iv = .int .i64 i ∧ SetB w2 wr (w.heap.size + 1) (.cells #[.int .u32 (cut a i : Nat), .int .i64 0] 58)) (fun iv _ => 0 - (intOf iv).toNat)
    case atStart => exact ⟨0, Nat.zero_le _, rfl, SetB.self H2.out.2.1⟩
    case round =>
      obtain ⟨i, hi, rfl, hs⟩ := hrel
      have hcell := hs.at (lt_of_blk H2.out.2.1)
      have d0 : wr.cell? ⟨w.heap.size + 1, 0, none⟩ = some (.int .u32 (cut a i : Nat)) := cell_of hcell rfl
      have d1 : wr.cell? ⟨w.heap.size + 1, 1, none⟩ = some (.int .i64 0) := cell_of hcell rfl
      have e0 : wr.frozen? ⟨w.heap.size + 1, 0, none⟩ = false := free_of hcell
      have HS := Lib.hid hs
      by_cases hlt : (i : Int) < 0
      · exact absurd hlt (by omega)
      · obtain rfl : i = 0 := by omega
        have hrc := (hs.other (by omega)).trans H2.out.2.2
        have f0 : wr.cell? ⟨w.heap.size, 0, none⟩ = some (.int .u32 0) := cell_of hrc rfl
        have f1 : wr.cell? ⟨w.heap.size, 1, none⟩ = some (.int .i64 0) := cell_of hrc rfl
        have f2 : ∀ o, wr.frozen? ⟨w.heap.size, o, none⟩ = false := fun o => free_of hrc
        have HRC := Lib.hid hrc
        clear hs hcell hrc
        go_wp2_with fail
        have hst := ((SetB.self HRC.out).store (o := 0) (lt_of_blk HRC.out) (.int .u32 (cut a 0 : Nat))).store (o := 1) (lt_of_blk HRC.out) (.int .i64 0)
        exact ret_cell rfl rfl rfl (hst.at (lt_of_blk HRC.out)) Tryz.underlying58 rfl (by kernel_rfl) ⟨rfl, (H2.out.1.trans (HS.out.below (by omega))).trans (hst.below (Nat.le_refl _))⟩
  · have hlt0 : (0 : Int) ≤ 32 := by omega
    go_enter Tryz.func100, Tryz.ntmps100
    go_wp2_with fail
    obtain ⟨w2, hw2⟩ : ∃ w2 : World, w2 = (w.alloc (.cells #[.int .u32 0, .int .i64 0] 58)).alloc (.cells #[.int .u32 0, .int .i64 32] 58) := ⟨_, rfl⟩
    have hb2 : Below w.heap.size w w2 := by rw [hw2]; exact ((Below.refl _ _).alloc (Nat.le_refl _) _).alloc (by simp) _
    have hc2 : w2.heap[w.heap.size + 1]? = some (.cells #[.int .u32 (cut a 0 : Nat), .int .i64 32] 58) := by rw [hw2, cut_0 HA.out]; exact hnewAt (by simp)
    have hr2 : w2.heap[w.heap.size]? = some (.cells #[.int .u32 0, .int .i64 0] 58) := by rw [hw2]; exact hold (hnew _ _)
    rw [← hw2]
    have H2 := Lib.hid (And.intro hb2 (And.intro hc2 hr2))
    clear hw2 hb2 hc2 hr2
    go_loopw [6] (fun iv wr => ∃ i : Nat, i ≤ 32 ∧ iv = .int .i64 i ∧ SetB w2 wr (w.heap.size + 1) (.cells #[.int .u32 (cut a i : Nat), .int .i64 32] 58)) (fun iv _ => 32 - (intOf iv).toNat)
    case atStart => exact ⟨0, Nat.zero_le _, rfl, SetB.self H2.out.2.1⟩
    case round =>
      obtain ⟨i, hi, rfl, hs⟩ := hrel
      have hcell := hs.at (lt_of_blk H2.out.2.1)
      have d0 : wr.cell? ⟨w.heap.size + 1, 0, none⟩ = some (.int .u32 (cut a i : Nat)) := cell_of hcell rfl
      have d1 : wr.cell? ⟨w.heap.size + 1, 1, none⟩ = some (.int .i64 32) := cell_of hcell rfl
      have e0 : wr.frozen? ⟨w.heap.size + 1, 0, none⟩ = false := free_of hcell
      have HS := Lib.hid hs
      by_cases hlt : (i : Int) < 32
      · have hi31 : i ≤ 31 := by omega
        have hcs := cut_succ a hi31
        have hlt2 := cut_lt HA.out (i + 1)
        have HBit := Lib.hid (rbit_any a i (by omega))
        have h31 : ¬ ((31 : Int) < i) := by omega
        have hw31 : IntKind.i64.wrap ((31 : Int) - i) = 31 - i := IntWalk.i64_in _ (by omega)
        have hn31 : ¬ ((31 : Int) - i < 0) := by omega
        clear hs hcell
        cases hbit : a.testBit (31 - i)
        all_goals
          rw [hbit] at HBit hcs
          simp only [Bool.false_eq_true, if_false, if_true, Nat.add_zero] at HBit hcs
          have HCS := Lib.hid (And.intro hcs hlt2)
          clear hbit hcs hlt2
          go_wp2_with fail
          refine wp_region_quiet_tail (fun w' => w' = wr.drew) 10 (by kernel_rfl) (by kernel_rfl) rfl ?_
          simp only [List.take_succ_cons, List.take_zero, List.drop_succ_cons, List.drop_zero]
          iterate 10 (((with_reducible refine wpQuiet_step (fun K hK => ?_)); go_simp; first | ((with_reducible refine hK _ ?_); clear hK K) | (apply Exists.intro; refine ⟨?_, hK _ ?_⟩; (with_reducible refine (HBit.out _).mono ?_); rintro e w2 ⟨rfl, rfl⟩; exact ⟨rfl, rfl⟩; clear hK K)))
          refine wpQuiet_nil ?_
          rintro _ rfl
          clear HBit
          go_wp2_with fail
          obtain ⟨hcs, hlt2⟩ := HCS.out
          have hpow : ((2 : Int) ^ (31 - i)) = ((2 ^ (31 - i) : Nat) : Int) := (Int.natCast_pow 2 (31 - i)).symm
          first
            | exact ⟨⟨i + 1, by omega, by go_num, by
                have hst := (HS.out.store (o := 0) (lt_of_blk H2.out.2.1) (.int .u32 ((cut a i : Int) % 4294967296))).drew
                have hv : (cut a i : Int) % 4294967296 = ((cut a (i + 1) : Nat) : Int) := by omega
                rw [hv] at hst ⊢
                exact hst⟩, by simp [intOf]; omega⟩
            | exact ⟨⟨i + 1, by omega, by go_num, by
                have hst := (HS.out.store (o := 0) (lt_of_blk H2.out.2.1) (.int .u32 (((cut a i : Int) + 2 ^ (31 - i)) % 4294967296))).drew
                have hv : ((cut a i : Int) + 2 ^ (31 - i)) % 4294967296 = ((cut a (i + 1) : Nat) : Int) := by rw [hpow]; omega
                rw [hv] at hst ⊢
                exact hst⟩, by simp [intOf]; omega⟩
      · obtain rfl : i = 32 := by omega
        have hrc := (hs.other (by omega)).trans H2.out.2.2
        have f0 : wr.cell? ⟨w.heap.size, 0, none⟩ = some (.int .u32 0) := cell_of hrc rfl
        have f1 : wr.cell? ⟨w.heap.size, 1, none⟩ = some (.int .i64 0) := cell_of hrc rfl
        have f2 : ∀ o, wr.frozen? ⟨w.heap.size, o, none⟩ = false := fun o => free_of hrc
        have HRC := Lib.hid hrc
        clear hs hcell hrc
        go_wp2_with fail
        have hst := ((SetB.self HRC.out).store (o := 0) (lt_of_blk HRC.out) (.int .u32 (cut a 32 : Nat))).store (o := 1) (lt_of_blk HRC.out) (.int .i64 32)
        exact ret_cell rfl rfl rfl (hst.at (lt_of_blk HRC.out)) Tryz.underlying58 rfl (by kernel_rfl) ⟨rfl, (H2.out.1.trans (HS.out.below (by omega))).trans (hst.below (Nat.le_refl _))⟩
  · have hlt0 : (0 : Int) ≤ m := by omega
    go_enter Tryz.func100, Tryz.ntmps100
    go_wp2_with fail
    obtain ⟨w2, hw2⟩ : ∃ w2 : World, w2 = (w.alloc (.cells #[.int .u32 0, .int .i64 0] 58)).alloc (.cells #[.int .u32 0, .int .i64 m] 58) := ⟨_, rfl⟩
    have hb2 : Below w.heap.size w w2 := by rw [hw2]; exact ((Below.refl _ _).alloc (Nat.le_refl _) _).alloc (by simp) _
    have hc2 : w2.heap[w.heap.size + 1]? = some (.cells #[.int .u32 (cut a 0 : Nat), .int .i64 m] 58) := by rw [hw2, cut_0 HA.out]; exact hnewAt (by simp)
    have hr2 : w2.heap[w.heap.size]? = some (.cells #[.int .u32 0, .int .i64 0] 58) := by rw [hw2]; exact hold (hnew _ _)
    rw [← hw2]
    have H2 := Lib.hid (And.intro hb2 (And.intro hc2 hr2))
    clear hw2 hb2 hc2 hr2
    go_loopw [6] (fun iv wr => ∃ i : Nat, i ≤ m ∧ iv = .int .i64 i ∧ SetB w2 wr (w.heap.size + 1) (.cells #[.int .u32 (cut a i : Nat), .int .i64 m] 58)) (fun iv _ => m - (intOf iv).toNat)
    case atStart => exact ⟨0, Nat.zero_le _, rfl, SetB.self H2.out.2.1⟩
    case round =>
      obtain ⟨i, hi, rfl, hs⟩ := hrel
      have hcell := hs.at (lt_of_blk H2.out.2.1)
      have d0 : wr.cell? ⟨w.heap.size + 1, 0, none⟩ = some (.int .u32 (cut a i : Nat)) := cell_of hcell rfl
      have d1 : wr.cell? ⟨w.heap.size + 1, 1, none⟩ = some (.int .i64 m) := cell_of hcell rfl
      have e0 : wr.frozen? ⟨w.heap.size + 1, 0, none⟩ = false := free_of hcell
      have HS := Lib.hid hs
      by_cases hlt : (i : Int) < m
      · have hi31 : i ≤ 31 := by omega
        have hcs := cut_succ a hi31
        have hlt2 := cut_lt HA.out (i + 1)
        have HBit := Lib.hid (rbit_any a i (by omega))
        have h31 : ¬ ((31 : Int) < i) := by omega
        have hw31 : IntKind.i64.wrap ((31 : Int) - i) = 31 - i := IntWalk.i64_in _ (by omega)
        have hn31 : ¬ ((31 : Int) - i < 0) := by omega
        clear hs hcell
        cases hbit : a.testBit (31 - i)
        all_goals
          rw [hbit] at HBit hcs
          simp only [Bool.false_eq_true, if_false, if_true, Nat.add_zero] at HBit hcs
          have HCS := Lib.hid (And.intro hcs hlt2)
          clear hbit hcs hlt2
          go_wp2_with fail
          refine wp_region_quiet_tail (fun w' => w' = wr.drew) 10 (by kernel_rfl) (by kernel_rfl) rfl ?_
          simp only [List.take_succ_cons, List.take_zero, List.drop_succ_cons, List.drop_zero]
          iterate 10 (((with_reducible refine wpQuiet_step (fun K hK => ?_)); go_simp; first | ((with_reducible refine hK _ ?_); clear hK K) | (apply Exists.intro; refine ⟨?_, hK _ ?_⟩; (with_reducible refine (HBit.out _).mono ?_); rintro e w2 ⟨rfl, rfl⟩; exact ⟨rfl, rfl⟩; clear hK K)))
          refine wpQuiet_nil ?_
          rintro _ rfl
          clear HBit
          go_wp2_with fail
          obtain ⟨hcs, hlt2⟩ := HCS.out
          have hpow : ((2 : Int) ^ (31 - i)) = ((2 ^ (31 - i) : Nat) : Int) := (Int.natCast_pow 2 (31 - i)).symm
          first
            | exact ⟨⟨i + 1, by omega, by go_num, by
                have hst := (HS.out.store (o := 0) (lt_of_blk H2.out.2.1) (.int .u32 ((cut a i : Int) % 4294967296))).drew
                have hv : (cut a i : Int) % 4294967296 = ((cut a (i + 1) : Nat) : Int) := by omega
                rw [hv] at hst ⊢
                exact hst⟩, by simp [intOf]; omega⟩
            | exact ⟨⟨i + 1, by omega, by go_num, by
                have hst := (HS.out.store (o := 0) (lt_of_blk H2.out.2.1) (.int .u32 (((cut a i : Int) + 2 ^ (31 - i)) % 4294967296))).drew
                have hv : ((cut a i : Int) + 2 ^ (31 - i)) % 4294967296 = ((cut a (i + 1) : Nat) : Int) := by rw [hpow]; omega
                rw [hv] at hst ⊢
                exact hst⟩, by simp [intOf]; omega⟩
      · obtain rfl : i = m := by omega
        have hrc := (hs.other (by omega)).trans H2.out.2.2
        have f0 : wr.cell? ⟨w.heap.size, 0, none⟩ = some (.int .u32 0) := cell_of hrc rfl
        have f1 : wr.cell? ⟨w.heap.size, 1, none⟩ = some (.int .i64 0) := cell_of hrc rfl
        have f2 : ∀ o, wr.frozen? ⟨w.heap.size, o, none⟩ = false := fun o => free_of hrc
        have HRC := Lib.hid hrc
        clear hs hcell hrc
        go_wp2_with fail
        have hst := ((SetB.self HRC.out).store (o := 0) (lt_of_blk HRC.out) (.int .u32 (cut a i : Nat))).store (o := 1) (lt_of_blk HRC.out) (.int .i64 i)
        exact ret_cell rfl rfl rfl (hst.at (lt_of_blk HRC.out)) Tryz.underlying58 rfl (by kernel_rfl) ⟨rfl, (H2.out.1.trans (HS.out.below (by omega))).trans (hst.below (Nat.le_refl _))⟩
end Go.Proofs.YtadoflcomienoaaGreat
/- The reference's prefixes: Check, Holds, Within, Compare. -/
namespace Go.Proofs.YtadoflcomienoaaGreat
open Go.RowKit

theorem rcheck_any (a : Nat) (n : Int) (ha : a < 4294967296) (w : World) : Calls Tryz.prog 51 #[pfx a n] w fun e w' => e = .returned (.bool (okP a n)) ∧ Below w.heap.size w w' := by
  have HM := Lib.hid (fun w' => rmake_at a (cl n) n ha rfl w')
  have HK := Lib.hid (okP_cl (a := a) (n := n))
  have HO := Lib.hid (okP_iff (a := a) (n := n))
  have hmn : 0 ≤ n → n ≤ 32 → ((cl n : Nat) : Int) = n := fun h0 h1 => by unfold cl; rw [if_neg (by omega), if_neg (by omega)]; omega
  clear ha
  generalize hv : okP a n = v
  rw [hv] at HK HO
  clear hv
  unfold pfx at HM ⊢
  generalize hx : cut a (cl n) = x at HM HK
  generalize hm : cl n = m at HM HK hmn
  clear hx hm
  have hcase : ((0 ≤ n) = False ∧ v = false) ∨ ((0 ≤ n) = True ∧ (n ≤ 32) = False ∧ v = false) ∨ ((0 ≤ n) = True ∧ (n ≤ 32) = True ∧ ((m : Int) = n) = True ∧ ((x : Int) = a) = True ∧ v = true) ∨ ((0 ≤ n) = True ∧ (n ≤ 32) = True ∧ ((m : Int) = n) = True ∧ ((x : Int) = a) = False ∧ v = false) := by
    have h3 := HK.out
    have h4 := HO.out
    by_cases h1 : 0 ≤ n <;> by_cases h2 : n ≤ 32 <;> by_cases h5 : (x : Int) = a <;> cases v <;> simp_all
  clear HK HO hmn
  rcases hcase with ⟨h1, rfl⟩ | ⟨h1, h2, rfl⟩ | ⟨h1, h2, h3, h4, rfl⟩ | ⟨h1, h2, h3, h4, rfl⟩
  all_goals
    go_enter Tryz.func51, Tryz.ntmps51
    go_wp2_with fail
    refine wp_region_quiet_tail (fun w' => Below (w.heap.size + 1) (w.alloc (.cells #[.int .u32 a, .int .i64 n] 58)) w') 17 (by kernel_rfl) (by kernel_rfl) (Below.drew (Below.refl _ _)) ?_
    simp only [List.take_succ_cons, List.take_zero, List.drop_succ_cons, List.drop_zero]
    iterate 17 ((with_reducible refine wpQuiet_step (fun K hK => ?_)); go_simp; first | ((with_reducible refine hK _ ?_); clear hK K) | (apply Exists.intro; (with_reducible refine ⟨fun w' hw' => ?_, hK _ ?_⟩); first | (go_at_call 100; (with_reducible refine (HM.out w').mono ?_); rintro e w2 ⟨rfl, hb⟩; exact ⟨rfl, hw'.trans (hb.mono (by have := hw'.size; simp at this; omega))⟩) | (have hb := (hw'.block w.heap.size (by simp)).trans (hnew _ _); have c0 : w'.cell? ⟨w.heap.size, 0, none⟩ = some (.int .u32 a) := cell_of hb rfl; have c1 : w'.cell? ⟨w.heap.size, 1, none⟩ = some (.int .i64 n) := cell_of hb rfl; clear hb; go_simp; first | exact rfl | exact ⟨rfl, rfl⟩); clear hK K))
    with_reducible refine wpQuiet_nil ?_
    intro wq hq
    have HQ := Lib.hid (((Below.refl w.heap.size w).alloc (Nat.le_refl _) _).trans (hq.mono (by omega)))
    clear HM hq
    go_wp2_with fail
    go_ret
    exact ⟨rfl, HQ.out⟩
def inP (a : Nat) (n : Int) (b : Nat) (m : Int) : Bool := okP a n && okP b m && decide (n ≤ m) && decide (cut b n.toNat = a)
def cmpP (a : Nat) (n : Int) (b : Nat) (m : Int) : Int := if a < b ∨ (a = b ∧ n < m) then -1 else if a = b ∧ n = m then 0 else 1
theorem rcompare_any (a : Nat) (n : Int) (b : Nat) (m : Int) (w : World) : Calls Tryz.prog 65 #[pfx a n, pfx b m] w fun e w' => e = .returned (.int .i64 (cmpP a n b m)) ∧ Below w.heap.size w w' := by
  have hb0 := Lib.hid (((Below.refl w.heap.size w).alloc (Nat.le_refl _) (.cells #[.int .u32 a, .int .i64 n] 58)).alloc (by simp) (.cells #[.int .u32 b, .int .i64 m] 58))
  have hcase : (((a : Int) < b) = True ∧ cmpP a n b m = -1) ∨ (((a : Int) < b) = False ∧ ((a : Int) = b) = False ∧ cmpP a n b m = 1) ∨ (((a : Int) < b) = False ∧ ((a : Int) = b) = True ∧ (n < m) = True ∧ cmpP a n b m = -1) ∨ (((a : Int) < b) = False ∧ ((a : Int) = b) = True ∧ (n < m) = False ∧ (n = m) = True ∧ cmpP a n b m = 0) ∨ (((a : Int) < b) = False ∧ ((a : Int) = b) = True ∧ (n < m) = False ∧ (n = m) = False ∧ cmpP a n b m = 1) := by
    unfold cmpP
    by_cases h1 : a < b
    · exact .inl ⟨by simp; omega, by simp [h1]⟩
    · by_cases h2 : a = b
      · by_cases h3 : n < m
        · exact .inr (.inr (.inl ⟨by simp; omega, by simp [h2], by simp [h3], by simp [h2, h3]⟩))
        · by_cases h4 : n = m
          · exact .inr (.inr (.inr (.inl ⟨by simp; omega, by simp [h2], by simp [h3], by simp [h4], by simp [h2, h4]⟩)))
          · exact .inr (.inr (.inr (.inr ⟨by simp; omega, by simp [h2], by simp [h3], by simp [h4], by simp [h2, h3, h4]⟩)))
      · exact .inr (.inl ⟨by simp; omega, by simp; omega, by simp [h1, h2]⟩)
  unfold pfx
  generalize cmpP a n b m = v at hcase ⊢
  have hbeq : ((a : Int) == (b : Int)) = decide ((a : Int) = b) := by rw [Bool.eq_iff_iff]; simp
  rcases hcase with ⟨h1, rfl⟩ | ⟨h1, h2, rfl⟩ | ⟨h1, h2, h3, rfl⟩ | ⟨h1, h2, h3, h4, rfl⟩ | ⟨h1, h2, h3, h4, rfl⟩
  all_goals
    (try simp only [h2, decide_true, decide_false] at hbeq)
    go_enter Tryz.func65, Tryz.ntmps65
    go_wp2_with fail
    go_ret
    exact ⟨rfl, hb0.out⟩
end Go.Proofs.YtadoflcomienoaaGreat
/- Maps, as lists of entries: look-up, store, delete, length, and the steps of a range. -/
namespace Go.Proofs.YtadoflcomienoaaGreat.MR
open Go.Maps Go.MapKept
open Go.ChangeMaps (setBlock)

/-- how keys are written in memory -/
structure Enc (P : Program) (K : TypeId) (κ : Type) where
  enc : κ → Value
  ok : κ → Prop
  law : Keyed P K
  reads : ∀ k, ok k → ∃ l, keyOf P K (enc k) = some l
  inj : ∀ a b, enc a = enc b → a = b

abbrev Ent (κ : Type) := κ × Value × Nat
def ents {κ : Type} (enc : κ → Value) (l : List (Ent κ)) : List MapEntry := l.map fun e => ⟨enc e.1, e.2.1, e.2.2⟩

section
variable {P : Program} {K : TypeId} {κ : Type} (N : Enc P K κ)

structure MapAt (w : World) (b : Nat) (l : List (Ent κ)) (clock : Nat) : Prop where
  blk : w.heap[b]? = some (.map (ents N.enc l).toArray clock)
  ok : ∀ e ∈ l, N.ok e.1
  nodup : (l.map (·.1)).Nodup
  born : ∀ e ∈ l, e.2.2 < clock
  bnodup : (l.map (·.2.2)).Nodup

theorem find_cases {w w' : World} {b clock : Nat} {l : List (Ent κ)} (h : MapAt N w b l clock) {x : κ} (hx : N.ok x) :
    ((Instr.findKey K (N.enc x) (ents N.enc l)).run P w' = .ok none w' ∧ x ∉ l.map (·.1)) ∨
    ∃ j v bn, (Instr.findKey K (N.enc x) (ents N.enc l)).run P w' = .ok (some (j, v)) w' ∧ l[j]? = some (x, v, bn) := by
  obtain ⟨lx, hlx⟩ := N.reads x hx
  have hr : ∀ e ∈ ents N.enc l, ∃ l', keyOf P K e.key = some l' := by
    intro e he
    obtain ⟨y, hy, rfl⟩ := List.mem_map.1 he
    exact N.reads _ (h.ok y hy)
  rcases N.law.find w' hlx (ents N.enc l) hr with ⟨h1, h2⟩ | ⟨j, e, h1, h2, h3⟩
  · left
    refine ⟨h1, fun hm => ?_⟩
    obtain ⟨y, hy, rfl⟩ := List.mem_map.1 hm
    exact h2 ⟨N.enc y.1, y.2.1, y.2.2⟩ (List.mem_map.2 ⟨y, hy, rfl⟩) rfl
  · right
    simp only [ents, List.getElem?_map, Option.map_eq_some_iff] at h2
    obtain ⟨⟨yk, yv, yb⟩, hy, rfl⟩ := h2
    obtain rfl : yk = x := N.inj _ _ h3
    exact ⟨j, yv, yb, h1, hy⟩

theorem run_len {w : World} {b clock : Nat} {l : List (Ent κ)} (h : MapAt N w b l clock) {T E : TypeId} (ht : P.underlying T = some (.map K E)) (ty : TypeId) :
    (Builtin.len_ #[T] ty #[.map (some b)]).run P w = .ok (.int .i64 l.length) w := by
  unfold Builtin.len_
  simp [run_underlying ht, Result.andThen, getObj, Sem.run, h.blk, goInt, ents]

theorem MapAt.blk_iff {w w' : World} {b clock : Nat} {l : List (Ent κ)} (h : MapAt N w b l clock) (e : w'.heap[b]? = w.heap[b]?) : MapAt N w' b l clock := ⟨e.trans h.blk, h.ok, h.nodup, h.born, h.bnodup⟩
theorem mapAt_made {w : World} {b : Nat} (h : w.heap[b]? = some (.map #[] 0)) : MapAt N w b [] 0 := ⟨h, by simp, by simp, by simp, by simp⟩
section
variable [DecidableEq κ]
def get? (l : List (Ent κ)) (x : κ) : Option Value := (l.find? (fun e => decide (e.1 = x))).map (·.2.1)
def put (l : List (Ent κ)) (x : κ) (v : Value) (clock : Nat) : List (Ent κ) :=
  if x ∈ l.map (·.1) then l.map (fun e => if e.1 = x then (x, v, e.2.2) else e) else l ++ [(x, v, clock)]
def clock' (l : List (Ent κ)) (x : κ) (clock : Nat) : Nat := if x ∈ l.map (·.1) then clock else clock + 1
def del (l : List (Ent κ)) (x : κ) : List (Ent κ) := l.filter (fun e => decide (e.1 ≠ x))

theorem get?_none {l : List (Ent κ)} {x : κ} (h : x ∉ l.map (·.1)) : get? l x = none := by
  unfold get?
  rw [List.find?_eq_none.2]
  · rfl
  · intro e he
    simp only [decide_eq_true_eq]
    rintro rfl
    exact h (List.mem_map.2 ⟨e, he, rfl⟩)
theorem get?_mem {l : List (Ent κ)} (hn : (l.map (·.1)).Nodup) {e : Ent κ} (he : e ∈ l) : get? l e.1 = some e.2.1 := by
  induction l with
  | nil => cases he
  | cons y r ih =>
    simp only [List.map_cons, List.nodup_cons] at hn
    unfold get?
    rw [List.find?_cons]
    rcases List.mem_cons.1 he with rfl | he'
    · simp
    · have hne : y.1 ≠ e.1 := fun h => hn.1 (List.mem_map.2 ⟨e, he', h.symm⟩)
      simp only [hne, decide_false]
      exact ih hn.2 he'
theorem mem_of_get? {l : List (Ent κ)} {x : κ} {v : Value} (h : get? l x = some v) : ∃ e ∈ l, e.1 = x ∧ e.2.1 = v := by
  unfold get? at h
  simp only [Option.map_eq_some_iff] at h
  obtain ⟨e, he, rfl⟩ := h
  have h1 := List.find?_some he
  exact ⟨e, List.mem_of_find?_eq_some he, by simpa using h1, rfl⟩

theorem get?_put (l : List (Ent κ)) (x y : κ) (v : Value) (c : Nat) : get? (put l x v c) y = if y = x then some v else get? l y := by
  unfold put
  split
  · rename_i hx
    clear c
    induction l with
    | nil => simp at hx
    | cons e r ih =>
      unfold get?
      simp only [List.map_cons, List.find?_cons]
      by_cases he : e.1 = x
      · by_cases hy : y = x
        · subst hy; simp [he]
        · have : ¬ (x = y) := fun h => hy h.symm
          have hey : ¬ (e.1 = y) := by rw [he]; exact this
          simp only [he, if_true, this, decide_false, hy, if_false]
          by_cases hxr : x ∈ r.map (·.1)
          · have := ih hxr
            unfold get? at this
            rw [this, if_neg hy]
          · have : r.map (fun e => if e.1 = x then (x, v, e.2.2) else e) = r := by
              conv => rhs; rw [← List.map_id r]
              refine List.map_congr_left fun e' he' => ?_
              rw [if_neg]
              · rfl
              · rintro rfl; exact hxr (List.mem_map.2 ⟨e', he', rfl⟩)
            rw [this]
      · simp only [he, if_false]
        have hxr : x ∈ r.map (·.1) := by
          simp only [List.map_cons, List.mem_cons] at hx
          rcases hx with h | h
          · exact absurd h.symm he
          · exact h
        have ih' := ih hxr
        unfold get? at ih'
        by_cases hey : e.1 = y
        · have : y ≠ x := by rintro rfl; exact he hey
          simp [hey, this]
        · simp only [hey, decide_false]
          exact ih'
  · rename_i hx
    unfold get?
    rw [List.find?_append]
    by_cases hy : y = x
    · subst hy
      have := get?_none hx
      unfold get? at this
      simp only [Option.map_eq_none_iff] at this
      simp [this]
    · have : ¬ (x = y) := fun h => hy h.symm
      simp [hy, this]

theorem get?_del (l : List (Ent κ)) (x y : κ) : get? (del l x) y = if y = x then none else get? l y := by
  unfold del get?
  rw [List.find?_filter]
  by_cases hy : y = x
  · subst hy
    rw [if_pos rfl, List.find?_eq_none.2]
    · rfl
    · intro e he; simp
  · rw [if_neg hy]
    congr 2
    funext e
    by_cases h : e.1 = y
    · have : ¬ (e.1 = x) := by rw [h]; exact hy
      simp [h, hy]
    · simp [h]

theorem run_lookup {w : World} {b clock : Nat} {l : List (Ent κ)} (h : MapAt N w b l clock) {x : κ} (hx : N.ok x) {T E : TypeId} (ht : P.underlying T = some (.map K E)) {z : Value} (hz : ∀ w, (zeroValue E).run P w = .ok z w) (ok : Bool) :
    (Instr.lookup T (.map (some b)) (N.enc x) ok).run P w = .ok (if ok then .tuple #[(get? l x).getD z, .bool (get? l x).isSome] else (get? l x).getD z) w := by
  obtain ⟨lx, hlx⟩ := N.reads x hx
  unfold Instr.lookup
  simp only [Sem.run_bind, run_underlying ht, Result.andThen, getObj, Sem.run, h.blk, N.law.check w _ hlx, Sem.run_pure]
  rcases find_cases N h (w' := w) hx with ⟨h1, h2⟩ | ⟨j, v, bn, h1, h2⟩
  · simp only [h1, Sem.run_bind, Result.andThen, hz, Sem.run_pure, get?_none h2]
    cases ok <;> rfl
  · have hm : (x, v, bn) ∈ l := List.mem_of_getElem? h2
    have := get?_mem h.nodup hm
    simp only [h1, this]
    cases ok <;> rfl

theorem setBlock_heap (w : World) (b : Nat) (o : Obj) (hb : b < w.heap.size) : (setBlock w b o).heap[b]? = some o := by
  simp [setBlock, hb]

theorem ents_put_old (enc : κ → Value) (_inj : ∀ a b, enc a = enc b → a = b) {l : List (Ent κ)} (hn : (l.map (·.1)).Nodup) {j : Nat} {x : κ} {u v : Value} {bn : Nat} (hj : l[j]? = some (x, u, bn)) :
    (ents enc l).toArray.modify j (fun e => { e with key := enc x, val := v }) = (ents enc (l.map fun e => if e.1 = x then (x, v, e.2.2) else e)).toArray := by
  apply Array.ext_getElem?
  intro i
  simp only [Array.getElem?_modify, List.getElem?_toArray, ents, List.getElem?_map]
  by_cases hij : j = i
  · subst hij
    simp [hj]
  · rw [if_neg hij]
    cases hi : l[i]? with
    | none => rfl
    | some e =>
      have hne : ¬ (e.1 = x) := by
        rintro rfl
        have hi' := List.getElem?_eq_some_iff.1 hi
        have hj' := List.getElem?_eq_some_iff.1 hj
        obtain ⟨a1, a2⟩ := hi'
        obtain ⟨b1, b2⟩ := hj'
        have h1 : (l.map (·.1))[i]'(by simpa using a1) = (l.map (·.1))[j]'(by simpa using b1) := by simp [a2, b2]
        exact hij ((List.getElem_inj hn).1 h1.symm)
      simp [hne]

theorem mapAt_put {w' : World} {b clock : Nat} {l : List (Ent κ)} {w : World} (h : MapAt N w b l clock) {x : κ} (hx : N.ok x) (v : Value) (hw : w'.heap[b]? = some (.map (ents N.enc (put l x v clock)).toArray (clock' l x clock))) : MapAt N w' b (put l x v clock) (clock' l x clock) := by
  refine ⟨hw, ?_, ?_, ?_, ?_⟩
  all_goals unfold put
  all_goals try unfold clock'
  all_goals split
  · intro e he
    obtain ⟨y, hy, rfl⟩ := List.mem_map.1 he
    split
    · exact hx
    · exact h.ok y hy
  · intro e he
    rcases List.mem_append.1 he with he | he
    · exact h.ok e he
    · simp at he; subst he; exact hx
  · have : (l.map fun e => if e.1 = x then (x, v, e.2.2) else e).map (·.1) = l.map (·.1) := by
      rw [List.map_map]
      refine List.map_congr_left fun e _ => ?_
      simp only [Function.comp]
      split
      · rename_i h'; exact h'.symm
      · rfl
    rw [this]; exact h.nodup
  · rename_i hni
    rw [List.map_append, List.nodup_append]
    refine ⟨h.nodup, by simp, ?_⟩
    intro a ha c hc
    simp at hc
    subst hc
    rintro rfl
    exact hni ha
  · intro e he
    obtain ⟨y, hy, rfl⟩ := List.mem_map.1 he
    have := h.born y hy
    split <;> exact this
  · intro e he
    rcases List.mem_append.1 he with he | he
    · have := h.born e he; omega
    · simp at he; subst he; simp
  · have : (l.map fun e => if e.1 = x then (x, v, e.2.2) else e).map (·.2.2) = l.map (·.2.2) := by
      rw [List.map_map]
      refine List.map_congr_left fun e _ => ?_
      simp only [Function.comp]
      split <;> rfl
    rw [this]; exact h.bnodup
  · rw [List.map_append, List.nodup_append]
    refine ⟨h.bnodup, by simp, ?_⟩
    intro a ha c hc
    simp at hc
    subst hc
    obtain ⟨y, hy, rfl⟩ := List.mem_map.1 ha
    have := h.born y hy
    omega

theorem run_update {w : World} {b clock : Nat} {l : List (Ent κ)} (h : MapAt N w b l clock) {x : κ} (hx : N.ok x) {T E : TypeId} (ht : P.underlying T = some (.map K E)) (v : Value) :
    (Instr.mapUpdate T (.map (some b)) (N.enc x) v).run P w = .ok () (setBlock w b (.map (ents N.enc (put l x v clock)).toArray (clock' l x clock))) ∧
    MapAt N (setBlock w b (.map (ents N.enc (put l x v clock)).toArray (clock' l x clock))) b (put l x v clock) (clock' l x clock) := by
  have hlt : b < w.heap.size := by
    rcases Nat.lt_or_ge b w.heap.size with h' | h'
    · exact h'
    · have := h.blk; rw [Array.getElem?_eq_none h'] at this; cases this
  refine ⟨?_, mapAt_put N h hx v (setBlock_heap _ _ _ hlt)⟩
  obtain ⟨lx, hlx⟩ := N.reads x hx
  unfold Instr.mapUpdate
  simp only [Sem.run_bind, run_underlying ht, Result.andThen, getObj, Sem.run, h.blk, N.law.check w _ hlx]
  have hset : ∀ o : Obj, (setObj b o).run P w = .ok () (setBlock w b o) := by
    intro o; simp [setObj, Sem.run, h.blk, setBlock]
  rcases find_cases N h (w' := w) hx with ⟨h1, h2⟩ | ⟨j, u, bn, h1, h2⟩
  · simp only [h1, hset]
    unfold put clock'
    rw [if_neg h2, if_neg h2]
    simp [ents]
  · have hm : x ∈ l.map (·.1) := List.mem_map.2 ⟨_, List.mem_of_getElem? h2, rfl⟩
    have hk : ((((ents N.enc l).toArray[j]?).map (·.key)).getD (N.enc x)) = N.enc x := by simp [ents, h2]
    simp only [h1, Sem.run_bind, hk, N.law.stays w hlx, Result.andThen, hset]
    unfold put clock'
    rw [if_pos hm, if_pos hm, ents_put_old N.enc N.inj h.nodup h2]

theorem ents_del (_enc : κ → Value) {l : List (Ent κ)} (hn : (l.map (·.1)).Nodup) {j : Nat} {x : κ} {u : Value} {bn : Nat} (hj : l[j]? = some (x, u, bn)) :
    l.eraseIdx j = del l x := by
  induction l generalizing j with
  | nil => simp at hj
  | cons y r ih =>
    simp only [List.map_cons, List.nodup_cons] at hn
    cases j with
    | zero =>
      simp at hj
      subst hj
      simp only [List.eraseIdx_zero, List.tail_cons, del, List.filter_cons]
      simp only [ne_eq, not_true_eq_false, decide_false, Bool.false_eq_true, if_false]
      symm
      rw [List.filter_eq_self]
      intro e he
      simp only [decide_eq_true_eq]
      rintro rfl
      exact hn.1 (List.mem_map.2 ⟨e, he, rfl⟩)
    | succ j =>
      simp at hj
      have hne : y.1 ≠ x := by
        rintro rfl
        exact hn.1 (List.mem_map.2 ⟨_, List.mem_of_getElem? hj, rfl⟩)
      simp only [List.eraseIdx_cons_succ, del, List.filter_cons]
      simp only [ne_eq, hne, not_false_eq_true, decide_true, if_true]
      rw [ih hn.2 hj]
      rfl

theorem mapAt_del {w w' : World} {b clock : Nat} {l : List (Ent κ)} (h : MapAt N w b l clock) (x : κ) (hw : w'.heap[b]? = some (.map (ents N.enc (del l x)).toArray clock)) : MapAt N w' b (del l x) clock :=
  ⟨hw, fun e he => h.ok e (List.mem_filter.1 he).1, (List.filter_sublist.map _).nodup h.nodup, fun e he => h.born e (List.mem_filter.1 he).1, (List.filter_sublist.map _).nodup h.bnodup⟩

theorem del_none {l : List (Ent κ)} {x : κ} (h : x ∉ l.map (·.1)) : del l x = l := by
  unfold del
  rw [List.filter_eq_self]
  intro e he
  simp only [decide_eq_true_eq]
  rintro rfl
  exact h (List.mem_map.2 ⟨e, he, rfl⟩)

theorem run_delete {w : World} {b clock : Nat} {l : List (Ent κ)} (h : MapAt N w b l clock) {x : κ} (hx : N.ok x) {T E K' : TypeId} (ht : P.underlying T = some (.map K E)) (ty : TypeId) :
    (Builtin.delete_ #[T, K'] ty #[.map (some b), N.enc x]).run P w = .ok (.tuple #[]) (setBlock w b (.map (ents N.enc (del l x)).toArray clock)) ∧
    MapAt N (setBlock w b (.map (ents N.enc (del l x)).toArray clock)) b (del l x) clock := by
  have hlt : b < w.heap.size := by
    rcases Nat.lt_or_ge b w.heap.size with h' | h'
    · exact h'
    · have := h.blk; rw [Array.getElem?_eq_none h'] at this; cases this
  refine ⟨?_, mapAt_del N h x (setBlock_heap _ _ _ hlt)⟩
  obtain ⟨lx, hlx⟩ := N.reads x hx
  have hset : ∀ o : Obj, (setObj b o).run P w = .ok () (setBlock w b o) := by
    intro o; simp [setObj, Sem.run, h.blk, setBlock]
  unfold Builtin.delete_
  simp only [Sem.run_bind, run_underlying ht, Result.andThen, getObj, Sem.run, h.blk, N.law.check w _ hlx, List.getElem?_toArray, List.getElem?_cons_zero, List.getElem?_cons_succ]
  rcases find_cases N h (w' := w) hx with ⟨h1, h2⟩ | ⟨j, u, bn, h1, h2⟩
  · simp only [h1, Sem.run_bind, Result.andThen, hset, del_none h2, Sem.run_pure]
  · have := ents_del N.enc h.nodup h2
    simp only [h1, Sem.run_bind, Result.andThen, hset, Sem.run_pure]
    rw [show (ents N.enc l).toArray.eraseIdxIfInBounds j = (ents N.enc (del l x)).toArray by
      rw [← this]; simp [ents, ChangeMaps.map_eraseIdx]]

end
end
end Go.Proofs.YtadoflcomienoaaGreat.MR
/- A range over a map that does not turn: which entries have come, in whatever order. -/
namespace Go.Proofs.YtadoflcomienoaaGreat.MR
open Go.Maps Go.MapKept
open Go.ChangeMaps (setBlock)

section
variable {P : Program} {K : TypeId} {κ : Type} (N : Enc P K κ)
/-- these have come, in this order -/
structure Ran (l : List (Ent κ)) (seen : Array Nat) (done : List (Ent κ)) : Prop where
  seen : seen.toList = done.map (·.2.2)
  sub : ∀ e ∈ done, e ∈ l
  nodup : (done.map (·.2.2)).Nodup
theorem Ran.none (l : List (Ent κ)) : Ran l #[] [] := ⟨rfl, fun e he => (by cases he), by simp⟩
theorem Ran.more {l : List (Ent κ)} {seen : Array Nat} {done : List (Ent κ)} (h : Ran l seen done) {e : Ent κ} (he : e ∈ l) (hn : e.2.2 ∉ seen) : Ran l (seen.push e.2.2) (done ++ [e]) := by
  refine ⟨by simp [h.seen], fun x hx => ?_, ?_⟩
  · rcases List.mem_append.1 hx with hx | hx
    · exact h.sub x hx
    · simp at hx; subst hx; exact he
  · rw [List.map_append, List.nodup_append]
    refine ⟨h.nodup, by simp, fun a ha b hb => ?_⟩
    simp at hb
    subst hb
    rintro rfl
    rw [← h.seen] at ha
    exact hn (by simpa using ha)
theorem inj_of_nodup {α β : Type} {f : α → β} {l : List α} (h : (l.map f).Nodup) {a b : α} (ha : a ∈ l) (hb : b ∈ l) (e : f a = f b) : a = b := by
  induction l with
  | nil => cases ha
  | cons x r ih =>
    simp only [List.map_cons, List.nodup_cons] at h
    rcases List.mem_cons.1 ha with rfl | ha'
    · rcases List.mem_cons.1 hb with rfl | hb'
      · rfl
      · exact absurd (List.mem_map.2 ⟨b, hb', e.symm⟩) h.1
    · rcases List.mem_cons.1 hb with rfl | hb'
      · exact absurd (List.mem_map.2 ⟨a, ha', e⟩) h.1
      · exact ih h.2 ha' hb'
theorem nodup_of_map {α β : Type} {f : α → β} {l : List α} (h : (l.map f).Nodup) : l.Nodup := by
  induction l with
  | nil => exact List.nodup_nil
  | cons x r ih =>
    simp only [List.map_cons, List.nodup_cons] at h
    exact List.nodup_cons.2 ⟨fun hx => h.1 (List.mem_map.2 ⟨x, hx, rfl⟩), ih h.2⟩
theorem Ran.all {l : List (Ent κ)} {seen : Array Nat} {done : List (Ent κ)} (h : Ran l seen done) (hb : (l.map (·.2.2)).Nodup) (ha : ∀ e ∈ l, e.2.2 ∈ seen) : done.Perm l := by
  rw [List.perm_ext_iff_of_nodup (nodup_of_map h.nodup) (nodup_of_map hb)]
  intro e
  refine ⟨h.sub e, fun he => ?_⟩
  have h1 := ha e he
  rw [← Array.mem_toList_iff, h.seen] at h1
  obtain ⟨x, hx, hxe⟩ := List.mem_map.1 h1
  rw [← inj_of_nodup hb (h.sub x hx) he hxe]
  exact hx
theorem run_range {w : World} {b clock : Nat} {l : List (Ent κ)} (h : MapAt N w b l clock) {T E : TypeId} (ht : P.underlying T = some (.map K E)) : (Instr.range T (.map (some b))).run P w = .ok (.pointer (some ⟨w.heap.size, 0, none⟩)) (w.alloc (.mapIter (some b) clock #[] clock)) :=
  run_range_map w T K E b _ clock ht h.blk
theorem next_step {w : World} {b clock r : Nat} {l : List (Ent κ)} {seen : Array Nat} (h : MapAt N w b l clock) (hr : w.heap[r]? = some (.mapIter (some b) clock seen clock)) (ty : TypeId) :
    ((∀ e ∈ l, e.2.2 ∈ seen) ∧ (Instr.next (.pointer (some ⟨r, 0, none⟩)) false ty).run P w = .ok (.tuple #[.bool false]) w) ∨
    ∃ e ∈ l, e.2.2 ∉ seen ∧ ∃ w1, (Instr.next (.pointer (some ⟨r, 0, none⟩)) false ty).run P w = .ok (.tuple #[.bool true, N.enc e.1, e.2.1]) w1 ∧ SetB w w1 r (.mapIter (some b) clock (seen.push e.2.2) clock) := by
  have hold : ∀ x ∈ (ents N.enc l).toArray.toList, x.born < clock := by
    intro x hx
    obtain ⟨e, he, rfl⟩ := List.mem_map.1 (by simpa using hx : x ∈ ents N.enc l)
    exact h.born e he
  rcases run_next_at (P := P) w ty r b clock clock seen _ clock hr h.blk hold (Nat.le_refl _) with ⟨h1, h2⟩ | ⟨x, hx, w1, hw, h2⟩
  · left
    refine ⟨fun e he => ?_, h2⟩
    have : leftOf (ents N.enc l).toArray seen = #[] := Array.eq_empty_of_size_eq_zero h1
    unfold leftOf at this
    rw [Array.filter_eq_empty_iff] at this
    have h3 := this ⟨N.enc e.1, e.2.1, e.2.2⟩ (by simp [ents]; exact ⟨_, _, _, he, rfl, rfl, rfl⟩)
    simpa using h3
  · right
    unfold leftOf at hx
    simp only [Array.toList_filter, List.mem_filter, Bool.not_eq_true'] at hx
    obtain ⟨hm, hs⟩ := hx
    obtain ⟨e, he, rfl⟩ := List.mem_map.1 (by simpa using hm : x ∈ ents N.enc l)
    refine ⟨e, he, by simpa using hs, _, h2, ?_⟩
    rcases hw with rfl | rfl <;> exact ⟨rfl, rfl, rfl, rfl⟩
theorem run_entry {w : World} {b clock r : Nat} {l : List (Ent κ)} {seen : Array Nat} (h : MapAt N w b l clock) {e : Ent κ} (he : e ∈ l) (hr : w.heap[r]? = some (.mapIter (some b) clock (seen.push e.2.2) clock)) : (Instr.entry (.pointer (some ⟨r, 0, none⟩))).run P w = .ok (.tuple #[N.enc e.1, e.2.1]) w := by
  refine run_entry_at (P := P) w r b clock seen _ clock ⟨N.enc e.1, e.2.1, e.2.2⟩ hr h.blk (by simp [ents]; exact ⟨_, _, _, he, rfl, rfl, rfl⟩) ?_
  have : ((ents N.enc l).toArray.toList.map (·.born)) = l.map (·.2.2) := by simp [ents]
  rw [this]
  exact h.bnodup
end
end Go.Proofs.YtadoflcomienoaaGreat.MR
/- A map whose entries are a list of things, each under its key. -/
namespace Go.Proofs.YtadoflcomienoaaGreat.Kl
section
variable {κ α : Type} (key : α → κ) (val : α → Value)
/-- the thing of a key -/
def look [DecidableEq κ] (L : List α) (k : κ) : Option α := L.find? fun x => decide (key x = k)
variable {key val}
theorem look_mem [DecidableEq κ] {L : List α} {k : κ} {x : α} (h : look key L k = some x) : x ∈ L ∧ key x = k :=
  ⟨List.mem_of_find?_eq_some h, by simpa using List.find?_some h⟩
theorem look_none [DecidableEq κ] {L : List α} {k : κ} (h : look key L k = none) {x : α} (hx : x ∈ L) : key x ≠ k := by
  unfold look at h
  rw [List.find?_eq_none] at h
  simpa using h x hx
theorem look_no [DecidableEq κ] {L : List α} {k : κ} (h : ∀ x ∈ L, key x ≠ k) : look key L k = none := by
  unfold look
  rw [List.find?_eq_none]
  intro x hx
  simpa using h x hx
theorem inj_on {L : List α} (hn : (L.map key).Nodup) {x y : α} (hx : x ∈ L) (hy : y ∈ L) (h : key x = key y) : x = y := MR.inj_of_nodup hn hx hy h
theorem look_of [DecidableEq κ] {L : List α} (hn : (L.map key).Nodup) {x : α} (hx : x ∈ L) : look key L (key x) = some x := by
  cases h : look key L (key x) with
  | none => exact absurd rfl (look_none h hx)
  | some y =>
    obtain ⟨h1, h2⟩ := look_mem h
    rw [inj_on hn h1 hx h2]
theorem look_some [DecidableEq κ] {L : List α} (hn : (L.map key).Nodup) {x : α} {k : κ} : look key L k = some x ↔ x ∈ L ∧ key x = k :=
  ⟨look_mem, fun ⟨h1, h2⟩ => h2 ▸ look_of hn h1⟩
theorem look_perm [DecidableEq κ] {L M : List α} (hn : (L.map key).Nodup) (h : L.Perm M) (k : κ) : look key L k = look key M k := by
  have hm : (M.map key).Nodup := (h.map key).nodup hn
  cases h1 : look key L k with
  | none => exact (look_no fun x hx => look_none h1 (h.mem_iff.2 hx)).symm
  | some x =>
    obtain ⟨h2, h3⟩ := look_mem h1
    exact ((look_some hm).2 ⟨h.mem_iff.1 h2, h3⟩).symm
theorem nodup_filter {L : List α} (hn : (L.map key).Nodup) (p : α → Bool) : ((L.filter p).map key).Nodup := (List.filter_sublist.map _).nodup hn
theorem look_filter [DecidableEq κ] {L : List α} (hn : (L.map key).Nodup) (p : α → Bool) (k : κ) : look key (L.filter p) k = (look key L k).filter p := by
  cases h : look key L k with
  | none => exact look_no fun x hx => look_none h (List.mem_filter.1 hx).1
  | some x =>
    obtain ⟨h1, h2⟩ := look_mem h
    cases hp : p x with
    | true => rw [Option.filter_some, if_pos hp]; exact (look_some (nodup_filter hn p)).2 ⟨List.mem_filter.2 ⟨h1, hp⟩, h2⟩
    | false =>
      rw [Option.filter_some, if_neg (by rw [hp]; simp)]
      refine look_no fun y hy e => ?_
      obtain ⟨h3, h4⟩ := List.mem_filter.1 hy
      rw [inj_on hn h3 h1 (e.trans h2.symm), hp] at h4
      cases h4
theorem look_append [DecidableEq κ] (L M : List α) (k : κ) : look key (L ++ M) k = (look key L k).or (look key M k) := by
  unfold look; rw [List.find?_append]

/-- the entries are those of the list -/
structure Lay [DecidableEq κ] (key : α → κ) (val : α → Value) (es : List (MR.Ent κ)) (L : List α) : Prop where
  get : ∀ k, MR.get? es k = (look key L k).map val
  nd : (L.map key).Nodup
  ne : (es.map (·.1)).Nodup
  nb : (es.map (·.2.2)).Nodup
def ofE [DecidableEq κ] [Inhabited α] (key : α → κ) (L : List α) (e : MR.Ent κ) : α := (look key L e.1).getD default
theorem Lay.ent [DecidableEq κ] [Inhabited α] {es : List (MR.Ent κ)} {L : List α} (h : Lay key val es L) {e : MR.Ent κ} (he : e ∈ es) : look key L e.1 = some (ofE key L e) ∧ e.2.1 = val (ofE key L e) ∧ key (ofE key L e) = e.1 ∧ ofE key L e ∈ L := by
  have h1 := h.get e.1
  rw [MR.get?_mem h.ne he] at h1
  cases hl : look key L e.1 with
  | none => rw [hl] at h1; cases h1
  | some x =>
    rw [hl] at h1
    obtain ⟨h2, h3⟩ := look_mem hl
    have ho : ofE key L e = x := by unfold ofE; rw [hl]; rfl
    rw [ho]
    exact ⟨rfl, by simpa using h1, h3, h2⟩
theorem Lay.perm [DecidableEq κ] [Inhabited α] {es : List (MR.Ent κ)} {L : List α} (h : Lay key val es L) : (es.map (ofE key L)).Perm L := by
  have hk : (es.map (ofE key L)).map key = es.map (·.1) := by
    rw [List.map_map]
    exact List.map_congr_left fun e he => (h.ent he).2.2.1
  have hnd : (es.map (ofE key L)).Nodup := MR.nodup_of_map (f := key) (by rw [hk]; exact h.ne)
  rw [List.perm_ext_iff_of_nodup hnd (MR.nodup_of_map h.nd)]
  intro x
  rw [List.mem_map]
  constructor
  · rintro ⟨e, he, rfl⟩; exact (h.ent he).2.2.2
  · intro hx
    have h1 := h.get (key x)
    rw [look_of h.nd hx] at h1
    obtain ⟨e, he, h2, -⟩ := MR.mem_of_get? h1
    refine ⟨e, he, inj_on h.nd (h.ent he).2.2.2 hx ?_⟩
    rw [(h.ent he).2.2.1, h2]
theorem Lay.len [DecidableEq κ] [Inhabited α] {es : List (MR.Ent κ)} {L : List α} (h : Lay key val es L) : es.length = L.length := by rw [← h.perm.length_eq, List.length_map]
theorem Lay.nil [DecidableEq κ] : Lay key val [] [] := ⟨fun _ => rfl, List.nodup_nil, List.nodup_nil, List.nodup_nil⟩
theorem Lay.put [DecidableEq κ] {es : List (MR.Ent κ)} {L L' : List α} {x : α} {c : Nat} (h : Lay key val es L) (hL : (L'.map key).Nodup) (hl : ∀ k, look key L' k = if k = key x then some x else look key L k)
    (h1 : ((MR.put es (key x) (val x) c).map (·.1)).Nodup) (h2 : ((MR.put es (key x) (val x) c).map (·.2.2)).Nodup) : Lay key val (MR.put es (key x) (val x) c) L' :=
  ⟨fun k => by rw [MR.get?_put, hl, h.get]; split <;> rfl, hL, h1, h2⟩
theorem Lay.del [DecidableEq κ] {es : List (MR.Ent κ)} {L : List α} (h : Lay key val es L) (k : κ) : Lay key val (MR.del es k) (L.filter fun x => decide (key x ≠ k)) := by
  refine ⟨fun k' => ?_, nodup_filter h.nd _, (List.filter_sublist.map _).nodup h.ne, (List.filter_sublist.map _).nodup h.nb⟩
  rw [MR.get?_del, h.get, look_filter h.nd]
  cases hl : look key L k' with
  | none => simp
  | some x =>
    obtain ⟨-, h2⟩ := look_mem hl
    by_cases hk : k' = k
    · simp [hk, Option.filter_some, h2]
    · simp [hk, Option.filter_some, h2]
theorem Lay.turn [DecidableEq κ] {es : List (MR.Ent κ)} {L M : List α} (h : Lay key val es L) (hp : L.Perm M) : Lay key val es M :=
  ⟨fun k => by rw [h.get, look_perm h.nd hp], (hp.map key).nodup h.nd, h.ne, h.nb⟩

/-- strictly in order by a comparison -/
def Ordered (lt : α → α → Bool) (L : List α) : Prop := L.Pairwise fun a b => lt a b = true
theorem ordered_eq {lt : α → α → Bool} (ha : ∀ a b, lt a b = true → lt b a = false) {L M : List α} (hL : Ordered lt L) (hM : Ordered lt M) (hp : L.Perm M) : L = M :=
  List.Perm.eq_of_pairwise (le := fun a b => lt a b = true) (fun a b _ _ h1 h2 => by rw [ha a b h1] at h2; cases h2) hL hM hp
end
end Go.Proofs.YtadoflcomienoaaGreat.Kl
/- Small facts on lists; a class of worlds behind a name. -/
namespace Go.Proofs.YtadoflcomienoaaGreat
open Go.RowKit
theorem getD_mem {α : Type} [Inhabited α] {M : List α} {i : Nat} (h : i < M.length) : M.getD i default ∈ M := by
  rw [List.getD_eq_getElem?_getD, List.getElem?_eq_getElem h]; exact List.getElem_mem _
end Go.Proofs.YtadoflcomienoaaGreat
