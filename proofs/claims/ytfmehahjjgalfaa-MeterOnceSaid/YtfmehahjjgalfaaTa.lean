/- Mask, Make, Check, Bit. -/
import Derived.Test.YtfmehahjjgalfaaRows
import Derived.Test.YtfmehahjjgalfaaAp
import Derived.Test.YtfmehahjjgalfaaMx
import Derived.Test.YtfmehahjjgalfaaSt
import Derived.Test.YtfmehahjjgalfaaQt
import Derived.Test.YtfmehahjjgalfaaTr
import Derived.Laws.BitsLemmas
namespace Go.Proofs.Ytfmehahjjgalfaa
open Go.RowKit

def pfx (a : Nat) (n : Int) : Value := .agg #[.int .u32 a, .int .i64 n]
/-- a number of bits, within bounds -/
def cl (n : Int) : Nat := if n < 0 then 0 else if 32 < n then 32 else n.toNat
theorem cl_le (n : Int) : cl n ≤ 32 := by unfold cl; split; omega; split; omega; omega
def okP (a : Nat) (n : Int) : Bool := decide (0 ≤ n) && decide (n ≤ 32) && decide (pcut a n.toNat = a)
theorem okP_iff {a : Nat} {n : Int} : okP a n = true ↔ 0 ≤ n ∧ n ≤ 32 ∧ pcut a n.toNat = a := by simp [okP, and_assoc]
theorem u64_mask (n : Nat) (hn : n ≤ 32) : IntKind.u64.wrap (18446744073709551615 * 2 ^ (32 - n)) % 4294967296 = ((2 ^ 32 - 2 ^ (32 - n) : Nat) : Int) := by
  have : ∀ m, m < 33 → IntKind.u64.wrap (18446744073709551615 * 2 ^ m) % 4294967296 = ((2 ^ 32 - 2 ^ m : Nat) : Int) := by decide
  exact this (32 - n) (by omega)
theorem mask_any (n : Nat) (hn : n ≤ 32) (w : World) : Calls Try.prog 110 #[.int .i64 n] w fun e w' => e = .returned (.int .u32 ((2 ^ 32 - 2 ^ (32 - n) : Nat) : Int)) ∧ w' = w := by
  have h1 : ¬ ((n : Int) < 0) := by omega
  have h2 : ¬ ((32 : Int) < n) := by omega
  go_enter Try.func110, Try.ntmps110
  go_wp2_with fail
  go_ret
  exact ⟨ret_int (u64_mask n hn), rfl⟩
theorem and_cut (a n : Nat) (ha : a < 4294967296) (hn : n ≤ 32) : bits .and .u32 (a : Int) ((2 ^ 32 - 2 ^ (32 - n) : Nat) : Int) = ((pcut a n : Nat) : Int) := by
  have hp := pow_pos2 (32 - n)
  have hm : 2 ^ (32 - n) ≤ 2 ^ 32 := Nat.pow_le_pow_right (by decide) (by omega)
  rw [(bits_nat .u32 32 (by decide) (fun n h0 h1 => by rw [IntKind.wrap_u32]; omega) a (2 ^ 32 - 2 ^ (32 - n)) ha (by omega)).1]
  congr 1
  apply Nat.eq_of_testBit_eq
  intro i
  have e : 2 ^ 32 - 2 ^ (32 - n) = 2 ^ 32 - ((2 ^ (32 - n) - 1) + 1) := by omega
  rw [Nat.testBit_and, e, Nat.testBit_two_pow_sub_succ (by omega), Nat.testBit_two_pow_sub_one]
  unfold pcut
  rw [Nat.testBit_mul_two_pow, Nat.testBit_div_two_pow]
  by_cases h1 : 32 - n ≤ i
  · by_cases h2 : i < 32
    · simp [h1, h2, show ¬ i < 32 - n by omega]
    · have : a.testBit i = false := Nat.testBit_lt_two_pow (Nat.lt_of_lt_of_le ha (by
        have : 2 ^ 32 ≤ 2 ^ i := Nat.pow_le_pow_right (by decide) (by omega)
        omega))
      simp [h2, h1, this]
  · simp [show i < 32 - n by omega]; intro h; omega
theorem mask_ex (n : Nat) (hn : n ≤ 32) (a : Nat) (ha : a < 4294967296) : ∃ m : Int, (∀ w, Calls Try.prog 110 #[.int .i64 n] w fun e w' => e = .returned (.int .u32 m) ∧ w' = w) ∧ bits .and .u32 (a : Int) m = ((pcut a n : Nat) : Int) :=
  ⟨_, fun w => mask_any n hn w, and_cut a n ha hn⟩
theorem make_any (a : Nat) (n : Int) (ha : a < 4294967296) (w : World) : Calls Try.prog 90 #[.int .u32 a, .int .i64 n] w fun e w' => e = .returned (pfx (pcut a (cl n)) (cl n)) ∧ Below w.heap.size w w' := by
  have hle := cl_le n
  obtain ⟨m, hm, hb⟩ := mask_ex (cl n) hle a ha
  have HM := Lib.hid hm
  have HB := Lib.hid hb
  clear hm hb
  rcases Decidable.em (n < 0) with h | h
  · have e : cl n = 0 := by simp [cl, h]
    rw [e] at HM HB ⊢
    clear hle e
    go_enter Try.func90, Try.ntmps90
    go_wp2_with (go_at_call 110; refine (HM.out _).mono ?_; rintro e w1 ⟨rfl, rfl⟩)
    rw [HB.out]
    refine ret_cell rfl rfl rfl (hnew _ _) Try.underlying58 rfl (by kernel_rfl) ⟨rfl, (Below.refl _ _).alloc (Nat.le_refl _) _⟩
  · rcases Decidable.em (32 < n) with h2 | h2
    · have e : cl n = 32 := by simp [cl, h, h2]
      rw [e] at HM HB ⊢
      clear hle e
      go_enter Try.func90, Try.ntmps90
      go_wp2_with (go_at_call 110; refine (HM.out _).mono ?_; rintro e w1 ⟨rfl, rfl⟩)
      rw [HB.out]
      refine ret_cell rfl rfl rfl (hnew _ _) Try.underlying58 rfl (by kernel_rfl) ⟨rfl, (Below.refl _ _).alloc (Nat.le_refl _) _⟩
    · obtain ⟨k, rfl⟩ := Int.eq_ofNat_of_zero_le (show 0 ≤ n by omega)
      have e : cl k = k := by unfold cl; rw [if_neg h, if_neg h2]; exact Int.toNat_natCast k
      rw [e] at HM HB hle ⊢
      clear e
      have h1 : ¬ ((k : Int) < 0) := by omega
      go_enter Try.func90, Try.ntmps90
      go_wp2_with (go_at_call 110; refine (HM.out _).mono ?_; rintro e w1 ⟨rfl, rfl⟩)
      rw [HB.out]
      refine ret_cell rfl rfl rfl (hnew _ _) Try.underlying58 rfl (by kernel_rfl) ⟨rfl, (Below.refl _ _).alloc (Nat.le_refl _) _⟩
theorem bit_nat (a j : Nat) (ha : a < 4294967296) : bits .and .u32 ((a : Int) / 2 ^ j) 1 = if a.testBit j then 1 else 0 := by
  have h : ((a : Int) / 2 ^ j) = ((a / 2 ^ j : Nat) : Int) := by simp
  have hl : a / 2 ^ j < 2 ^ 32 := Nat.lt_of_le_of_lt (Nat.div_le_self _ _) ha
  rw [h]
  have := (bits_nat .u32 32 (by decide) (fun n h0 h1 => by rw [IntKind.wrap_u32]; omega) (a / 2 ^ j) 1 hl (by decide)).1
  rw [show ((1 : Nat) : Int) = 1 from rfl] at this
  rw [this, Nat.and_one_is_mod, Nat.testBit_eq_decide_div_mod_eq]
  rcases Nat.mod_two_eq_zero_or_one (a / 2 ^ j) with h0 | h0 <;> simp [h0]
theorem okP_cl {a : Nat} {n : Int} : okP a n = true ↔ ((pcut a (cl n) : Nat) : Int) = a ∧ ((cl n : Nat) : Int) = n := by
  rw [okP_iff]
  constructor
  · rintro ⟨h0, h1, h2⟩
    have e : cl n = n.toNat := by unfold cl; rw [if_neg (by omega), if_neg (by omega)]
    rw [e, h2]; exact ⟨rfl, by omega⟩
  · rintro ⟨h1, h2⟩
    have := cl_le n
    have e : n.toNat = cl n := by omega
    rw [e]; exact ⟨by omega, by omega, by omega⟩
theorem check_any (a : Nat) (n : Int) (ha : a < 4294967296) (w : World) : Calls Try.prog 68 #[pfx a n] w fun e w' => e = .returned (.int .i64 (if okP a n then 0 else 20)) ∧ Below w.heap.size w w' := by
  have HM := Lib.hid (make_any a n ha)
  have HK := Lib.hid (okP_cl (a := a) (n := n))
  clear ha
  generalize hv : (if okP a n = true then (0 : Int) else 20) = v
  have HV := Lib.hid hv
  clear hv
  unfold pfx at HM ⊢
  generalize hx : pcut a (cl n) = x at HM HK
  generalize hm : cl n = m at HM HK
  clear hx hm
  go_enter Try.func68, Try.ntmps68
  go_wp2_with fail
  refine wp_region_quiet_tail (fun w' => Below (w.heap.size + 1) (w.alloc (.cells #[.int .u32 a, .int .i64 n] 58)) w') 6 (by kernel_rfl) (by kernel_rfl) (Below.drew (Below.refl _ _)) ?_
  simp only [List.take_succ_cons, List.take_zero, List.drop_succ_cons, List.drop_zero]
  iterate 5 (((with_reducible refine wpQuiet_step (fun K hK => ?_)); go_simp; first | ((with_reducible refine hK _ ?_); clear hK K) | (apply Exists.intro; refine ⟨fun w' hw' => ?_, hK _ ?_⟩; first | (go_at_call 90; (with_reducible refine (HM.out w').mono ?_); rintro e w2 ⟨rfl, hb⟩; exact ⟨rfl, hw'.trans (hb.mono (by have := hw'.size; simp at this; omega))⟩) | (have hc0 := fun j => Below.cell hw' (p := ⟨w.heap.size, j, none⟩) (by simp); go_simp; first | exact rfl | exact ⟨rfl, rfl⟩); clear hK K)))
  with_reducible refine wpQuiet_step (fun K hK => ?_)
  go_simp
  apply Exists.intro; refine ⟨fun w' hw' => ?_, hK _ ?_⟩
  · have hb : w'.heap[w.heap.size]? = some (.cells #[.int .u32 a, .int .i64 n] 58) := (hw'.block _ (by simp)).trans (hnew _ _)
    have c0 : w'.cell? ⟨w.heap.size, 0, none⟩ = some (.int .u32 a) := cell_of hb rfl
    have c1 : w'.cell? ⟨w.heap.size, 1, none⟩ = some (.int .i64 n) := cell_of hb rfl
    go_simp
    first | exact rfl | exact ⟨rfl, rfl⟩
  clear hK K
  refine wpQuiet_nil ?_
  intro wq hq
  have HQ := Lib.hid (((Below.refl w.heap.size w).alloc (Nat.le_refl _) _).trans (hq.mono (by omega)))
  clear HM hq
  go_wp2_with fail
  all_goals
    go_ret
    refine ⟨ret_int ?_, HQ.out⟩
    have h1 := HV.out
    have h2 := HK.out
    rw [← h1]
    simp_all
end Go.Proofs.Ytfmehahjjgalfaa
