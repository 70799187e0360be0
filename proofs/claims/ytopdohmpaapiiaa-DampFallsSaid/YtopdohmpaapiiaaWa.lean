/- Walks of the small functions. -/
import Derived.Test.YtopdohmpaapiiaaRows
import Derived.Test.YtopdohmpaapiiaaMem
namespace Go.Proofs.Ytopdohmpaapiiaa
open Go.RowKit
theorem in_any (n most : Int) (w : World) : Calls Try.prog 23 #[.int .i64 n, .int .i64 most] w fun e w' => e = .returned (.bool (decide (0 ≤ n ∧ n ≤ most))) ∧ w = w' := by
  by_cases h : 0 ≤ n
  · go_enter Try.func23, Try.ntmps23
    go_wp2
    go_ret
    exact ⟨ret_bool (by simp [h]), rfl⟩
  · have h' : decide (0 ≤ n) = false := by simpa using h
    go_enter Try.func23, Try.ntmps23
    go_wp2
    go_ret
    exact ⟨ret_bool (by simp; try omega), rfl⟩

theorem near_any (n : Int) (w : World) : Calls Try.prog 18 #[.int .i64 n] w fun e w' => e = .returned (.int .i64 (min (max n 0) 9007199254740991)) ∧ w = w' := by
  go_enter Try.func18, Try.ntmps18
  go_wp2
  all_goals (go_ret; exact ⟨ret_int (by omega), rfl⟩)

/-- the mask of n bits, n from 0 to 32 -/
def maskOf (n : Int) : Int := IntKind.u64.wrap (18446744073709551615 * 2 ^ (32 - n).toNat) % 4294967296
def clampLen (n : Int) : Int := min (max n 0) 32
def maskAnd (a n : Int) : Int := bits BinOp.and IntKind.u32 a (maskOf n)

theorem mask_in (n : Int) (h0 : 0 ≤ n) (h1 : n ≤ 32) (w : World) : Calls Try.prog 25 #[.int .i64 n] w fun e w' => e = .returned (.int .u32 (maskOf n)) ∧ w = w' := by
  have h2 : 0 ≤ 32 - n := by omega
  go_enter Try.func25, Try.ntmps25
  go_wp2
  go_ret
  exact ⟨rfl, rfl⟩

theorem make_any (a n : Int) (w : World) : Calls Try.prog 24 #[.int .u32 a, .int .i64 n] w fun e w' => e = .returned (.agg #[.int .u32 (maskAnd a (clampLen n)), .int .i64 (clampLen n)]) ∧ Below w.heap.size w w' := by
  have fin : ∀ c : Int, clampLen n = c → ∀ w', Below w.heap.size w w' → Ending.returned (.agg #[.int .u32 (bits BinOp.and IntKind.u32 a (maskOf c)), .int .i64 c]) = Ending.returned (.agg #[.int .u32 (maskAnd a (clampLen n)), .int .i64 (clampLen n)]) ∧ Below w.heap.size w w' := by
    rintro c rfl w' hb; exact ⟨rfl, hb⟩
  have Fin := Lib.hid fin
  clear fin
  by_cases h0 : n < 0
  · go_enter Try.func24, Try.ntmps24
    go_wp2_with (go_at_call 25; refine (mask_in _ (by omega) (by omega) _).mono ?_; rintro e w' ⟨rfl, rfl⟩)
    go_returns
    exact Fin.out _ (by unfold clampLen; omega) _ ((Below.refl _ _).alloc (Nat.le_refl _) _)
  · by_cases h1 : n ≤ 32
    · go_enter Try.func24, Try.ntmps24
      go_wp2_with (go_at_call 25; refine (mask_in _ (by omega) (by omega) _).mono ?_; rintro e w' ⟨rfl, rfl⟩)
      go_returns
      exact Fin.out _ (by unfold clampLen; omega) _ ((Below.refl _ _).alloc (Nat.le_refl _) _)
    · go_enter Try.func24, Try.ntmps24
      go_wp2_with (go_at_call 25; refine (mask_in _ (by omega) (by omega) _).mono ?_; rintro e w' ⟨rfl, rfl⟩)
      go_returns
      exact Fin.out _ (by unfold clampLen; omega) _ ((Below.refl _ _).alloc (Nat.le_refl _) _)

def chk (a n : Int) : Bool := maskAnd a (clampLen n) == a && clampLen n == n

theorem check_y (a n : Int) (h : (maskAnd a (clampLen n) == a) = true) (h2 : (clampLen n == n) = true) (w : World) : Calls Try.prog 17 #[.agg #[.int .u32 a, .int .i64 n]] w fun e w' => e = .returned (.int .i64 0) ∧ Below w.heap.size w w' := by
  go_enter Try.func17, Try.ntmps17
  go_wp2_with fail
  go_region_held3 (fun w' => w'.cell? ⟨w.heap.size, 0, none⟩ = some (.int .u32 a) ∧ w'.cell? ⟨w.heap.size, 1, none⟩ = some (.int .i64 n)) (first | go_keep | (exact ⟨(hb.cell (by simp)).trans (by simp), (hb.cell (by simp)).trans (by simp)⟩))
    ((first | (go_at_call 24; refine (make_any _ _ _).mono ?_; rintro e w' ⟨rfl, hb⟩)))
  go_wp2
  go_ret
  exact ⟨rfl, (((Below.refl _ _).alloc (Nat.le_refl _) _).drew).trans (hb.mono (by simp))⟩
theorem check_n1 (a n : Int) (h : (maskAnd a (clampLen n) == a) = false) (w : World) : Calls Try.prog 17 #[.agg #[.int .u32 a, .int .i64 n]] w fun e w' => e = .returned (.int .i64 20) ∧ Below w.heap.size w w' := by
  go_enter Try.func17, Try.ntmps17
  go_wp2_with fail
  go_region_held3 (fun w' => w'.cell? ⟨w.heap.size, 0, none⟩ = some (.int .u32 a) ∧ w'.cell? ⟨w.heap.size, 1, none⟩ = some (.int .i64 n)) (first | go_keep | (exact ⟨(hb.cell (by simp)).trans (by simp), (hb.cell (by simp)).trans (by simp)⟩))
    ((first | (go_at_call 24; refine (make_any _ _ _).mono ?_; rintro e w' ⟨rfl, hb⟩)))
  go_wp2
  go_ret
  exact ⟨rfl, (((Below.refl _ _).alloc (Nat.le_refl _) _).drew).trans (hb.mono (by simp))⟩
theorem check_n2 (a n : Int) (h : (maskAnd a (clampLen n) == a) = true) (h2 : (clampLen n == n) = false) (w : World) : Calls Try.prog 17 #[.agg #[.int .u32 a, .int .i64 n]] w fun e w' => e = .returned (.int .i64 20) ∧ Below w.heap.size w w' := by
  go_enter Try.func17, Try.ntmps17
  go_wp2_with fail
  go_region_held3 (fun w' => w'.cell? ⟨w.heap.size, 0, none⟩ = some (.int .u32 a) ∧ w'.cell? ⟨w.heap.size, 1, none⟩ = some (.int .i64 n)) (first | go_keep | (exact ⟨(hb.cell (by simp)).trans (by simp), (hb.cell (by simp)).trans (by simp)⟩))
    ((first | (go_at_call 24; refine (make_any _ _ _).mono ?_; rintro e w' ⟨rfl, hb⟩)))
  go_wp2
  go_ret
  exact ⟨rfl, (((Below.refl _ _).alloc (Nat.le_refl _) _).drew).trans (hb.mono (by simp))⟩

theorem check_any (a n : Int) (w : World) : Calls Try.prog 17 #[.agg #[.int .u32 a, .int .i64 n]] w fun e w' => e = .returned (.int .i64 (if chk a n then 0 else 20)) ∧ Below w.heap.size w w' := by
  unfold chk
  by_cases h : (maskAnd a (clampLen n) == a) = true
  · by_cases h2 : (clampLen n == n) = true
    · simp only [h, h2]; exact check_y a n h h2 w
    · simp only [h, h2]; exact check_n2 a n h (by simpa using h2) w
  · simp only [h]; exact check_n1 a n (by simpa using h) w

end Go.Proofs.Ytopdohmpaapiiaa
