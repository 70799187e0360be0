/- The walk of DampFalls. -/
import Derived.Test.YtopdohmpaapiiaaPl
namespace Go.Proofs.Ytopdohmpaapiiaa
open Go.RowKit
open Go.ChangeMaps (setBlock)

def rangeB (deeds at0 later : Int) : Bool := decide (deeds < 0) || decide (20 < deeds) || decide (at0 < 0) || decide (1099511627776 < at0) || decide (later < 0) || decide (1099511627776 < later)

set_option maxHeartbeats 2000000 in
/-- what is not looked at -/
theorem falls_out (s : Sett) (deeds at0 later : Int) (w : World) (h : (!s.okB || rangeB deeds at0 later) = true) : Calls Try.prog 3 #[s.val, .int .i64 deeds, .int .i64 at0, .int .i64 later] w fun e w' => e = .returned (.bool true) ∧ Below w.heap.size w w' := by
  have HC := Lib.hid (fun w => refCheck_any s w)
  unfold Sett.val at *
  cases hk : s.okB with
  | false =>
    rw [hk] at HC
    clear h hk
    go_enter Try.func3, Try.ntmps3
    go_wp2_with fail
    refine (HC.out _).mono ?_
    rintro e w1 ⟨rfl, hb⟩
    go_wp2_with fail
    refine (lives_any _).mono ?_
    rintro e w2 ⟨rfl, hb2⟩
    go_wp2_with fail
    go_ret
    exact ⟨rfl, (((Below.refl _ _).alloc (Nat.le_refl _) _).trans (hb.mono (by simp))).trans (hb2.mono (by have := hb.size; simp at this; omega))⟩
  | true =>
    rw [hk] at HC
    have HR := Lib.hid (show rangeB deeds at0 later = true by simpa [hk] using h)
    clear h hk
    go_enter Try.func3, Try.ntmps3
    go_wp2_with fail
    refine (HC.out _).mono ?_
    rintro e w1 ⟨rfl, hb⟩
    go_wp2_with fail
    all_goals first
      | (refine (lives_any _).mono ?_
         rintro e w2 ⟨rfl, hb2⟩
         go_wp2_with fail
         go_ret
         exact ⟨rfl, (((Below.refl _ _).alloc (Nat.le_refl _) _).trans (hb.mono (by simp))).trans (hb2.mono (by have := hb.size; simp at this; omega))⟩)
      | (exfalso
         have h1 := HR.out
         unfold rangeB at h1
         simp at h1
         omega)
end Go.Proofs.Ytopdohmpaapiiaa
