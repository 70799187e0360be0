/- slices.SortFunc of one timer: no comparison is called, whatever the function value. -/
import Derived.Test.YtfmehahjjgalfaaEd
import Derived.Shelf.SlSortCmp.NoneTotal
namespace Go.Proofs.Ytfmehahjjgalfaa.Tim
open Go.RowKit

theorem ins_one (p : Option Addr) (c : Nat) (fv : Value) (w : World) : Calls Try.prog 99 #[.slice p 1 c, .int .i64 0, .int .i64 1, fv] w fun e w' => e = .returned (.tuple #[]) ∧ w' = w := by
  go_enter Try.func99, Try.ntmps99
  go_wp2_with fail
  go_loop [8] (fun i => i = .int .i64 1) (fun _ => 0)
  case atStart => rfl
  case round =>
    subst hrel
    go_wp2_with fail
    go_end0
    exact ⟨rfl, rfl⟩
set_option maxRecDepth 100000 in
theorem pdq_one (p : Option Addr) (c : Nat) (lim : Value) (fv : Value) (w : World) : Calls Try.prog 85 #[.slice p 1 c, .int .i64 0, .int .i64 1, lim, fv] w fun e w' => e = .returned (.tuple #[]) ∧ w' = w := by
  have HI := Lib.hid (ins_one p c fv)
  go_enter Try.func85, Try.ntmps85
  go_wp2_with fail
  go_loop [1, 2] (fun a b => a = .int .i64 0 ∧ b = .int .i64 1) (fun _ _ => 0)
  case atStart => exact ⟨rfl, rfl⟩
  case round =>
    obtain ⟨rfl, rfl⟩ := hrel
    go_wp2_with fail
    refine (HI.out _).mono ?_
    rintro e W1 ⟨rfl, hw⟩
    subst hw
    go_wp2_with fail
    refine bodyPost_ret (results_none rfl _ _ _) rfl ?_
    exact ⟨rfl, rfl⟩
theorem bits_one (w : World) : Calls Try.prog 86 #[.int .u64 1] w fun e w' => ∃ n : Int, e = .returned (.int .i64 n) ∧ w' = w := by
  have L := sortTm
  have h := Go.Proofs.Any.bits_Len (Go.Proofs.SlLaysF0.n15.bits (P := Try.prog) (ρ := sortTm_ren) { L with }) 1 w (by omega) (by omega)
  exact h.mono fun _ _ h => ⟨_, h.1, h.2⟩
theorem sort_one (p : Option Addr) (c : Nat) (fv : Value) (w : World) : Calls Try.prog 63 #[.slice p 1 c, fv] w fun e w' => e = .returned (.tuple #[]) ∧ w' = w := by
  have HB := Lib.hid bits_one
  have HP := Lib.hid (pdq_one p c)
  go_enter Try.func63, Try.ntmps63
  go_wp2_with fail
  refine (HB.out _).mono ?_
  rintro e W1 ⟨n, rfl, hw⟩
  subst hw
  go_wp2_with fail
  refine (HP.out _ _ _).mono ?_
  rintro e W1 ⟨rfl, hw⟩
  subst hw
  go_wp2_with fail
  go_end0
  exact ⟨rfl, rfl⟩
end Go.Proofs.Ytfmehahjjgalfaa.Tim
