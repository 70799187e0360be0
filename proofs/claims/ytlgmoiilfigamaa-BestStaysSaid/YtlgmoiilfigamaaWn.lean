/- worse: the reference's criteria. -/
import Derived.Test.YtlgmoiilfigamaaWm
namespace Go.Proofs.Ytlgmoiilfigamaa
open Go.RowKit

def Rt.val (x : Rt) : Value := .agg #[.int .i64 x.r, .int .u32 x.a, .int .i64 x.l, .int .i64 x.i, .int .i64 x.o, .slice x.pa x.pn x.pc, .int .u32 x.nx, .int .i64 x.md, .int .i64 x.pf, .slice x.ca x.cn x.cc]
set_option maxHeartbeats 2000000 in
theorem worse0 (x y : Rt) (w : World) (B : Nat) (_hB : B ≤ w.heap.size) (_hx : RtOk w B x) (_hsx : Small x) (_hy : RtOk w B y) (_hsy : Small y) :
    Calls Try.prog 36 #[.int .i64 0, x.val, y.val] w fun e w' => e = .returned (.bool (worse 0 (lookOf x) (lookOf y))) ∧ Below w.heap.size w w' := by
  have HX := Lib.hid (fun w' => rpref_any x w')
  have HY := Lib.hid (fun w' => rpref_any y w')
  clear _hx _hsx _hy _hsy
  unfold Rt.val
  unfold Rt.attrs at HX HY
  go_enter Try.func36, Try.ntmps36
  go_wp2_with fail
  refine wp_region_quiet_tail (fun w' => Below (w.heap.size + 2) ((w.alloc (.cells #[.int .i64 x.r, .int .u32 x.a, .int .i64 x.l, .int .i64 x.i, .int .i64 x.o, .slice x.pa x.pn x.pc, .int .u32 x.nx, .int .i64 x.md, .int .i64 x.pf, .slice x.ca x.cn x.cc] 40)).alloc (.cells #[.int .i64 y.r, .int .u32 y.a, .int .i64 y.l, .int .i64 y.i, .int .i64 y.o, .slice y.pa y.pn y.pc, .int .u32 y.nx, .int .i64 y.md, .int .i64 y.pf, .slice y.ca y.cn y.cc] 40)) w') 7 (by kernel_rfl) (by kernel_rfl) (Below.drew (Below.refl _ _)) ?_
  simp only [List.take_succ_cons, List.take_zero, List.drop_succ_cons, List.drop_zero]
  iterate 7 (refine wpQuiet_step (fun K hK => ?_); go_simp; first | (refine hK _ ?_; clear hK K) | (apply Exists.intro; refine ⟨fun w' hw' => ?_, hK _ ?_⟩; first | (go_at_call 17; (with_reducible refine (HX.out w').mono ?_); rintro e w2 ⟨rfl, hb⟩; exact ⟨rfl, hw'.trans (hb.mono (by have := hw'.size; simp at this; omega))⟩) | (go_at_call 17; (with_reducible refine (HY.out w').mono ?_); rintro e w2 ⟨rfl, hb⟩; exact ⟨rfl, hw'.trans (hb.mono (by have := hw'.size; simp at this; omega))⟩) | (have hc0 := fun j => Below.cell hw' (p := ⟨w.heap.size, j, none⟩) (by simp); have hc1 := fun j => Below.cell hw' (p := ⟨w.heap.size + 1, j, none⟩) (by simp); go_simp; first | exact rfl | exact ⟨rfl, rfl⟩); clear hK K))
  refine wpQuiet_nil ?_
  intro wq hq
  go_wp2_with fail
  go_ret
  exact ⟨ret_bool (by unfold worse lookOf; simp), (((Below.refl _ _).alloc (Nat.le_refl _) _).alloc (by simp) _).trans (hq.mono (by omega))⟩
set_option maxHeartbeats 2000000 in
theorem worse1 (x y : Rt) (w : World) (B : Nat) (hB : B ≤ w.heap.size) (hx : RtOk w B x) (hsx : Small x) (hy : RtOk w B y) (hsy : Small y) :
    Calls Try.prog 36 #[.int .i64 1, x.val, y.val] w fun e w' => e = .returned (.bool (worse 1 (lookOf x) (lookOf y))) ∧ Below w.heap.size w w' := by
  have HX := Lib.hid (fun w' (h : Below w.heap.size w w') => rlength_any x w' B (Nat.le_trans hB h.size) (hx.below (h.mono hB)) hsx)
  have HY := Lib.hid (fun w' (h : Below w.heap.size w w') => rlength_any y w' B (Nat.le_trans hB h.size) (hy.below (h.mono hB)) hsy)
  clear hx hsx hy hsy
  unfold Rt.val
  unfold Rt.attrs at HX HY
  go_enter Try.func36, Try.ntmps36
  go_wp2_with fail
  refine wp_region_quiet_tail (fun w' => Below (w.heap.size + 2) ((w.alloc (.cells #[.int .i64 x.r, .int .u32 x.a, .int .i64 x.l, .int .i64 x.i, .int .i64 x.o, .slice x.pa x.pn x.pc, .int .u32 x.nx, .int .i64 x.md, .int .i64 x.pf, .slice x.ca x.cn x.cc] 40)).alloc (.cells #[.int .i64 y.r, .int .u32 y.a, .int .i64 y.l, .int .i64 y.i, .int .i64 y.o, .slice y.pa y.pn y.pc, .int .u32 y.nx, .int .i64 y.md, .int .i64 y.pf, .slice y.ca y.cn y.cc] 40)) w') 7 (by kernel_rfl) (by kernel_rfl) (Below.drew (Below.refl _ _)) ?_
  simp only [List.take_succ_cons, List.take_zero, List.drop_succ_cons, List.drop_zero]
  iterate 7 (refine wpQuiet_step (fun K hK => ?_); go_simp; first | (refine hK _ ?_; clear hK K) | (apply Exists.intro; refine ⟨fun w' hw' => ?_, hK _ ?_⟩; first | (go_at_call 42; (with_reducible refine (HX.out w' ((((Below.refl _ _).alloc (Nat.le_refl _) _).alloc (by simp) _).trans (hw'.mono (by omega)))).mono ?_); rintro e w2 ⟨rfl, hb⟩; exact ⟨rfl, hw'.trans (hb.mono (by have := hw'.size; simp at this; omega))⟩) | (go_at_call 42; (with_reducible refine (HY.out w' ((((Below.refl _ _).alloc (Nat.le_refl _) _).alloc (by simp) _).trans (hw'.mono (by omega)))).mono ?_); rintro e w2 ⟨rfl, hb⟩; exact ⟨rfl, hw'.trans (hb.mono (by have := hw'.size; simp at this; omega))⟩) | (have hc0 := fun j => Below.cell hw' (p := ⟨w.heap.size, j, none⟩) (by simp); have hc1 := fun j => Below.cell hw' (p := ⟨w.heap.size + 1, j, none⟩) (by simp); go_simp; first | exact rfl | exact ⟨rfl, rfl⟩); clear hK K))
  refine wpQuiet_nil ?_
  intro wq hq
  go_wp2_with fail
  go_ret
  exact ⟨ret_bool (by unfold worse lookOf; simp), (((Below.refl _ _).alloc (Nat.le_refl _) _).alloc (by simp) _).trans (hq.mono (by omega))⟩
set_option maxHeartbeats 2000000 in
theorem worse2 (x y : Rt) (w : World) (B : Nat) (_hB : B ≤ w.heap.size) (_hx : RtOk w B x) (_hsx : Small x) (_hy : RtOk w B y) (_hsy : Small y) :
    Calls Try.prog 36 #[.int .i64 2, x.val, y.val] w fun e w' => e = .returned (.bool (worse 2 (lookOf x) (lookOf y))) ∧ Below w.heap.size w w' := by
  clear _hx _hsx _hy _hsy
  unfold Rt.val
  go_enter Try.func36, Try.ntmps36
  go_wp2_with fail
  go_ret
  exact ⟨ret_bool (by unfold worse lookOf; simp), ((Below.refl _ _).alloc (Nat.le_refl _) _).alloc (by simp) _⟩
set_option maxHeartbeats 2000000 in
theorem worse3 (x y : Rt) (w : World) (B : Nat) (hB : B ≤ w.heap.size) (hx : RtOk w B x) (_hsx : Small x) (hy : RtOk w B y) (_hsy : Small y) :
    Calls Try.prog 36 #[.int .i64 3, x.val, y.val] w fun e w' => e = .returned (.bool (worse 3 (lookOf x) (lookOf y))) ∧ Below w.heap.size w w' := by
  have HX := Lib.hid (fun w' (h : Below w.heap.size w w') => rfirst_any x w' B (Nat.le_trans hB h.size) (hx.below (h.mono hB)))
  have HY := Lib.hid (fun w' (h : Below w.heap.size w w') => rfirst_any y w' B (Nat.le_trans hB h.size) (hy.below (h.mono hB)))
  have MX := Lib.hid (fun w' => rmed_any x w')
  have MY := Lib.hid (fun w' => rmed_any y w')
  clear hx _hsx hy _hsy
  unfold Rt.val
  unfold Rt.attrs at HX HY MX MY
  rcases Bool.eq_false_or_eq_true (pfirst x.path == pfirst y.path) with hfe | hfe
  all_goals
    have HE := Lib.hid hfe
    go_enter Try.func36, Try.ntmps36
    go_wp2_with fail
    refine wp_region_quiet_tail (fun w' => Below (w.heap.size + 2) ((w.alloc (.cells #[.int .i64 x.r, .int .u32 x.a, .int .i64 x.l, .int .i64 x.i, .int .i64 x.o, .slice x.pa x.pn x.pc, .int .u32 x.nx, .int .i64 x.md, .int .i64 x.pf, .slice x.ca x.cn x.cc] 40)).alloc (.cells #[.int .i64 y.r, .int .u32 y.a, .int .i64 y.l, .int .i64 y.i, .int .i64 y.o, .slice y.pa y.pn y.pc, .int .u32 y.nx, .int .i64 y.md, .int .i64 y.pf, .slice y.ca y.cn y.cc] 40)) w') 16 (by kernel_rfl) (by kernel_rfl) (Below.drew (Below.refl _ _)) ?_
    simp only [List.take_succ_cons, List.take_zero, List.drop_succ_cons, List.drop_zero]
    iterate 16 (refine wpQuiet_step (fun K hK => ?_); go_simp; first | (refine hK _ ?_; clear hK K) | (apply Exists.intro; refine ⟨fun w' hw' => ?_, hK _ ?_⟩; first | (go_at_call 43; (with_reducible refine (HX.out w' ((((Below.refl _ _).alloc (Nat.le_refl _) _).alloc (by simp) _).trans (hw'.mono (by omega)))).mono ?_); rintro e w2 ⟨rfl, hb⟩; exact ⟨rfl, hw'.trans (hb.mono (by have := hw'.size; simp at this; omega))⟩) | (go_at_call 43; (with_reducible refine (HY.out w' ((((Below.refl _ _).alloc (Nat.le_refl _) _).alloc (by simp) _).trans (hw'.mono (by omega)))).mono ?_); rintro e w2 ⟨rfl, hb⟩; exact ⟨rfl, hw'.trans (hb.mono (by have := hw'.size; simp at this; omega))⟩) | (go_at_call 44; (with_reducible refine (MX.out w').mono ?_); rintro e w2 ⟨rfl, hb⟩; exact ⟨rfl, hw'.trans (hb.mono (by have := hw'.size; simp at this; omega))⟩) | (go_at_call 44; (with_reducible refine (MY.out w').mono ?_); rintro e w2 ⟨rfl, hb⟩; exact ⟨rfl, hw'.trans (hb.mono (by have := hw'.size; simp at this; omega))⟩) | (have hc0 := fun j => Below.cell hw' (p := ⟨w.heap.size, j, none⟩) (by simp); have hc1 := fun j => Below.cell hw' (p := ⟨w.heap.size + 1, j, none⟩) (by simp); go_simp; first | exact rfl | exact ⟨rfl, rfl⟩); clear hK K))
    refine wpQuiet_nil ?_
    intro wq hq
    clear hfe
    go_wp2_with fail
    go_ret
    have hfe := HE.out
    exact ⟨ret_bool (by unfold worse lookOf; simp at hfe ⊢; simp [hfe]), (((Below.refl _ _).alloc (Nat.le_refl _) _).alloc (by simp) _).trans (hq.mono (by omega))⟩
set_option maxHeartbeats 2000000 in
theorem worse4 (x y : Rt) (w : World) (B : Nat) (_hB : B ≤ w.heap.size) (_hx : RtOk w B x) (_hsx : Small x) (_hy : RtOk w B y) (_hsy : Small y) :
    Calls Try.prog 36 #[.int .i64 4, x.val, y.val] w fun e w' => e = .returned (.bool (worse 4 (lookOf x) (lookOf y))) ∧ Below w.heap.size w w' := by
  clear _hx _hsx _hy _hsy
  unfold Rt.val
  go_enter Try.func36, Try.ntmps36
  go_wp2_with fail
  go_ret
  exact ⟨ret_bool (by unfold worse lookOf; simp), ((Below.refl _ _).alloc (Nat.le_refl _) _).alloc (by simp) _⟩
set_option maxHeartbeats 2000000 in
theorem worse5 (x y : Rt) (w : World) (B : Nat) (_hB : B ≤ w.heap.size) (_hx : RtOk w B x) (_hsx : Small x) (_hy : RtOk w B y) (_hsy : Small y) :
    Calls Try.prog 36 #[.int .i64 5, x.val, y.val] w fun e w' => e = .returned (.bool (worse 5 (lookOf x) (lookOf y))) ∧ Below w.heap.size w w' := by
  clear _hx _hsx _hy _hsy
  unfold Rt.val
  go_enter Try.func36, Try.ntmps36
  go_wp2_with fail
  go_ret
  exact ⟨ret_bool (by unfold worse lookOf; simp), ((Below.refl _ _).alloc (Nat.le_refl _) _).alloc (by simp) _⟩
end Go.Proofs.Ytlgmoiilfigamaa
