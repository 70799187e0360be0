/- A deed that may not be; lives. -/
import Derived.Test.YtopdohmpaapiiaaWh
namespace Go.Proofs.Ytopdohmpaapiiaa
open Go.RowKit
open Go.ChangeMaps (setBlock)

theorem Damp1.below {w w' : World} {d bm bp clock born : Nat} {s : Sett} {k : Key} {p : Pen} (h : Damp1 w d bm bp clock born s k p) (hb : Below w.heap.size w w') : Damp1 w' d bm bp clock born s k p :=
  h.mk' (But.of_below hb [bp]) ((hb.block _ (lt_of_blk h.pen)).trans h.pen) h.n0 h.n1 h.a0 h.a1
theorem DampE.below {w w' : World} {d bm clock : Nat} {s : Sett} (h : DampE w d bm clock s) (hb : Below w.heap.size w w') : DampE w' d bm clock s :=
  ⟨(hb.block _ (lt_of_blk h.blk)).trans h.blk, h.map.blk_iff KN (hb.block _ (lt_of_blk h.map.blk))⟩
theorem Below.step {B : Nat} {w w1 w2 : World} {bs : List Nat} (h : Below B w w1) (hB : B ≤ w1.heap.size) (k : But w1 w2 bs) (hbs : ∀ b ∈ bs, B ≤ b) : Below B w w2 := h.trans (k.below hB hbs)

def K1 : Key := ⟨1, 167772160, 8, 0⟩
theorem K1_wf : K1.wf := by unfold Key.wf K1; decide
theorem K1_chk : chk K1.a K1.l = true := by kernel_rfl
def U : Sett := ⟨1000, 500, 2000, 750, 10⟩
theorem U_ok : U.ok := by unfold Sett.ok U; decide

theorem deed_bad (d bm bp clock born : Nat) (s : Sett) (p : Pen) (now : Int) (w : World) (h : Damp1 w d bm bp clock born s K1 p) :
    Calls Try.prog 8 #[.pointer (some ⟨d, 0, none⟩), K1.val, .int .i64 0, .int .i64 now] w fun e w' => e = .returned (.tuple #[.bool false, .int .i64 1]) ∧ Below w.heap.size w w' := by
  have ld := lt_of_blk h.blk
  have lm := lt_of_blk h.map.blk
  have c5 : w.cell? ⟨d, 5, none⟩ = some (.map (some bm)) := cell_of h.blk rfl
  have hlk := fun (o : Obj) (q : Nat) => MR.run_lookup KN (h.map.blk_iff KN (heap_ad lm o q)) K1_wf Try.underlying46 zero49 false
  have hg : MR.get? [(K1, (Value.pointer (some ⟨bp, 0, none⟩)), born)] K1 = some (.pointer (some ⟨bp, 0, none⟩)) := by simp [MR.get?]
  rw [hg] at hlk
  simp only [KN, Key.val, K1, Option.getD_some, Bool.false_eq_true, if_false] at hlk
  have HC := Lib.hid (fun w => check_any K1.a K1.l w)
  simp only [K1_chk, if_true] at HC
  have HH := Lib.hid h
  clear h hg
  unfold Key.val K1
  go_enter Try.func8, Try.ntmps8
  go_wp2_with fail
  refine (made_yes d bm s _ (hold HH.out.blk)).mono ?_
  rintro e w' ⟨rfl, rfl⟩
  go_wp2_with fail
  go_quiet (fail)
  go_wp2_with fail
  refine (HC.out _).mono ?_
  rintro e w1 ⟨rfl, hb⟩
  go_wp2_with fail
  go_ret2
  exact ⟨rfl, (bdn ((Below.refl _ _).alloc (Nat.le_refl _) _) _).trans (hb.mono (by simp))⟩

theorem e1 : Pen.deed U (0, 100, false) 3 100 = (1000, 100, false) := by kernel_rfl
theorem e2 : Pen.at U (1000, 100, false) (near 110) = (875, 110, false) := by kernel_rfl
theorem e3 : Pen.at U (875, 110, false) (near 120) = (766, 120, false) := by kernel_rfl
theorem e4 : Pen.deed U (766, 120, false) 3 120 = (1766, 120, false) := by kernel_rfl
theorem e5 : Pen.deed U (1766, 120, false) 2 121 = (2266, 120, true) := by kernel_rfl
theorem e6 : Pen.at U (2266, 120, true) (near 125) = (2266, 120, true) := by kernel_rfl
theorem e7 : (Pen.at U (2266, 120, true) (near 300)).2.2 = false := by kernel_rfl
theorem e8 : (Pen.at U (Pen.at U (2266, 120, true) (near 300)) (near 100000)).1 = 0 := by kernel_rfl
theorem e9 : (Pen.at U (Pen.at U (2266, 120, true) (near 300)) (near 100000)).2.2 = false := by kernel_rfl
end Go.Proofs.Ytopdohmpaapiiaa
