/- The checks of settings, New, key, Usual. -/
import Derived.Test.YtopdohmpaapiiaaWc
namespace Go.Proofs.Ytopdohmpaapiiaa
open Go.RowKit
open Go.ChangeMaps (setBlock)

def Sett.ok (s : Sett) : Prop := 0 ≤ s.g ∧ s.g ≤ 1048576 ∧ 0 ≤ s.o ∧ s.o ≤ 1048576 ∧ 0 ≤ s.hi ∧ s.hi ≤ 1048576 ∧ 0 ≤ s.lo ∧ s.lo ≤ s.hi ∧ 1 ≤ s.e ∧ s.e ≤ 1048576
def Sett.okB (s : Sett) : Bool := decide (0 ≤ s.g ∧ s.g ≤ 1048576 ∧ 0 ≤ s.o ∧ s.o ≤ 1048576 ∧ 0 ≤ s.hi ∧ s.hi ≤ 1048576 ∧ 0 ≤ s.lo ∧ s.lo ≤ s.hi ∧ 1 ≤ s.e ∧ s.e ≤ 1048576)
theorem Sett.okB_iff {s : Sett} : s.okB = true ↔ s.ok := by unfold Sett.okB Sett.ok; simp
def Sett.val (s : Sett) : Value := .agg #[.int .i64 s.g, .int .i64 s.o, .int .i64 s.hi, .int .i64 s.lo, .int .i64 s.e]

theorem refCheck_any (s : Sett) (w : World) : Calls Try.prog 5 #[s.val] w fun e w' => e = .returned (.bool s.okB) ∧ Below w.heap.size w w' := by
  obtain ⟨g, o, hi, lo, e⟩ := s
  unfold Sett.val Sett.okB
  go_enter Try.func5, Try.ntmps5
  go_wp2
  all_goals
    go_ret
    exact ⟨ret_bool (by simp [*]; try omega), bdn ((Below.refl _ _).alloc (Nat.le_refl _) _) 0⟩

theorem check_ok (s : Sett) (h : s.ok) (w : World) : Calls Try.prog 15 #[s.val] w fun e w' => e = .returned (.int .i64 0) ∧ Below w.heap.size w w' := by
  obtain ⟨g, o, hi, lo, e⟩ := s
  obtain ⟨h1, h2, h3, h4, h5, h6, h7, h8, h9, h10⟩ := h
  dsimp only at h1 h2 h3 h4 h5 h6 h7 h8 h9 h10
  unfold Sett.val
  go_enter Try.func15, Try.ntmps15
  go_wp2_with (go_at_call 23; refine (in_any _ _ _).mono ?_; rintro e w' ⟨rfl, rfl⟩)
  go_ret
  exact ⟨rfl, bdn ((Below.refl _ _).alloc (Nat.le_refl _) _) 0⟩

theorem check_zero (w : World) : Calls Try.prog 15 #[.agg #[.int .i64 0, .int .i64 0, .int .i64 0, .int .i64 0, .int .i64 0]] w fun e w' => e = .returned (.int .i64 1) ∧ Below w.heap.size w w' := by
  go_enter Try.func15, Try.ntmps15
  go_wp2_with (go_at_call 23; refine (in_any _ _ _).mono ?_; rintro e w' ⟨rfl, rfl⟩)
  go_ret
  exact ⟨rfl, bdn ((Below.refl _ _).alloc (Nat.le_refl _) _) 0⟩

theorem key_any (r : Int) (w : World) : Calls Try.prog 9 #[.int .i64 r] w fun e w' => e = .returned (.agg #[.int .i64 r, .int .u32 167772160, .int .i64 8, .int .i64 0]) ∧ Below w.heap.size w w' := by
  go_enter Try.func9, Try.ntmps9
  go_wp2
  go_returns
  exact ⟨rfl, bdn ((Below.refl _ _).alloc (Nat.le_refl _) _) 0⟩

theorem usual_any (w : World) : Calls Try.prog 12 #[] w fun e w' => e = .returned (.agg #[.int .i64 1000, .int .i64 500, .int .i64 2000, .int .i64 750, .int .i64 10]) ∧ Below w.heap.size w w' := by
  go_enter Try.func12, Try.ntmps12
  go_wp2
  go_returns
  exact ⟨rfl, bdn ((Below.refl _ _).alloc (Nat.le_refl _) _) 0⟩

/-- New: by settings that may be -/
structure Made (w w' : World) (d bm : Nat) (s : Sett) : Prop where
  blk : w'.heap[d]? = some (s.obj bm)
  map : w'.heap[bm]? = some (.map #[] 0)
  d0 : w.heap.size ≤ d
  b0 : w.heap.size ≤ bm
  below : Below w.heap.size w w'
theorem new_ok (s : Sett) (h : s.ok) (w : World) : Calls Try.prog 7 #[s.val] w fun e w' => ∃ d bm, e = .returned (.tuple #[.pointer (some ⟨d, 0, none⟩), .int .i64 0]) ∧ Made w w' d bm s := by
  have hmm := @run_makeMap Try.prog
  have hc := check_ok s h
  have HC := Lib.hid hc
  clear hc h
  unfold Sett.val
  go_enter Try.func7, Try.ntmps7
  go_wp2_with (go_at_call 15; refine (HC.out _).mono ?_; rintro e w1 ⟨rfl, hb⟩; have hc : ∀ o, w1.cell? ⟨w.heap.size, o, none⟩ = _ := fun o => hb.cell (p := ⟨w.heap.size, o, none⟩) (by simp); have hs := hb.size)
  go_ret2
  have hb' : Below w.heap.size w w1 := ((Below.refl _ _).alloc (Nat.le_refl _) _).trans (hb.mono (by simp))
  refine ⟨w1.heap.size + 1, w1.heap.size, rfl, ?_, ?_, ?_, ?_, ?_⟩
  · exact hnewAt (by simp)
  · exact hold (hnew _ _)
  · have := hb'.size; omega
  · have := hb'.size; omega
  · exact ((hb'.alloc hb'.size _).alloc (by have := hb'.size; simp; omega) _)
theorem new_zero (w : World) : Calls Try.prog 7 #[.agg #[.int .i64 0, .int .i64 0, .int .i64 0, .int .i64 0, .int .i64 0]] w fun e w' => e = .returned (.tuple #[.pointer none, .int .i64 1]) ∧ Below w.heap.size w w' := by
  go_enter Try.func7, Try.ntmps7
  go_wp2_with (go_at_call 15; refine (check_zero _).mono ?_; rintro e w1 ⟨rfl, hb⟩)
  go_ret2
  exact ⟨rfl, ((Below.refl _ _).alloc (Nat.le_refl _) _).trans (hb.mono (by simp))⟩
end Go.Proofs.Ytopdohmpaapiiaa
