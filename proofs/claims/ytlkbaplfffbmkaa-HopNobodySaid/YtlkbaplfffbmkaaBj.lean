/- HopNobody: the law's walk. -/
import Derived.Test.YtlkbaplfffbmkaaBi
namespace Go.Proofs.Ytlkbaplfffbmkaa
open Go.RowKit

theorem ZeroAt.get {w : World} {b : Nat} (h : w.heap[b]? = some (.cells #[.int .i64 0, .int .i64 0, .int .u32 0, .int .i64 0, .int .i64 0] 34)) : w.cell? ⟨b, 0, none⟩ = some (.int .i64 0) ∧ w.cell? ⟨b, 1, none⟩ = some (.int .i64 0) ∧ w.cell? ⟨b, 2, none⟩ = some (.int .u32 0) ∧ w.cell? ⟨b, 3, none⟩ = some (.int .i64 0) ∧ w.cell? ⟨b, 4, none⟩ = some (.int .i64 0) := ⟨cell_of h rfl, cell_of h rfl, cell_of h rfl, cell_of h rfl, cell_of h rfl⟩
set_option maxRecDepth 100000 in
set_option maxHeartbeats 1000000 in
theorem hnob_law (ρ a : Int) (w : World) : Calls Try.prog 6 #[.int .i64 ρ, .int .u32 a] w fun e w' => e = .returned (.bool true) ∧ Below w.heap.size w w' := by
  go_enter Try.func6, Try.ntmps6
  go_wp2_with fail
  refine (find_nil ρ a w).mono ?_
  rintro e W1 ⟨rfl, hb1⟩
  have hal := (Below.refl W1.heap.size W1).alloc (Nat.le_refl _) (.cells #[.int .i64 0, .int .i64 0, .int .u32 0, .int .i64 0, .int .i64 0] 34)
  have hlb : (W1.alloc (.cells #[.int .i64 0, .int .i64 0, .int .u32 0, .int .i64 0, .int .i64 0] 34)).heap[W1.heap.size]? = some (.cells #[.int .i64 0, .int .i64 0, .int .u32 0, .int .i64 0, .int .i64 0] 34) := hnew _ _
  have F0 := Lib.hid (And.intro (bcall hb1 (Nat.le_refl _) hal) hlb)
  clear hal hlb hb1
  go_wp2_with fail
  generalize W1.alloc (.cells #[.int .i64 0, .int .i64 0, .int .u32 0, .int .i64 0, .int .i64 0] 34) = W2 at *
  generalize W1.heap.size = q1 at *
  refine (iface_nil ρ W2).mono ?_
  rintro e W3 ⟨rfl, hb3⟩
  have hal := (Below.refl W3.heap.size W3).alloc (Nat.le_refl _) (.cells #[.int .i64 0, .int .i64 0, .int .u32 0, .int .i64 0, .int .i64 0] 34)
  have hlb : (W3.alloc (.cells #[.int .i64 0, .int .i64 0, .int .u32 0, .int .i64 0, .int .i64 0] 34)).heap[W3.heap.size]? = some (.cells #[.int .i64 0, .int .i64 0, .int .u32 0, .int .i64 0, .int .i64 0] 34) := hnew _ _
  have hbb := bcall hb3 (Nat.le_refl _) hal
  have F1 := Lib.hid (And.intro (bcall F0.out.1 (Nat.le_refl _) hbb) (And.intro ((hbb.block _ (lt_of_blk F0.out.2)).trans F0.out.2) (hlb)))
  clear F0
  clear hal hlb hbb hb3
  go_wp2_with fail
  generalize W3.alloc (.cells #[.int .i64 0, .int .i64 0, .int .u32 0, .int .i64 0, .int .i64 0] 34) = W4 at *
  generalize W3.heap.size = q3 at *
  refine (lives16 W4).mono ?_
  rintro e W5 ⟨rfl, hb4⟩
  have F2 := Lib.hid (And.intro (bcall F1.out.1 (Nat.le_refl _) hb4) (And.intro ((hb4.block _ (lt_of_blk F1.out.2.1)).trans F1.out.2.1) (((hb4.block _ (lt_of_blk F1.out.2.2)).trans F1.out.2.2))))
  clear F1
  clear hb4
  obtain ⟨x0, x1, x2, x3, x4⟩ := ZeroAt.get F2.out.2.1
  obtain ⟨y0, y1, y2, y3, y4⟩ := ZeroAt.get F2.out.2.2
  go_wp2_with fail
  refine (all_nil W5).mono ?_
  rintro e W6 ⟨rfl, rfl⟩
  go_wp2_with fail
  refine (len_nil W6).mono ?_
  rintro e W7 ⟨rfl, rfl⟩
  go_wp2_with fail
  go_ret
  exact ⟨rfl, F2.out.1⟩
end Go.Proofs.Ytlkbaplfffbmkaa
