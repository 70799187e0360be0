/- one, Ten. -/
import Derived.Test.YtfmehahjjgalfaaDj
namespace Go.Proofs.Ytfmehahjjgalfaa
open Go.RowKit

theorem ten1 (w : World) : Calls Try.prog 60 #[.int .i64 1] w fun e w' => e = .returned (.agg #[.int .u32 167837696, .int .i64 16]) ∧ Below w.heap.size w w' := by
  have hb : bits .and .i64 1 255 = 1 := by decide
  have HB := Lib.hid ((Below.refl w.heap.size w).alloc (Nat.le_refl _) (.cells #[.int .u32 167837696, .int .i64 16] 58))
  go_enter Try.func60, Try.ntmps60
  go_wp2_with fail
  refine ret_cell (b := w.heap.size) rfl rfl rfl (hnew _ _) Try.underlying58 rfl (by kernel_rfl) ?_
  exact ⟨rfl, HB.out⟩
theorem ten2 (w : World) : Calls Try.prog 60 #[.int .i64 2] w fun e w' => e = .returned (.agg #[.int .u32 167903232, .int .i64 16]) ∧ Below w.heap.size w w' := by
  have hb : bits .and .i64 2 255 = 2 := by decide
  have HB := Lib.hid ((Below.refl w.heap.size w).alloc (Nat.le_refl _) (.cells #[.int .u32 167903232, .int .i64 16] 58))
  go_enter Try.func60, Try.ntmps60
  go_wp2_with fail
  refine ret_cell (b := w.heap.size) rfl rfl rfl (hnew _ _) Try.underlying58 rfl (by kernel_rfl) ?_
  exact ⟨rfl, HB.out⟩
theorem ten7 (w : World) : Calls Try.prog 60 #[.int .i64 7] w fun e w' => e = .returned (.agg #[.int .u32 168230912, .int .i64 16]) ∧ Below w.heap.size w w' := by
  have hb : bits .and .i64 7 255 = 7 := by decide
  have HB := Lib.hid ((Below.refl w.heap.size w).alloc (Nat.le_refl _) (.cells #[.int .u32 168230912, .int .i64 16] 58))
  go_enter Try.func60, Try.ntmps60
  go_wp2_with fail
  refine ret_cell (b := w.heap.size) rfl rfl rfl (hnew _ _) Try.underlying58 rfl (by kernel_rfl) ?_
  exact ⟨rfl, HB.out⟩
theorem one1 (u : Int) (w : World) : Calls Try.prog 66 #[.int .i64 1, .int .i64 u] w fun e w' => e = .returned (.agg #[.int .i64 1, .int .u32 167837696, .int .i64 16, .int .i64 2, .int .i64 u]) ∧ Below w.heap.size w w' := by
  have hal := (Below.refl w.heap.size w).alloc (Nat.le_refl _) (.cells #[.int .i64 0, .int .u32 0, .int .i64 0, .int .i64 0, .int .i64 0] 62)
  have hz : (w.alloc (.cells #[.int .i64 0, .int .u32 0, .int .i64 0, .int .i64 0, .int .i64 0] 62)).heap[w.heap.size]? = some (.cells #[.int .i64 0, .int .u32 0, .int .i64 0, .int .i64 0, .int .i64 0] 62) := hnew _ _
  have F := Lib.hid (And.intro hal hz)
  clear hal hz
  go_enter Try.func66, Try.ntmps66
  go_wp2_with fail
  refine (ten1 _).mono ?_
  rintro e W1 ⟨rfl, hb⟩
  have F2 := Lib.hid (And.intro (bcall F.out.1 (Nat.le_refl _) hb) ((hb.block _ (lt_of_blk F.out.2)).trans F.out.2))
  clear hb F
  go_wp2_with (with_reducible refine halt_store 62 (x := .tmp 4) rfl ?_)
  refine Halted.go ?_
  refine store_whole rfl 62 _ _ rfl w.heap.size #[.int .i64 1, .int .u32 167837696, .int .i64 16, .int .i64 2, .int .i64 u] rfl rfl F2.out.2 rfl (by kernel_rfl) (by simp [Value.oneCell']) ?_
  intro Wz hwz hsz
  have HZ := Lib.hid (And.intro hwz (F2.out.1.trans (hsz.below (Nat.le_refl _))))
  clear hwz hsz
  go_wp2_with fail
  refine ret_cell rfl rfl rfl HZ.out.1 Try.underlying62 rfl (by kernel_rfl) ?_
  exact ⟨rfl, HZ.out.2⟩
theorem one2 (u : Int) (w : World) : Calls Try.prog 66 #[.int .i64 2, .int .i64 u] w fun e w' => e = .returned (.agg #[.int .i64 1, .int .u32 167903232, .int .i64 16, .int .i64 2, .int .i64 u]) ∧ Below w.heap.size w w' := by
  have hal := (Below.refl w.heap.size w).alloc (Nat.le_refl _) (.cells #[.int .i64 0, .int .u32 0, .int .i64 0, .int .i64 0, .int .i64 0] 62)
  have hz : (w.alloc (.cells #[.int .i64 0, .int .u32 0, .int .i64 0, .int .i64 0, .int .i64 0] 62)).heap[w.heap.size]? = some (.cells #[.int .i64 0, .int .u32 0, .int .i64 0, .int .i64 0, .int .i64 0] 62) := hnew _ _
  have F := Lib.hid (And.intro hal hz)
  clear hal hz
  go_enter Try.func66, Try.ntmps66
  go_wp2_with fail
  refine (ten2 _).mono ?_
  rintro e W1 ⟨rfl, hb⟩
  have F2 := Lib.hid (And.intro (bcall F.out.1 (Nat.le_refl _) hb) ((hb.block _ (lt_of_blk F.out.2)).trans F.out.2))
  clear hb F
  go_wp2_with (with_reducible refine halt_store 62 (x := .tmp 4) rfl ?_)
  refine Halted.go ?_
  refine store_whole rfl 62 _ _ rfl w.heap.size #[.int .i64 1, .int .u32 167903232, .int .i64 16, .int .i64 2, .int .i64 u] rfl rfl F2.out.2 rfl (by kernel_rfl) (by simp [Value.oneCell']) ?_
  intro Wz hwz hsz
  have HZ := Lib.hid (And.intro hwz (F2.out.1.trans (hsz.below (Nat.le_refl _))))
  clear hwz hsz
  go_wp2_with fail
  refine ret_cell rfl rfl rfl HZ.out.1 Try.underlying62 rfl (by kernel_rfl) ?_
  exact ⟨rfl, HZ.out.2⟩
theorem one7 (u : Int) (w : World) : Calls Try.prog 66 #[.int .i64 7, .int .i64 u] w fun e w' => e = .returned (.agg #[.int .i64 1, .int .u32 168230912, .int .i64 16, .int .i64 2, .int .i64 u]) ∧ Below w.heap.size w w' := by
  have hal := (Below.refl w.heap.size w).alloc (Nat.le_refl _) (.cells #[.int .i64 0, .int .u32 0, .int .i64 0, .int .i64 0, .int .i64 0] 62)
  have hz : (w.alloc (.cells #[.int .i64 0, .int .u32 0, .int .i64 0, .int .i64 0, .int .i64 0] 62)).heap[w.heap.size]? = some (.cells #[.int .i64 0, .int .u32 0, .int .i64 0, .int .i64 0, .int .i64 0] 62) := hnew _ _
  have F := Lib.hid (And.intro hal hz)
  clear hal hz
  go_enter Try.func66, Try.ntmps66
  go_wp2_with fail
  refine (ten7 _).mono ?_
  rintro e W1 ⟨rfl, hb⟩
  have F2 := Lib.hid (And.intro (bcall F.out.1 (Nat.le_refl _) hb) ((hb.block _ (lt_of_blk F.out.2)).trans F.out.2))
  clear hb F
  go_wp2_with (with_reducible refine halt_store 62 (x := .tmp 4) rfl ?_)
  refine Halted.go ?_
  refine store_whole rfl 62 _ _ rfl w.heap.size #[.int .i64 1, .int .u32 168230912, .int .i64 16, .int .i64 2, .int .i64 u] rfl rfl F2.out.2 rfl (by kernel_rfl) (by simp [Value.oneCell']) ?_
  intro Wz hwz hsz
  have HZ := Lib.hid (And.intro hwz (F2.out.1.trans (hsz.below (Nat.le_refl _))))
  clear hwz hsz
  go_wp2_with fail
  refine ret_cell rfl rfl rfl HZ.out.1 Try.underlying62 rfl (by kernel_rfl) ?_
  exact ⟨rfl, HZ.out.2⟩
end Go.Proofs.Ytfmehahjjgalfaa
