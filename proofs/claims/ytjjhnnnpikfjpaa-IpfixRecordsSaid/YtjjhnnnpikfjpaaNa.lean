/- Numbers: within, Fits; bytes as lists. -/
import Derived.Test.YtjjhnnnpikfjpaaRows
import Derived.Test.YtjjhnnnpikfjpaaAp
import Derived.Test.YtjjhnnnpikfjpaaMx
namespace Go.Proofs.Ytjjhnnnpikfjpaa
open Go.RowKit

theorem within_any (n a b : Int) (w : World) : Calls Try.prog 29 #[.int .i64 n, .int .i64 a, .int .i64 b] w fun e w' => e = .returned (.bool (decide (a ≤ n) && decide (n ≤ b))) ∧ w' = w := by
  by_cases h : a ≤ n
  all_goals
    go_enter Try.func29, Try.ntmps29
    go_wp2_with fail
    go_ret
    exact ⟨ret_bool (by simp; omega), rfl⟩
theorem fits2 (n : Int) (w : World) : Calls Try.prog 28 #[.int .i64 n, .int .i64 2] w fun e w' => e = .returned (.bool (decide (0 ≤ n) && decide (n < 65536))) ∧ w' = w := by
  by_cases h : 0 ≤ n
  all_goals
    go_enter Try.func28, Try.ntmps28
    go_wp2_with fail
    go_ret
    exact ⟨ret_bool (by simp; omega), rfl⟩
theorem fits4 (n : Int) (w : World) : Calls Try.prog 28 #[.int .i64 n, .int .i64 4] w fun e w' => e = .returned (.bool (decide (0 ≤ n) && decide (n < 4294967296))) ∧ w' = w := by
  by_cases h : 0 ≤ n
  all_goals
    go_enter Try.func28, Try.ntmps28
    go_wp2_with fail
    go_ret
    exact ⟨ret_bool (by simp; omega), rfl⟩
end Go.Proofs.Ytjjhnnnpikfjpaa
