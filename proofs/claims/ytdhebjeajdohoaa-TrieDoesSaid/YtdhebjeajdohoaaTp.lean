/- Slices of prefixes. -/
import Derived.Test.YtdhebjeajdohoaaTl
import Derived.Test.YtdhebjeajdohoaaWk
import Derived.Maps.AppendAt
namespace Go.Proofs.Ytdhebjeajdohoaa
open Go.RowKit

def RP : Rep (Nat × Nat) := ⟨32, 2, by decide, fun x => [.int .u32 x.1, .int .i64 x.2], fun _ => rfl, fun _ => rfl⟩
theorem info32 : (Try.prog.info? 32).map (fun i => (i.zero, i.size, i.bytes)) = some (some (.agg #[.int .u32 0, .int .i64 0]), 2, 16) := by kernel_rfl
theorem T41 : Rep.Ty Try.prog 41 RP 16 := Rep.Ty.mk' Try.underlying41 (z := .agg #[.int .u32 0, .int .i64 0]) info32 rfl
theorem cell_two_new (w : World) (x y : Value) (t : TypeId) : ∀ j u, [x, y][j]? = some u → (w.alloc (.cells #[x, y] t)).cell? ((⟨w.heap.size, 0, none⟩ : Addr).add j) = some u := by
  intro j u hj
  have hadd : (⟨w.heap.size, 0, none⟩ : Addr).add j = ⟨w.heap.size, j, none⟩ := by unfold Addr.add; split <;> simp_all
  rw [hadd]
  exact cell_of (hnew _ _) (by simpa using hj)
end Go.Proofs.Ytdhebjeajdohoaa
