/- made, find, at nodes. -/
import Derived.Test.YtlkbaplfffbmkaaTa
namespace Go.Proofs.Ytlkbaplfffbmkaa
open Go.RowKit

abbrev TrieI := TrieAt (α := Int) 110 112 (Value.int .i64) (0 : Int)
theorem madeI_nil (w : World) : Calls Try.prog 55 #[.pointer none] w fun e w' => e = .returned (.bool false) ∧ w' = w := by
  go_enter Try.func55, Try.ntmps55
  go_wp2_with fail
  go_ret
  exact ⟨rfl, rfl⟩
theorem madeI_any {w : World} {b n : Nat} {N : Nat → Nat → Option Nat} {M : Nat → Nat → Option Int} (h : TrieI w b N n M) : Calls Try.prog 55 #[.pointer (some ⟨b, 0, none⟩)] w fun e w' => e = .returned (.bool true) ∧ w' = w := by
  obtain ⟨r, hr, hb⟩ := h.root
  have c0 : w.cell? ⟨b, 0, none⟩ = some (.pointer (some ⟨r, 0, none⟩)) := cell_of hb rfl
  clear h hb
  go_enter Try.func55, Try.ntmps55
  go_wp2_with fail
  go_ret
  exact ⟨rfl, rfl⟩
/-- a node's cells -/
theorem nodeI {w : World} {b n : Nat} {N : Nat → Nat → Option Nat} {M : Nat → Nat → Option Int} (h : TrieI w b N n M) {a d k : Nat} (hk : N a d = some k) :
    w.cell? ⟨k, 0, none⟩ = some (ptr (N (kid a d false) (d + 1))) ∧ w.cell? ⟨k, 1, none⟩ = some (ptr (N (kid a d true) (d + 1))) ∧ w.cell? ⟨k, 2, none⟩ = some (.int .i64 ((M a d).getD (0 : Int))) ∧ w.cell? ⟨k, 3, none⟩ = some (.bool (M a d).isSome) ∧ (∀ o, w.frozen? ⟨k, o, none⟩ = false) := by
  have hb := h.node a d k hk
  exact ⟨cell_of hb rfl, cell_of hb rfl, cell_of hb rfl, cell_of hb rfl, fun o => free_of hb⟩
end Go.Proofs.Ytlkbaplfffbmkaa
