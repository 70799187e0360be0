/- Find beyond all routers; of nobody; the reference's Find. -/
import Derived.Test.YtlkbaplfffbmkaaBe
import Derived.Test.YtlkbaplfffbmkaaHh
namespace Go.Proofs.Ytlkbaplfffbmkaa
open Go.RowKit

theorem len_of {w : World} {h : Nat} {l : List If} (H : HopsAt w h (hdOf l)) (hg : Good l) : Calls Try.prog 21 #[.pointer (some ⟨h, 0, none⟩)] w fun e w' => e = .returned (.int .i64 (l.length : Nat)) ∧ w' = w := by
  obtain ⟨⟨bm, clk, es, b, h1, h2, h3, h4⟩, hw⟩ := H
  have hel : es.length = l.length := by rw [← (ents_are hg h2 h3).2.length_eq, List.length_map]
  have hl3 := fun ty => MR.run_len IN h2 Try.underlying76 ty
  have c0 : w.cell? ⟨h, 0, none⟩ = some (.map (some bm)) := cell_of h1 rfl
  rw [← hel]
  clear h1 h2 h3 h4 hw hel hg
  generalize es.length = N at *
  go_enter Try.func21, Try.ntmps21
  go_wp2_with fail
  go_ret
  exact ⟨rfl, rfl⟩
theorem len_nil (w : World) : Calls Try.prog 21 #[.pointer none] w fun e w' => e = .returned (.int .i64 0) ∧ w' = w := by
  go_enter Try.func21, Try.ntmps21
  go_wp2_with fail
  go_ret
  exact ⟨rfl, rfl⟩
theorem iface_nil (id : Int) (w : World) : Calls Try.prog 16 #[.pointer none, .int .i64 id] w fun e w' => e = .returned (.tuple #[.agg #[.int .i64 0, .int .i64 0, .int .u32 0, .int .i64 0, .int .i64 0], .bool false]) ∧ Below w.heap.size w w' := by
  have hal := (Below.refl w.heap.size w).alloc (Nat.le_refl _) (.cells #[.int .i64 0, .int .i64 0, .int .u32 0, .int .i64 0, .int .i64 0] 34)
  have hnw : (w.alloc (.cells #[.int .i64 0, .int .i64 0, .int .u32 0, .int .i64 0, .int .i64 0] 34)).heap[w.heap.size]? = some (.cells #[.int .i64 0, .int .i64 0, .int .u32 0, .int .i64 0, .int .i64 0] 34) := hnew _ _
  have HA := Lib.hid (And.intro hal hnw)
  clear hal hnw
  go_enter Try.func16, Try.ntmps16
  go_wp2_with (with_reducible refine halt_store 34 rfl ?_)
  refine Halted.go ?_
  refine store_whole rfl 34 _ _ rfl w.heap.size #[.int .i64 0, .int .i64 0, .int .u32 0, .int .i64 0, .int .i64 0] rfl rfl HA.out.2 rfl (by kernel_rfl) (by simp [Value.oneCell']) ?_
  intro wz hwz hsz
  have HZ := Lib.hid (And.intro hwz (Below.trans HA.out.1 (hsz.below (Nat.le_refl _))))
  clear hwz hsz
  go_wp2_with fail
  refine ret_cell2 rfl rfl rfl HZ.out.1 Try.underlying34 rfl (by kernel_rfl) ?_
  exact ⟨rfl, HZ.out.2⟩
theorem find_nil (ρ a : Int) (w : World) : Calls Try.prog 14 #[.pointer none, .int .i64 ρ, .int .u32 a] w fun e w' => e = .returned (.tuple #[.agg #[.int .i64 0, .int .i64 0, .int .u32 0, .int .i64 0, .int .i64 0], .bool false]) ∧ Below w.heap.size w w' := by
  have hal := (Below.refl w.heap.size w).alloc (Nat.le_refl _) (.cells #[.int .i64 0, .int .i64 0, .int .u32 0, .int .i64 0, .int .i64 0] 34)
  have hnw : (w.alloc (.cells #[.int .i64 0, .int .i64 0, .int .u32 0, .int .i64 0, .int .i64 0] 34)).heap[w.heap.size]? = some (.cells #[.int .i64 0, .int .i64 0, .int .u32 0, .int .i64 0, .int .i64 0] 34) := hnew _ _
  have HA := Lib.hid (And.intro hal hnw)
  clear hal hnw
  go_enter Try.func14, Try.ntmps14
  go_wp2_with (with_reducible refine halt_store 34 rfl ?_)
  refine Halted.go ?_
  refine store_whole rfl 34 _ _ rfl w.heap.size #[.int .i64 0, .int .i64 0, .int .u32 0, .int .i64 0, .int .i64 0] rfl rfl HA.out.2 rfl (by kernel_rfl) (by simp [Value.oneCell']) ?_
  intro wz hwz hsz
  have HZ := Lib.hid (And.intro hwz (Below.trans HA.out.1 (hsz.below (Nat.le_refl _))))
  clear hwz hsz
  go_wp2_with fail
  refine ret_cell2 rfl rfl rfl HZ.out.1 Try.underlying34 rfl (by kernel_rfl) ?_
  exact ⟨rfl, HZ.out.2⟩
theorem find_out (h : Nat) {ρ : Int} (hρ : ρ < 0 ∨ 15 < ρ) (a : Int) (w : World) : Calls Try.prog 14 #[.pointer (some ⟨h, 0, none⟩), .int .i64 ρ, .int .u32 a] w fun e w' => e = .returned (.tuple #[.agg #[.int .i64 0, .int .i64 0, .int .u32 0, .int .i64 0, .int .i64 0], .bool false]) ∧ Below w.heap.size w w' := by
  have hal := (Below.refl w.heap.size w).alloc (Nat.le_refl _) (.cells #[.int .i64 0, .int .i64 0, .int .u32 0, .int .i64 0, .int .i64 0] 34)
  have hnw : (w.alloc (.cells #[.int .i64 0, .int .i64 0, .int .u32 0, .int .i64 0, .int .i64 0] 34)).heap[w.heap.size]? = some (.cells #[.int .i64 0, .int .i64 0, .int .u32 0, .int .i64 0, .int .i64 0] 34) := hnew _ _
  have hwi := fun W => hwithin_any ρ 0 15 W
  rw [show (decide ((0 : Int) ≤ ρ) && decide (ρ ≤ 15)) = false from by rw [Bool.eq_false_iff]; simp; omega] at hwi
  have HW := Lib.hid hwi
  have HA := Lib.hid (And.intro hal hnw)
  clear hal hnw hwi hρ
  go_enter Try.func14, Try.ntmps14
  go_wp2_with fail
  refine (HW.out _).mono ?_
  rintro e W ⟨rfl, hW⟩
  generalize w.alloc (.cells #[.int .i64 0, .int .i64 0, .int .u32 0, .int .i64 0, .int .i64 0] 34) = W1 at *
  subst W
  go_wp2_with (with_reducible refine halt_store 34 rfl ?_)
  refine Halted.go ?_
  refine store_whole rfl 34 _ _ rfl w.heap.size #[.int .i64 0, .int .i64 0, .int .u32 0, .int .i64 0, .int .i64 0] rfl rfl HA.out.2 rfl (by kernel_rfl) (by simp [Value.oneCell']) ?_
  intro wz hwz hsz
  have HZ := Lib.hid (And.intro hwz (Below.trans HA.out.1 (hsz.below (Nat.le_refl _))))
  clear hwz hsz
  go_wp2_with fail
  refine ret_cell2 rfl rfl rfl HZ.out.1 Try.underlying34 rfl (by kernel_rfl) ?_
  exact ⟨rfl, HZ.out.2⟩
end Go.Proofs.Ytlkbaplfffbmkaa
