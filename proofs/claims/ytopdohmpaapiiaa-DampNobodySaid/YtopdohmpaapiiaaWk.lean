/- The walk of DampNobody. -/
import Derived.Test.YtopdohmpaapiiaaWj
namespace Go.Proofs.Ytopdohmpaapiiaa
open Go.RowKit
open Go.ChangeMaps (setBlock)

set_option maxHeartbeats 4000000 in
theorem nobody_any (k : Key) (hk : k.wf) (deed now : Int) (w : World) : Calls Try.prog 4 #[k.val, .int .i64 deed, .int .i64 now] w fun e w' => e = .returned (.bool true) ∧ Below w.heap.size w w' := by
  obtain ⟨kr, ka, kl, ki⟩ := k
  have ek : (Value.agg #[.int .i64 kr, .int .u32 ka, .int .i64 kl, .int .i64 ki]) = Key.val ⟨kr, ka, kl, ki⟩ := rfl
  have EK := Lib.hid ek
  clear ek
  show Calls Try.prog 4 #[.agg #[.int .i64 kr, .int .u32 ka, .int .i64 kl, .int .i64 ki], .int .i64 deed, .int .i64 now] w _
  go_enter Try.func4, Try.ntmps4
  go_wp2_with fail
  refine (usualC _).mono ?_
  rintro e w1 ⟨rfl, hb1⟩
  have K1b := (hb1.block w.heap.size (by simp)).trans (hnew _ _)
  go_wp2_with fail
  refine (new_ok U U_ok _).mono ?_
  rintro e w2 ⟨d, bm, rfl, hm2⟩
  have K2 := (hm2.below.block w.heap.size (lt_of_blk K1b)).trans K1b
  have E2 : DampE w2 d bm 0 U := ⟨hm2.blk, MR.mapAt_made KN hm2.map⟩
  have B2 : Below w.heap.size w w2 := (((Below.refl _ _).alloc (Nat.le_refl _) _).trans (hb1.mono (by simp))).trans (hm2.below.mono (by have := hb1.size; simp at this; omega))
  have H := Lib.hid (And.intro E2 (And.intro B2 K2))
  have k0 : w2.cell? ⟨w.heap.size, 0, none⟩ = some (.int .i64 kr) := cell_of K2 rfl
  have k1 : w2.cell? ⟨w.heap.size, 1, none⟩ = some (.int .u32 ka) := cell_of K2 rfl
  have k2 : w2.cell? ⟨w.heap.size, 2, none⟩ = some (.int .i64 kl) := cell_of K2 rfl
  have k3 : w2.cell? ⟨w.heap.size, 3, none⟩ = some (.int .i64 ki) := cell_of K2 rfl
  clear E2 B2 K2 hb1 hm2 K1b
  go_wp2_with fail
  refine (deed_nil ⟨kr, ka, kl, ki⟩ deed now _).mono ?_
  rintro e w3 ⟨rfl, hb⟩
  obtain ⟨E2, B2, K2⟩ := H.out
  have K3 := (hb.block _ (lt_of_blk K2)).trans K2
  have H3 := Lib.hid (And.intro (E2.below hb) (And.intro (B2.trans (hb.mono B2.size)) K3))
  clear E2 B2 K2 hb H k0 k1 k2 k3
  have k0 : w3.cell? ⟨w.heap.size, 0, none⟩ = some (.int .i64 kr) := cell_of K3 rfl
  have k1 : w3.cell? ⟨w.heap.size, 1, none⟩ = some (.int .u32 ka) := cell_of K3 rfl
  have k2 : w3.cell? ⟨w.heap.size, 2, none⟩ = some (.int .i64 kl) := cell_of K3 rfl
  have k3 : w3.cell? ⟨w.heap.size, 3, none⟩ = some (.int .i64 ki) := cell_of K3 rfl
  clear K3
  go_wp2_with fail
  refine (lives_any _).mono ?_
  rintro e u3 ⟨rfl, hb⟩
  obtain ⟨E2, B2, K2⟩ := H3.out
  have K3 := (hb.block _ (lt_of_blk K2)).trans K2
  have H4 := Lib.hid (And.intro (E2.below hb) (And.intro (B2.trans (hb.mono B2.size)) K3))
  clear E2 B2 K2 hb k0 k1 k2 k3
  have k0 : u3.cell? ⟨w.heap.size, 0, none⟩ = some (.int .i64 kr) := cell_of K3 rfl
  have k1 : u3.cell? ⟨w.heap.size, 1, none⟩ = some (.int .u32 ka) := cell_of K3 rfl
  have k2 : u3.cell? ⟨w.heap.size, 2, none⟩ = some (.int .i64 kl) := cell_of K3 rfl
  have k3 : u3.cell? ⟨w.heap.size, 3, none⟩ = some (.int .i64 ki) := cell_of K3 rfl
  clear K3
  go_wp2_with fail
  refine (held_nil ⟨kr, ka, kl, ki⟩ now _).mono ?_
  rintro e u4 ⟨rfl, hb⟩
  obtain ⟨E2, B2, K2⟩ := H4.out
  have K3 := (hb.block _ (lt_of_blk K2)).trans K2
  have H5 := Lib.hid (And.intro (E2.below hb) (And.intro (B2.trans (hb.mono B2.size)) K3))
  clear E2 B2 K2 hb k0 k1 k2 k3
  have k0 : u4.cell? ⟨w.heap.size, 0, none⟩ = some (.int .i64 kr) := cell_of K3 rfl
  have k1 : u4.cell? ⟨w.heap.size, 1, none⟩ = some (.int .u32 ka) := cell_of K3 rfl
  have k2 : u4.cell? ⟨w.heap.size, 2, none⟩ = some (.int .i64 kl) := cell_of K3 rfl
  have k3 : u4.cell? ⟨w.heap.size, 3, none⟩ = some (.int .i64 ki) := cell_of K3 rfl
  clear K3
  go_wp2_with fail
  refine (penalty_nil ⟨kr, ka, kl, ki⟩ now _).mono ?_
  rintro e u5 ⟨rfl, hb⟩
  obtain ⟨E2, B2, K2⟩ := H5.out
  have K3 := (hb.block _ (lt_of_blk K2)).trans K2
  have H6 := Lib.hid (And.intro (E2.below hb) (And.intro (B2.trans (hb.mono B2.size)) K3))
  clear E2 B2 K2 hb k0 k1 k2 k3
  have k0 : u5.cell? ⟨w.heap.size, 0, none⟩ = some (.int .i64 kr) := cell_of K3 rfl
  have k1 : u5.cell? ⟨w.heap.size, 1, none⟩ = some (.int .u32 ka) := cell_of K3 rfl
  have k2 : u5.cell? ⟨w.heap.size, 2, none⟩ = some (.int .i64 kl) := cell_of K3 rfl
  have k3 : u5.cell? ⟨w.heap.size, 3, none⟩ = some (.int .i64 ki) := cell_of K3 rfl
  clear K3
  go_wp2_with fail
  refine (sweep_nil now _).mono ?_
  rintro e u6 ⟨rfl, hb⟩
  obtain ⟨E2, B2, K2⟩ := H6.out
  have K3 := (hb.block _ (lt_of_blk K2)).trans K2
  have H7 := Lib.hid (And.intro (E2.below hb) (And.intro (B2.trans (hb.mono B2.size)) K3))
  clear E2 B2 K2 hb k0 k1 k2 k3
  have k0 : u6.cell? ⟨w.heap.size, 0, none⟩ = some (.int .i64 kr) := cell_of K3 rfl
  have k1 : u6.cell? ⟨w.heap.size, 1, none⟩ = some (.int .u32 ka) := cell_of K3 rfl
  have k2 : u6.cell? ⟨w.heap.size, 2, none⟩ = some (.int .i64 kl) := cell_of K3 rfl
  have k3 : u6.cell? ⟨w.heap.size, 3, none⟩ = some (.int .i64 ki) := cell_of K3 rfl
  clear K3
  go_wp2_with fail
  refine (len_nil _).mono ?_
  rintro e w4 ⟨rfl, rfl⟩
  go_wp2_with fail
  refine (held_E d bm 0 U ⟨kr, ka, kl, ki⟩ now _ hk H7.out.1).mono ?_
  rintro e u7 ⟨rfl, hb⟩
  obtain ⟨E2, B2, K2⟩ := H7.out
  have K3 := (hb.block _ (lt_of_blk K2)).trans K2
  have H8 := Lib.hid (And.intro (E2.below hb) (And.intro (B2.trans (hb.mono B2.size)) K3))
  clear E2 B2 K2 hb k0 k1 k2 k3
  have k0 : u7.cell? ⟨w.heap.size, 0, none⟩ = some (.int .i64 kr) := cell_of K3 rfl
  have k1 : u7.cell? ⟨w.heap.size, 1, none⟩ = some (.int .u32 ka) := cell_of K3 rfl
  have k2 : u7.cell? ⟨w.heap.size, 2, none⟩ = some (.int .i64 kl) := cell_of K3 rfl
  have k3 : u7.cell? ⟨w.heap.size, 3, none⟩ = some (.int .i64 ki) := cell_of K3 rfl
  clear K3
  go_wp2_with fail
  refine (penalty_E d bm 0 U ⟨kr, ka, kl, ki⟩ now _ hk H8.out.1).mono ?_
  rintro e u8 ⟨rfl, hb⟩
  obtain ⟨E2, B2, K2⟩ := H8.out
  have K3 := (hb.block _ (lt_of_blk K2)).trans K2
  have H9 := Lib.hid (And.intro (E2.below hb) (And.intro (B2.trans (hb.mono B2.size)) K3))
  clear E2 B2 K2 hb k0 k1 k2 k3
  have k0 : u8.cell? ⟨w.heap.size, 0, none⟩ = some (.int .i64 kr) := cell_of K3 rfl
  have k1 : u8.cell? ⟨w.heap.size, 1, none⟩ = some (.int .u32 ka) := cell_of K3 rfl
  have k2 : u8.cell? ⟨w.heap.size, 2, none⟩ = some (.int .i64 kl) := cell_of K3 rfl
  have k3 : u8.cell? ⟨w.heap.size, 3, none⟩ = some (.int .i64 ki) := cell_of K3 rfl
  clear K3
  go_wp2_with fail
  refine (sweep_E d bm 0 U now _ H9.out.1).mono ?_
  rintro e w5 ⟨rfl, hb⟩
  go_wp2_with fail
  go_ret
  exact ⟨rfl, H9.out.2.1.trans (hb.mono H9.out.2.1.size)⟩
end Go.Proofs.Ytopdohmpaapiiaa
