/- Meter: Demand. -/
import Derived.Test.YtfmehahjjgalfaaUf
namespace Go.Proofs.Ytfmehahjjgalfaa.Me
open Go.RowKit

theorem demand_nil (k : PK) (w : World) : Calls Try.prog 52 #[.pointer none, .agg #[.int .u32 (k.1 : Int), .int .i64 k.2]] w fun e w' => e = .returned (.int .i64 0) ∧ Below w.heap.size w w' := by
  have F := Lib.hid ((Below.refl w.heap.size w).alloc (Nat.le_refl _) (.cells #[.int .u32 (k.1 : Int), .int .i64 k.2] 58))
  go_enter Try.func52, Try.ntmps52
  go_wp2_with fail
  go_ret
  exact ⟨rfl, F.out⟩
set_option maxRecDepth 100000 in
set_option maxHeartbeats 2000000 in
theorem demand_any {w : World} {m : Nat} {X : Nat → Src} (H : MetAt w m X) {k : PK} (hk : PN.ok k) : Calls Try.prog 52 #[.pointer (some ⟨m, 0, none⟩), .agg #[.int .u32 (k.1 : Int), .int .i64 k.2]] w fun e w' => e = .returned (.int .i64 (demI X k 16)) ∧ Below w.heap.size w w' := by
  have hal := (Below.refl w.heap.size w).alloc (Nat.le_refl _) (.cells #[.int .u32 (k.1 : Int), .int .i64 k.2] 58)
  have hbx : BxP w.heap.size k (w.alloc (.cells #[.int .u32 (k.1 : Int), .int .i64 k.2] 58)) := hnew _ _
  have H1 := H.keep hal
  obtain ⟨A, hA, hra, hall⟩ := H1.all
  have HM := Lib.hid (And.intro H1 (And.intro hall (And.intro hbx hal)))
  have HK := Lib.hid hk
  clear H H1 hall hbx hal hk
  go_enter Try.func52, Try.ntmps52
  go_wp2_with (with_reducible refine halt_load 124 rfl ?_)
  refine Halted.go ?_
  refine load_mid rfl 124 _ rfl m 0 A rfl hra Try.underlying124 rfl (by rw [hA]; exact infoA) ?_
  clear hra hA
  obtain ⟨W1, hW1⟩ : ∃ W, w.alloc (.cells #[.int .u32 (k.1 : Int), .int .i64 k.2] 58) = W := ⟨_, rfl⟩
  obtain ⟨q3, hq3⟩ : ∃ q, w.heap.size = q := ⟨_, rfl⟩
  have HM1 := Lib.hid (show MetAt W1 m X ∧ AllS W1 A X ∧ BxP q3 k W1 ∧ Below w.heap.size w W1 from hq3 ▸ hW1 ▸ HM.out)
  rw [hW1]
  simp only [hq3]
  clear hW1 hq3 HM
  go_wp2_with fail
  go_loopw [5, 14] (fun nv iv wr => ∃ i : Nat, i ≤ 16 ∧ iv = .int .i64 i ∧ nv = .int .i64 (demI X k i) ∧ Below W1.heap.size W1 wr) (fun _ iv _ => 16 - (intOf iv).toNat)
  case atStart => exact ⟨0, Nat.zero_le _, rfl, rfl, Below.refl _ _⟩
  case round =>
    obtain ⟨i, hi, rfl, rfl, hb⟩ := hrel
    obtain ⟨w2, rfl⟩ : ∃ w2 : World, w2 = wr := ⟨_, rfl⟩
    by_cases hlt : i < 16
    · have hil : ((i : Int) < 16) = True := by simp; omega
      have hw3 := wrapS hlt (show 16 ≤ maxLen by unfold maxLen; omega)
      obtain ⟨p, q, hix, hp, hq⟩ := (HM1.out.2.1.keep HM1.out.1 hb).ix i hlt
      have hal := (Below.refl w2.heap.size w2).alloc (Nat.le_refl _) (.cells #[.pointer p, .pointer q] 123)
      have hxs : SrS w2.heap.size p q (w2.alloc (.cells #[.pointer p, .pointer q] 123)) := hnew _ _
      obtain ⟨x0, x1⟩ := hxs.cells
      obtain ⟨z0, z1⟩ := ((HM1.out.2.2.1.keep hb).keep hal).cells
      have HR := Lib.hid (rate_any (hp.keep hal) (hq.keep hal) (HM1.out.1.ok i hlt) HK.out)
      have HD := Lib.hid (show demI X k (i + 1) = addI (demI X k i) (rateS (X i) k) from rfl)
      have HA := Lib.hid (add_any (demI X k i) (rateS (X i) k))
      have F := Lib.hid (bcall hb (Nat.le_refl _) hal)
      clear hal hxs hb hq hp
      generalize rateS (X i) k = rv at *
      generalize demI X k i = dv at *
      generalize addI dv rv = av at *
      go_wp2_with fail
      refine HR.out.mono ?_
      rintro e W4 ⟨rfl, hb⟩
      have F2 := Lib.hid (bcall F.out (Nat.le_refl _) hb)
      clear hb HR x0 x1 z0 z1
      go_wp2_with fail
      refine (HA.out _).mono ?_
      rintro e W5 ⟨rfl, hw5⟩
      subst hw5
      go_wp2_with fail
      exact ⟨⟨i + 1, hlt, by first | rw [hw3] | rw [Int.natCast_succ], by rw [HD.out], F2.out⟩, by first | (rw [hw3]; exact mSucc hlt) | (rw [← Int.natCast_succ]; exact mSucc hlt)⟩
    · obtain rfl : 16 = i := by omega
      have F := Lib.hid (HM1.out.2.2.2.trans (hb.mono HM1.out.2.2.2.size))
      clear hb
      go_wp2_with fail
      go_ret
      exact ⟨rfl, F.out⟩
end Go.Proofs.Ytfmehahjjgalfaa.Me
