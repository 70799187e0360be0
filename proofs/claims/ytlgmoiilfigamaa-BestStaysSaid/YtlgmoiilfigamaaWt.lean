/- Attributes, and lists of routes, are the same as themselves. -/
import Derived.Test.YtlgmoiilfigamaaWs
namespace Go.Proofs.Ytlgmoiilfigamaa
open Go.RowKit

set_option maxHeartbeats 4000000 in
theorem same_self (x : Rt) (w : World) (B : Nat) (hB : B ≤ w.heap.size) (hx : RtOk w B x) : Calls Try.prog 25 #[x.attrs, x.attrs] w fun e w' => e = .returned (.bool true) ∧ Below w.heap.size w w' := by
  obtain ⟨⟨hp1, hp2, hp3, hp4⟩, hcm, -, -⟩ := hx
  have hpm : x.pn ≤ 9223372036854775807 := by unfold maxLen at hp2; omega
  have HX := Lib.hid (And.intro hp1 (And.intro hp3 hp4))
  have HC := Lib.hid (sameInts_self x.ca x.cn x.cc x.comms ((w.alloc (.cells #[.int .i64 x.o, .slice x.pa x.pn x.pc, .int .u32 x.nx, .int .i64 x.md, .int .i64 x.pf, .slice x.ca x.cn x.cc] 38)).alloc (.cells #[.int .i64 x.o, .slice x.pa x.pn x.pc, .int .u32 x.nx, .int .i64 x.md, .int .i64 x.pf, .slice x.ca x.cn x.cc] 38)) B (by simp; omega) (hcm.below (((Below.refl B w).alloc hB _).alloc (by simp; omega) _)))
  clear hp1 hp2 hp3 hp4 hcm
  unfold Rt.attrs
  go_enter Try.func25, Try.ntmps25
  go_wp2_with fail
  refine (HC.out).mono ?_
  rintro e w1 ⟨rfl, hb⟩
  have hb0 : Below w.heap.size w w1 := (((Below.refl _ _).alloc (Nat.le_refl _) _).alloc (by simp) _).trans (hb.mono (by simp only [World.size_alloc]; omega))
  have b0 := (hb.block w.heap.size (by simp only [World.size_alloc]; omega)).trans ((Below.heap_alloc _ _ _ (by simp)).trans (hnew w _))
  have b1 := (hb.block (w.heap.size + 1) (by simp only [World.size_alloc]; omega)).trans (hnewAt (by simp))
  have p0 := cell_of b0 (o := 1) rfl
  have p1 := cell_of b1 (o := 1) rfl
  have HB := Lib.hid (And.intro hb0 (And.intro b0 b1))
  clear hb hb0 b0 b1
  go_wp2_with fail
  go_loopw [5] (fun iv wr => ∃ k : Nat, k ≤ x.pn ∧ iv = .int .i64 k ∧ Below w1.heap.size w1 wr) (fun iv _ => x.pn - (intOf iv).toNat)
  case atStart => exact ⟨0, Nat.zero_le _, rfl, Below.refl _ _⟩
  case round =>
    obtain ⟨k, hk, rfl, hb⟩ := hrel
    have hl0 := lt_of_blk HB.out.2.1
    have hl1 := lt_of_blk HB.out.2.2
    have q0 := (hb.cell (p := ⟨w.heap.size, 1, none⟩) hl0).trans p0
    have q1 := (hb.cell (p := ⟨w.heap.size + 1, 1, none⟩) hl1).trans p1
    have hsz := hb.size
    have hsz1 := HB.out.1.size
    by_cases hlt : k < x.pn
    · have hseg : x.path.getD k default ∈ x.path := getD_mem (by rw [← HX.out.1]; exact hlt)
      obtain ⟨b, off, hpa, hbB, hcell⟩ := HX.out.2.1 (by omega)
      have hbw : Below w.heap.size w wr := HB.out.1.trans (hb.mono hsz1)
      have hc0 := (hbw.cell (p := ⟨b, off + k * 2, none⟩) (by dsimp only; omega)).trans (hcell k hlt).1
      have hc1 := (hbw.cell (p := ⟨b, off + k * 2 + 1, none⟩) (by dsimp only; omega)).trans (hcell k hlt).2
      have hints := HX.out.2.2 _ hseg
      generalize hs : x.path.getD k default = s at *
      have HSI := Lib.hid (fun w' (h : Below wr.heap.size wr w') => sameInts_self s.sa s.sn s.sc s.ns w' B (by have := h.size; omega) (hints.below ((hbw.trans (h.mono (by omega))).mono hB)))
      have HQ := Lib.hid (And.intro hb hs)
      have hbl : b < wr.heap.size := by omega
      clear hb hs hseg hints hbw hcell
      rw [hpa] at q0 q1
      rw [hpa]
      go_wp2_with fail
      refine wp_region_quiet_tail (fun w' => Below wr.heap.size wr w') 28 (by kernel_rfl) (by kernel_rfl) (Below.drew (Below.refl _ _)) ?_
      simp only [List.take_succ_cons, List.take_zero, List.drop_succ_cons, List.drop_zero]
      iterate 28 (refine wpQuiet_step (fun K hK => ?_); go_simp; first | (refine hK _ ?_; clear hK K) | (apply Exists.intro; refine ⟨fun w' hw' => ?_, hK _ ?_⟩; first | (go_at_call 37; (with_reducible refine (HSI.out w' hw').mono ?_); rintro e w2 ⟨rfl, hb⟩; exact ⟨rfl, hw'.trans (hb.mono hw'.size)⟩) | (have z0 := Below.cell hw' (p := ⟨w.heap.size, 1, none⟩) (by dsimp only; omega); have z1 := Below.cell hw' (p := ⟨w.heap.size + 1, 1, none⟩) (by dsimp only; omega); have z2 := Below.cell hw' (p := ⟨b, off + k * 2, none⟩) (by dsimp only; omega); have z3 := Below.cell hw' (p := ⟨b, off + k * 2 + 1, none⟩) (by dsimp only; omega); go_simp; first | exact rfl | exact ⟨rfl, rfl⟩); clear hK K))
      refine wpQuiet_nil ?_
      intro wq hq
      have HBq := Lib.hid (HQ.out.1.trans (hq.mono hsz))
      clear hq hc0 hc1 q0 q1
      go_wp2_with fail
      go_roundw
      case rel => exact ⟨k + 1, by omega, by go_num, HBq.out⟩
      case measure => simp [intOf]; omega
    · have hf : ¬ ((k : Int) < x.pn) := by omega
      have HBq := Lib.hid (HB.out.1.trans (hb.mono hsz1))
      clear hb
      go_wp2_with fail
      go_ret
      exact ⟨rfl, HBq.out⟩
end Go.Proofs.Ytlgmoiilfigamaa
