/- Lists of routes are the same as themselves. -/
import Derived.Test.YtlgmoiilfigamaaWt
namespace Go.Proofs.Ytlgmoiilfigamaa
open Go.RowKit

set_option maxHeartbeats 4000000 in
theorem sameRoutes_self (oa ob : Option Addr) (n ca cb : Nat) (L : List Rt) (w : World) (B : Nat) (hB : B ≤ w.heap.size) (h1 : R40.Sl w oa n ca L) (h2 : R40.Sl w ob n cb L) (hx : ∀ x ∈ L, RtOk w B x) :
    Calls Try.prog 11 #[.slice oa n ca, .slice ob n cb] w fun e w' => e = .returned (.bool true) ∧ Below w.heap.size w w' := by
  have hm : n ≤ 9223372036854775807 := by have := h1.max; unfold maxLen at this; omega
  have HS := Lib.hid (And.intro h1 (And.intro h2 hx))
  clear h1 h2 hx
  go_enter Try.func11, Try.ntmps11
  go_wp2_with fail
  go_loopw [5] (fun iv wr => ∃ k : Nat, k ≤ n ∧ iv = .int .i64 k ∧ Below w.heap.size w wr) (fun iv _ => n - (intOf iv).toNat)
  case atStart => exact ⟨0, Nat.zero_le _, rfl, Below.refl _ _⟩
  case round =>
    obtain ⟨k, hk, rfl, hb⟩ := hrel
    have hsz := hb.size
    by_cases hlt : k < n
    · obtain ⟨b1, o1, rfl, hl1, hat1⟩ := HS.out.1.at hlt
      obtain ⟨b2, o2, rfl, hl2, hat2⟩ := HS.out.2.1.at hlt
      have hata := hat1.keep (hb.block b1 hl1)
      have hatb := hat2.keep (hb.block b2 hl2)
      have hxm : L.getD k default ∈ L := getD_mem (by rw [← HS.out.1.len]; exact hlt)
      have hok := (HS.out.2.2 _ hxm).below (hb.mono hB)
      generalize hx : L.getD k default = x at *
      have c0 := hata 0 (by decide)
      have c1 := hata 1 (by decide)
      have c2 := hata 2 (by decide)
      have c3 := hata 3 (by decide)
      have c4 := hata 4 (by decide)
      have c5 := hata 5 (by decide)
      have c6 := hata 6 (by decide)
      have c7 := hata 7 (by decide)
      have c8 := hata 8 (by decide)
      have c9 := hata 9 (by decide)
      simp only [R40, Rt.cells, Nat.add_zero, List.getElem?_cons_zero, List.getElem?_cons_succ] at c0 c1 c2 c3 c4 c5 c6 c7 c8 c9
      have d0 := hatb 0 (by decide)
      have d1 := hatb 1 (by decide)
      have d2 := hatb 2 (by decide)
      have d3 := hatb 3 (by decide)
      have d4 := hatb 4 (by decide)
      have d5 := hatb 5 (by decide)
      have d6 := hatb 6 (by decide)
      have d7 := hatb 7 (by decide)
      have d8 := hatb 8 (by decide)
      have d9 := hatb 9 (by decide)
      simp only [R40, Rt.cells, Nat.add_zero, List.getElem?_cons_zero, List.getElem?_cons_succ] at d0 d1 d2 d3 d4 d5 d6 d7 d8 d9
      have HSA := Lib.hid (fun w' (h : Below wr.heap.size wr w') => same_self x w' B (by have := h.size; omega) (hok.below (h.mono (by omega))))
      unfold Rt.attrs at HSA
      have HQ := Lib.hid (And.intro hb hx)
      have hl1' : b1 < wr.heap.size := by omega
      have hl2' : b2 < wr.heap.size := by omega
      clear hb hx hxm hok hata hatb hat1 hat2
      go_wp2_with fail
      refine wp_region_quiet_tail (fun w' => Below wr.heap.size wr w') 24 (by kernel_rfl) (by kernel_rfl) (Below.drew (Below.refl _ _)) ?_
      simp only [List.take_succ_cons, List.take_zero, List.drop_succ_cons, List.drop_zero]
      iterate 24 (refine wpQuiet_step (fun K hK => ?_); go_simp; first | (refine hK _ ?_; clear hK K) | (apply Exists.intro; refine ⟨fun w' hw' => ?_, hK _ ?_⟩; first | (go_at_call 25; (with_reducible refine (HSA.out w' hw').mono ?_); rintro e w2 ⟨rfl, hb⟩; exact ⟨rfl, hw'.trans (hb.mono hw'.size)⟩) | (have p0 := Below.cell hw' (p := ⟨b1, o1 + k * 10, none⟩) (by dsimp only; omega); have p1 := Below.cell hw' (p := ⟨b1, o1 + k * 10 + 1, none⟩) (by dsimp only; omega); have p2 := Below.cell hw' (p := ⟨b1, o1 + k * 10 + 2, none⟩) (by dsimp only; omega); have p3 := Below.cell hw' (p := ⟨b1, o1 + k * 10 + 3, none⟩) (by dsimp only; omega); have p4 := Below.cell hw' (p := ⟨b1, o1 + k * 10 + 4, none⟩) (by dsimp only; omega); have p5 := Below.cell hw' (p := ⟨b1, o1 + k * 10 + 5, none⟩) (by dsimp only; omega); have p6 := Below.cell hw' (p := ⟨b1, o1 + k * 10 + 6, none⟩) (by dsimp only; omega); have p7 := Below.cell hw' (p := ⟨b1, o1 + k * 10 + 7, none⟩) (by dsimp only; omega); have p8 := Below.cell hw' (p := ⟨b1, o1 + k * 10 + 8, none⟩) (by dsimp only; omega); have p9 := Below.cell hw' (p := ⟨b1, o1 + k * 10 + 9, none⟩) (by dsimp only; omega); have q0 := Below.cell hw' (p := ⟨b2, o2 + k * 10, none⟩) (by dsimp only; omega); have q1 := Below.cell hw' (p := ⟨b2, o2 + k * 10 + 1, none⟩) (by dsimp only; omega); have q2 := Below.cell hw' (p := ⟨b2, o2 + k * 10 + 2, none⟩) (by dsimp only; omega); have q3 := Below.cell hw' (p := ⟨b2, o2 + k * 10 + 3, none⟩) (by dsimp only; omega); have q4 := Below.cell hw' (p := ⟨b2, o2 + k * 10 + 4, none⟩) (by dsimp only; omega); have q5 := Below.cell hw' (p := ⟨b2, o2 + k * 10 + 5, none⟩) (by dsimp only; omega); have q6 := Below.cell hw' (p := ⟨b2, o2 + k * 10 + 6, none⟩) (by dsimp only; omega); have q7 := Below.cell hw' (p := ⟨b2, o2 + k * 10 + 7, none⟩) (by dsimp only; omega); have q8 := Below.cell hw' (p := ⟨b2, o2 + k * 10 + 8, none⟩) (by dsimp only; omega); have q9 := Below.cell hw' (p := ⟨b2, o2 + k * 10 + 9, none⟩) (by dsimp only; omega); go_simp; first | exact rfl | exact ⟨rfl, rfl⟩); clear hK K))
      refine wpQuiet_nil ?_
      intro wq hq
      have HBq := Lib.hid (HQ.out.1.trans (hq.mono hsz))
      clear hq c0 c1 c2 c3 c4 c5 c6 c7 c8 c9 d0 d1 d2 d3 d4 d5 d6 d7 d8 d9
      go_wp2_with fail
      go_roundw
      case rel => exact ⟨k + 1, by omega, by go_num, HBq.out⟩
      case measure => simp [intOf]; omega
    · have hf : ¬ ((k : Int) < n) := by omega
      have HB := Lib.hid hb
      clear hb
      go_wp2_with fail
      go_ret
      exact ⟨rfl, HB.out⟩
end Go.Proofs.Ytlgmoiilfigamaa
