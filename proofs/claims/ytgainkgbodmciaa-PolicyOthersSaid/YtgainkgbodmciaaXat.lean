/- lives. -/
import Derived.Test.YtgainkgbodmciaaXas
namespace Go.Proofs.Ytgainkgbodmciaa
open Go.RowKit

set_option maxRecDepth 100000 in
set_option maxHeartbeats 4000000 in
theorem lives20 (w : World) : Calls Try.prog 7 #[] w fun e w' => e = .returned (.bool true) ∧ Below w.heap.size w w' := by
  go_enter Try.func7, Try.ntmps7
  go_wp2_with fail
  refine (two_any w).mono ?_
  rintro e W1 ⟨rfl, hifs, hb1⟩
  have H1 := Lib.hid (And.intro hifs hb1)
  clear hifs hb1
  go_wp2_with fail
  refine (make_nil H1.out.1 twoL_good).mono ?_
  rintro e W2 ⟨hb, cb, xb, rfl, hF, hG, hb2⟩
  have HM := Lib.hid (And.intro (bcall H1.out.2 (Nat.le_refl _) hb2) (And.intro (show Finds W2 (.pointer (some ⟨hb, 0, none⟩)) FT from hF) (show Gets W2 (.pointer (some ⟨cb, 0, none⟩)) GT from hG)))
  clear hF hG hb2 H1
  go_wp2_with fail
  refine (conf19 W2).mono ?_
  rintro e W3 ⟨⟨C, rfl, hC⟩, hb3⟩
  have HC := Lib.hid (And.intro hC hb3)
  clear hC hb3
  go_wp2_with (with_reducible refine halt_store 26 (x := .tmp 5) rfl ?_)
  refine Halted.go ?_
  refine store_whole rfl 26 _ _ rfl W3.heap.size C rfl rfl (hnew _ _) (by rw [HC.out.1.size]; rfl) (by rw [HC.out.1.size]; kernel_rfl) HC.out.1.one ?_
  intro W4 hw4 hs4
  have hcc : W2.heap.size ≤ W3.heap.size := HC.out.2.size
  have F0 := Lib.hid (And.intro hw4 (And.intro (bcall HC.out.2 (Nat.le_refl _) (((Below.refl W3.heap.size W3).alloc (Nat.le_refl _) _).trans (hs4.below (Nat.le_refl _)))) (lt_of_blk hw4)))
  have HCC := Lib.hid hcc
  have HCf := Lib.hid HC.out.1
  clear hw4 hs4 hcc HC
  generalize W3.heap.size = cc at *
  go_wp2_with fail
  refine (route20 1 167772161 100 (by omega) W4).mono ?_
  rintro e W5 ⟨⟨p1, s1, rfl, ho, hp, hs⟩, hb4⟩
  rw [show (mkR p1 s1 1 167772161 100).val = .agg #[.int .i64 0, .int .u32 201326592, .int .i64 8, .int .i64 1, .int .i64 0, .slice p1 1 1, .int .u32 167772161, .int .i64 (-1), .int .i64 100, .slice none 0 0] from rfl]
  have hlt : cc < W4.heap.size := F0.out.2.2
  have F1 := Lib.hid (And.intro ((hb4.block _ (lt_of_blk F0.out.1)).trans F0.out.1) (And.intro (bcall F0.out.2.1 (Nat.le_refl _) hb4) (And.intro (Nat.lt_of_lt_of_le F0.out.2.2 hb4.size) (And.intro (show RtOk W5 W5.heap.size (r1 p1 s1) from ho) (And.intro (show ∀ b o, p1 = some ⟨b, o, none⟩ → cc < b from fun b o e => Nat.lt_of_lt_of_le hlt (hp b o e)) ((show ∀ b o, s1 = some ⟨b, o, none⟩ → cc < b from fun b o e => Nat.lt_of_lt_of_le hlt (hs b o e))))))))
  clear F0
  clear ho hp hs hb4 hlt
  go_wp2_with fail
  refine (route20 2 184549377 90 (by omega) W5).mono ?_
  rintro e W6 ⟨⟨p2, s2, rfl, ho, hp, hs⟩, hb5⟩
  rw [show (mkR p2 s2 2 184549377 90).val = .agg #[.int .i64 0, .int .u32 201326592, .int .i64 8, .int .i64 2, .int .i64 0, .slice p2 1 1, .int .u32 184549377, .int .i64 (-1), .int .i64 90, .slice none 0 0] from rfl]
  have hlt : cc < W5.heap.size := F1.out.2.2.1
  have F2 := Lib.hid (And.intro ((hb5.block _ (lt_of_blk F1.out.1)).trans F1.out.1) (And.intro (bcall F1.out.2.1 (Nat.le_refl _) hb5) (And.intro (Nat.lt_of_lt_of_le F1.out.2.2.1 hb5.size) (And.intro (RtOk.up F1.out.2.2.2.1 hb5) (And.intro F1.out.2.2.2.2.1 (And.intro F1.out.2.2.2.2.2 (And.intro (show RtOk W6 W6.heap.size (r2 p2 s2) from ho) (And.intro (show ∀ b o, p2 = some ⟨b, o, none⟩ → cc < b from fun b o e => Nat.lt_of_lt_of_le hlt (hp b o e)) ((show ∀ b o, s2 = some ⟨b, o, none⟩ → cc < b from fun b o e => Nat.lt_of_lt_of_le hlt (hs b o e)))))))))))
  clear F1
  clear ho hp hs hb5 hlt
  go_wp2_with fail
  refine (route20 3 167772162 95 (by omega) W6).mono ?_
  rintro e W7 ⟨⟨p3, s3, rfl, ho, hp, hs⟩, hb6⟩
  rw [show (mkR p3 s3 3 167772162 95).val = .agg #[.int .i64 0, .int .u32 201326592, .int .i64 8, .int .i64 3, .int .i64 0, .slice p3 1 1, .int .u32 167772162, .int .i64 (-1), .int .i64 95, .slice none 0 0] from rfl]
  have hlt : cc < W6.heap.size := F2.out.2.2.1
  have F3 := Lib.hid (And.intro ((hb6.block _ (lt_of_blk F2.out.1)).trans F2.out.1) (And.intro (bcall F2.out.2.1 (Nat.le_refl _) hb6) (And.intro (Nat.lt_of_lt_of_le F2.out.2.2.1 hb6.size) (And.intro (RtOk.up F2.out.2.2.2.1 hb6) (And.intro F2.out.2.2.2.2.1 (And.intro F2.out.2.2.2.2.2.1 (And.intro (RtOk.up F2.out.2.2.2.2.2.2.1 hb6) (And.intro F2.out.2.2.2.2.2.2.2.1 (And.intro F2.out.2.2.2.2.2.2.2.2 (And.intro (show RtOk W7 W7.heap.size (r3 p3 s3) from ho) (And.intro (show ∀ b o, p3 = some ⟨b, o, none⟩ → cc < b from fun b o e => Nat.lt_of_lt_of_le hlt (hp b o e)) ((show ∀ b o, s3 = some ⟨b, o, none⟩ → cc < b from fun b o e => Nat.lt_of_lt_of_le hlt (hs b o e))))))))))))))
  clear F2
  clear ho hp hs hb6 hlt
  go_wp2_with fail
  refine (route20 4 201326592 99 (by omega) W7).mono ?_
  rintro e W8 ⟨⟨p4, s4, rfl, ho, hp, hs⟩, hb7⟩
  rw [show (mkR p4 s4 4 201326592 99).val = .agg #[.int .i64 0, .int .u32 201326592, .int .i64 8, .int .i64 4, .int .i64 0, .slice p4 1 1, .int .u32 201326592, .int .i64 (-1), .int .i64 99, .slice none 0 0] from rfl]
  have hlt : cc < W7.heap.size := F3.out.2.2.1
  have F4 := Lib.hid (And.intro ((hb7.block _ (lt_of_blk F3.out.1)).trans F3.out.1) (And.intro (bcall F3.out.2.1 (Nat.le_refl _) hb7) (And.intro (Nat.lt_of_lt_of_le F3.out.2.2.1 hb7.size) (And.intro (RtOk.up F3.out.2.2.2.1 hb7) (And.intro F3.out.2.2.2.2.1 (And.intro F3.out.2.2.2.2.2.1 (And.intro (RtOk.up F3.out.2.2.2.2.2.2.1 hb7) (And.intro F3.out.2.2.2.2.2.2.2.1 (And.intro F3.out.2.2.2.2.2.2.2.2.1 (And.intro (RtOk.up F3.out.2.2.2.2.2.2.2.2.2.1 hb7) (And.intro F3.out.2.2.2.2.2.2.2.2.2.2.1 (And.intro F3.out.2.2.2.2.2.2.2.2.2.2.2 (And.intro (show RtOk W8 W8.heap.size (r4 p4 s4) from ho) (And.intro (show ∀ b o, p4 = some ⟨b, o, none⟩ → cc < b from fun b o e => Nat.lt_of_lt_of_le hlt (hp b o e)) ((show ∀ b o, s4 = some ⟨b, o, none⟩ → cc < b from fun b o e => Nat.lt_of_lt_of_le hlt (hs b o e)))))))))))))))))
  clear F3
  clear ho hp hs hb7 hlt
  go_wp2_with fail
  have hal := (Below.refl W8.heap.size W8).alloc (Nat.le_refl _) (.cells #[.int .i64 0, .int .u32 201326592, .int .i64 8, .int .i64 1, .int .i64 0, .slice p1 1 1, .int .u32 167772161, .int .i64 (-1), .int .i64 100, .slice none 0 0, .int .i64 0, .int .u32 201326592, .int .i64 8, .int .i64 2, .int .i64 0, .slice p2 1 1, .int .u32 184549377, .int .i64 (-1), .int .i64 90, .slice none 0 0, .int .i64 0, .int .u32 201326592, .int .i64 8, .int .i64 3, .int .i64 0, .slice p3 1 1, .int .u32 167772162, .int .i64 (-1), .int .i64 95, .slice none 0 0, .int .i64 0, .int .u32 201326592, .int .i64 8, .int .i64 4, .int .i64 0, .slice p4 1 1, .int .u32 201326592, .int .i64 (-1), .int .i64 99, .slice none 0 0] 44)
  have hlb : (W8.alloc (.cells #[.int .i64 0, .int .u32 201326592, .int .i64 8, .int .i64 1, .int .i64 0, .slice p1 1 1, .int .u32 167772161, .int .i64 (-1), .int .i64 100, .slice none 0 0, .int .i64 0, .int .u32 201326592, .int .i64 8, .int .i64 2, .int .i64 0, .slice p2 1 1, .int .u32 184549377, .int .i64 (-1), .int .i64 90, .slice none 0 0, .int .i64 0, .int .u32 201326592, .int .i64 8, .int .i64 3, .int .i64 0, .slice p3 1 1, .int .u32 167772162, .int .i64 (-1), .int .i64 95, .slice none 0 0, .int .i64 0, .int .u32 201326592, .int .i64 8, .int .i64 4, .int .i64 0, .slice p4 1 1, .int .u32 201326592, .int .i64 (-1), .int .i64 99, .slice none 0 0] 44)).heap[W8.heap.size]? = some (.cells #[.int .i64 0, .int .u32 201326592, .int .i64 8, .int .i64 1, .int .i64 0, .slice p1 1 1, .int .u32 167772161, .int .i64 (-1), .int .i64 100, .slice none 0 0, .int .i64 0, .int .u32 201326592, .int .i64 8, .int .i64 2, .int .i64 0, .slice p2 1 1, .int .u32 184549377, .int .i64 (-1), .int .i64 90, .slice none 0 0, .int .i64 0, .int .u32 201326592, .int .i64 8, .int .i64 3, .int .i64 0, .slice p3 1 1, .int .u32 167772162, .int .i64 (-1), .int .i64 95, .slice none 0 0, .int .i64 0, .int .u32 201326592, .int .i64 8, .int .i64 4, .int .i64 0, .slice p4 1 1, .int .u32 201326592, .int .i64 (-1), .int .i64 99, .slice none 0 0] 44) := hnew _ _
  have F5 := Lib.hid (And.intro ((hal.block _ (lt_of_blk F4.out.1)).trans F4.out.1) (And.intro (bcall F4.out.2.1 (Nat.le_refl _) hal) (And.intro F4.out.2.2.1 (And.intro F4.out.2.2.2.1 (And.intro F4.out.2.2.2.2.1 (And.intro F4.out.2.2.2.2.2.1 (And.intro F4.out.2.2.2.2.2.2.1 (And.intro F4.out.2.2.2.2.2.2.2.1 (And.intro F4.out.2.2.2.2.2.2.2.2.1 (And.intro F4.out.2.2.2.2.2.2.2.2.2.1 (And.intro F4.out.2.2.2.2.2.2.2.2.2.2.1 (And.intro F4.out.2.2.2.2.2.2.2.2.2.2.2.1 (And.intro F4.out.2.2.2.2.2.2.2.2.2.2.2.2.1 (And.intro F4.out.2.2.2.2.2.2.2.2.2.2.2.2.2.1 (And.intro F4.out.2.2.2.2.2.2.2.2.2.2.2.2.2.2 (And.intro hal (hlb)))))))))))))))))
  clear F4
  clear hal hlb
  generalize W8.alloc (.cells #[.int .i64 0, .int .u32 201326592, .int .i64 8, .int .i64 1, .int .i64 0, .slice p1 1 1, .int .u32 167772161, .int .i64 (-1), .int .i64 100, .slice none 0 0, .int .i64 0, .int .u32 201326592, .int .i64 8, .int .i64 2, .int .i64 0, .slice p2 1 1, .int .u32 184549377, .int .i64 (-1), .int .i64 90, .slice none 0 0, .int .i64 0, .int .u32 201326592, .int .i64 8, .int .i64 3, .int .i64 0, .slice p3 1 1, .int .u32 167772162, .int .i64 (-1), .int .i64 95, .slice none 0 0, .int .i64 0, .int .u32 201326592, .int .i64 8, .int .i64 4, .int .i64 0, .slice p4 1 1, .int .u32 201326592, .int .i64 (-1), .int .i64 99, .slice none 0 0] 44) = W9 at *
  have hfs := first_some (HM.out.2.1.keep F5.out.2.1) (show R40.Sl W9 (some ⟨W8.heap.size, 0, none⟩) 4 4 [r1 p1 s1, r2 p2 s2, r3 p3 s3, r4 p4 s4] from ⟨rfl, by unfold maxLen; omega, fun _ => ⟨W8.heap.size, 0, rfl, row_of F5.out.2.2.2.2.2.2.2.2.2.2.2.2.2.2.2.2 rfl⟩⟩) (ins4 F5.out.2.2.2.2.2.2.2.2.2.2.2.2.2.2.2.1.size (F5.out.2.2.2.1.below F5.out.2.2.2.2.2.2.2.2.2.2.2.2.2.2.2.1) (F5.out.2.2.2.2.2.2.1.below F5.out.2.2.2.2.2.2.2.2.2.2.2.2.2.2.2.1) (F5.out.2.2.2.2.2.2.2.2.2.1.below F5.out.2.2.2.2.2.2.2.2.2.2.2.2.2.2.2.1) (F5.out.2.2.2.2.2.2.2.2.2.2.2.2.1.below F5.out.2.2.2.2.2.2.2.2.2.2.2.2.2.2.2.1)) nx4 (by simp)
  rw [best4, show ([r1 p1 s1, r2 p2 s2, r3 p3 s3, r4 p4 s4] : List Rt).getD 0 default = r1 p1 s1 from rfl, op1, show (r1 p1 s1).cand 1 = .agg #[.int .i64 0, .int .u32 201326592, .int .i64 8, .int .i64 1, .int .i64 0, .slice p1 1 1, .int .u32 167772161, .int .i64 (-1), .int .i64 100, .slice none 0 0, .int .i64 1] from rfl] at hfs
  refine hfs.mono ?_
  rintro e W10 ⟨rfl, hb10⟩
  have hal := (Below.refl W10.heap.size W10).alloc (Nat.le_refl _) (.cells #[.int .i64 0, .int .u32 201326592, .int .i64 8, .int .i64 1, .int .i64 0, .slice p1 1 1, .int .u32 167772161, .int .i64 (-1), .int .i64 100, .slice none 0 0, .int .i64 1] 46)
  have hob : (W10.alloc (.cells #[.int .i64 0, .int .u32 201326592, .int .i64 8, .int .i64 1, .int .i64 0, .slice p1 1 1, .int .u32 167772161, .int .i64 (-1), .int .i64 100, .slice none 0 0, .int .i64 1] 46)).heap[W10.heap.size]? = some (.cells #[.int .i64 0, .int .u32 201326592, .int .i64 8, .int .i64 1, .int .i64 0, .slice p1 1 1, .int .u32 167772161, .int .i64 (-1), .int .i64 100, .slice none 0 0, .int .i64 1] 46) := hnew _ _
  have hbb := bcall hb10 (Nat.le_refl _) hal
  have hlo : W8.heap.size < W10.heap.size := Nat.lt_of_lt_of_le (lt_of_blk F5.out.2.2.2.2.2.2.2.2.2.2.2.2.2.2.2.2) hb10.size
  have F6 := Lib.hid (And.intro ((hbb.block _ (lt_of_blk F5.out.1)).trans F5.out.1) (And.intro (bcall F5.out.2.1 (Nat.le_refl _) hbb) (And.intro F5.out.2.2.1 (And.intro F5.out.2.2.2.1 (And.intro F5.out.2.2.2.2.1 (And.intro F5.out.2.2.2.2.2.1 (And.intro F5.out.2.2.2.2.2.2.1 (And.intro F5.out.2.2.2.2.2.2.2.1 (And.intro F5.out.2.2.2.2.2.2.2.2.1 (And.intro F5.out.2.2.2.2.2.2.2.2.2.1 (And.intro F5.out.2.2.2.2.2.2.2.2.2.2.1 (And.intro F5.out.2.2.2.2.2.2.2.2.2.2.2.1 (And.intro F5.out.2.2.2.2.2.2.2.2.2.2.2.2.1 (And.intro F5.out.2.2.2.2.2.2.2.2.2.2.2.2.2.1 (And.intro F5.out.2.2.2.2.2.2.2.2.2.2.2.2.2.2.1 (And.intro (bcall F5.out.2.2.2.2.2.2.2.2.2.2.2.2.2.2.2.1 (Nat.le_refl _) hbb) (And.intro ((hbb.block _ (lt_of_blk F5.out.2.2.2.2.2.2.2.2.2.2.2.2.2.2.2.2)).trans F5.out.2.2.2.2.2.2.2.2.2.2.2.2.2.2.2.2) (And.intro hob (hlo)))))))))))))))))))
  clear F5
  clear hal hob hbb hfs hb10 hlo
  go_wp2_with (with_reducible refine halt_load 26 rfl ?_)
  generalize W10.alloc (.cells #[.int .i64 0, .int .u32 201326592, .int .i64 8, .int .i64 1, .int .i64 0, .slice p1 1 1, .int .u32 167772161, .int .i64 (-1), .int .i64 100, .slice none 0 0, .int .i64 1] 46) = W11 at *
  generalize W10.heap.size = ob at *
  refine Halted.go ?_
  refine load_whole rfl 26 _ rfl cc C rfl F6.out.1 Try.underlying26 rfl (by rw [HCf.out.size]; kernel_rfl) ?_
  go_wp2_with fail
  have hdt := detours_any (B := W8.heap.size) HCf.out (ds := []) ⟨rfl, Nat.zero_le _, fun h => absurd h (Nat.lt_irrefl _)⟩ (HM.out.2.1.keep F6.out.2.1) (HM.out.2.2.keep F6.out.2.1) (show R40.Sl W11 (some ⟨W8.heap.size, 0, none⟩) 4 4 [r1 p1 s1, r2 p2 s2, r3 p3 s3, r4 p4 s4] from ⟨rfl, by unfold maxLen; omega, fun _ => ⟨W8.heap.size, 0, rfl, row_of F6.out.2.2.2.2.2.2.2.2.2.2.2.2.2.2.2.2.1 rfl⟩⟩) (fun e => by cases e) (ins4 F6.out.2.2.2.2.2.2.2.2.2.2.2.2.2.2.2.1.size (F6.out.2.2.2.1.below F6.out.2.2.2.2.2.2.2.2.2.2.2.2.2.2.2.1) (F6.out.2.2.2.2.2.2.1.below F6.out.2.2.2.2.2.2.2.2.2.2.2.2.2.2.2.1) (F6.out.2.2.2.2.2.2.2.2.2.1.below F6.out.2.2.2.2.2.2.2.2.2.2.2.2.2.2.2.1) (F6.out.2.2.2.2.2.2.2.2.2.2.2.2.1.below F6.out.2.2.2.2.2.2.2.2.2.2.2.2.2.2.2.1)) nx4 ok4
  rw [det4] at hdt
  refine hdt.mono ?_
  rintro e W12 ⟨v9, rfl, hown, hb12⟩
  rcases hown.cases with ⟨-, h⟩ | ⟨g, cap, rfl, hg, hgl, hl1, hl2, hrow, -⟩
  · cases h
  have hbo : ob < W11.heap.size := lt_of_blk F6.out.2.2.2.2.2.2.2.2.2.2.2.2.2.2.2.2.2.1
  have hog : ob < g := Nat.lt_of_lt_of_le hbo hg
  have F7 := Lib.hid (And.intro ((hb12.block _ (lt_of_blk F6.out.1)).trans F6.out.1) (And.intro (bcall F6.out.2.1 (Nat.le_refl _) hb12) (And.intro F6.out.2.2.1 (And.intro F6.out.2.2.2.1 (And.intro F6.out.2.2.2.2.1 (And.intro F6.out.2.2.2.2.2.1 (And.intro F6.out.2.2.2.2.2.2.1 (And.intro F6.out.2.2.2.2.2.2.2.1 (And.intro F6.out.2.2.2.2.2.2.2.2.1 (And.intro F6.out.2.2.2.2.2.2.2.2.2.1 (And.intro F6.out.2.2.2.2.2.2.2.2.2.2.1 (And.intro F6.out.2.2.2.2.2.2.2.2.2.2.2.1 (And.intro F6.out.2.2.2.2.2.2.2.2.2.2.2.2.1 (And.intro F6.out.2.2.2.2.2.2.2.2.2.2.2.2.2.1 (And.intro F6.out.2.2.2.2.2.2.2.2.2.2.2.2.2.2.1 (And.intro (bcall F6.out.2.2.2.2.2.2.2.2.2.2.2.2.2.2.2.1 (Nat.le_refl _) hb12) (And.intro ((hb12.block _ (lt_of_blk F6.out.2.2.2.2.2.2.2.2.2.2.2.2.2.2.2.2.1)).trans F6.out.2.2.2.2.2.2.2.2.2.2.2.2.2.2.2.2.1) (And.intro ((hb12.block _ (lt_of_blk F6.out.2.2.2.2.2.2.2.2.2.2.2.2.2.2.2.2.2.1)).trans F6.out.2.2.2.2.2.2.2.2.2.2.2.2.2.2.2.2.2.1) (And.intro F6.out.2.2.2.2.2.2.2.2.2.2.2.2.2.2.2.2.2.2 (And.intro hrow (hog)))))))))))))))))))))
  clear F6
  clear hown hb12 hdt hg hgl hl1 hl2 hrow hbo hog
  have hcl : cc < W8.heap.size := F7.out.2.2.1
  have hlo : W8.heap.size < ob := F7.out.2.2.2.2.2.2.2.2.2.2.2.2.2.2.2.2.2.2.1
  have hog : ob < g := F7.out.2.2.2.2.2.2.2.2.2.2.2.2.2.2.2.2.2.2.2.2
  have h13 : (W12.alloc (.cells #[.int .i64 5] 3)).heap[cc]? = some (.cells C 26) := hold F7.out.1
  have c17 : (W12.alloc (.cells #[.int .i64 5] 3)).cell? ⟨cc, 17, none⟩ = some (.slice none 0 0) := cell_of h13 HCf.out.c17
  have f17 : (W12.alloc (.cells #[.int .i64 5] 3)).frozen? ⟨cc, 17, none⟩ = false := free_of h13
  have hs := (SetB.self h13).store (o := 17) (lt_of_blk h13) (.slice (some ⟨W12.heap.size, 0, none⟩) 1 1)
  have hszA : (W12.alloc (.cells #[.int .i64 5] 3)).heap.size = W12.heap.size + 1 := by simp
  have hszB : ((W12.alloc (.cells #[.int .i64 5] 3)).setCell ⟨cc, 17, none⟩ (.slice (some ⟨W12.heap.size, 0, none⟩) 1 1)).heap.size = W12.heap.size + 1 := by rw [hs.size, hszA]
  have hlB : ((W12.alloc (.cells #[.int .i64 5] 3)).setCell ⟨cc, 17, none⟩ (.slice (some ⟨W12.heap.size, 0, none⟩) 1 1)).heap[W8.heap.size]? = some (.cells #[.int .i64 0, .int .u32 201326592, .int .i64 8, .int .i64 1, .int .i64 0, .slice p1 1 1, .int .u32 167772161, .int .i64 (-1), .int .i64 100, .slice none 0 0, .int .i64 0, .int .u32 201326592, .int .i64 8, .int .i64 2, .int .i64 0, .slice p2 1 1, .int .u32 184549377, .int .i64 (-1), .int .i64 90, .slice none 0 0, .int .i64 0, .int .u32 201326592, .int .i64 8, .int .i64 3, .int .i64 0, .slice p3 1 1, .int .u32 167772162, .int .i64 (-1), .int .i64 95, .slice none 0 0, .int .i64 0, .int .u32 201326592, .int .i64 8, .int .i64 4, .int .i64 0, .slice p4 1 1, .int .u32 201326592, .int .i64 (-1), .int .i64 99, .slice none 0 0] 44) := (hs.other (by omega)).trans (hold F7.out.2.2.2.2.2.2.2.2.2.2.2.2.2.2.2.2.1)
  have hlC : (((W12.alloc (.cells #[.int .i64 5] 3)).setCell ⟨cc, 17, none⟩ (.slice (some ⟨W12.heap.size, 0, none⟩) 1 1)).alloc (.cells #[.int .i64 5] 3)).heap[W8.heap.size]? = some (.cells #[.int .i64 0, .int .u32 201326592, .int .i64 8, .int .i64 1, .int .i64 0, .slice p1 1 1, .int .u32 167772161, .int .i64 (-1), .int .i64 100, .slice none 0 0, .int .i64 0, .int .u32 201326592, .int .i64 8, .int .i64 2, .int .i64 0, .slice p2 1 1, .int .u32 184549377, .int .i64 (-1), .int .i64 90, .slice none 0 0, .int .i64 0, .int .u32 201326592, .int .i64 8, .int .i64 3, .int .i64 0, .slice p3 1 1, .int .u32 167772162, .int .i64 (-1), .int .i64 95, .slice none 0 0, .int .i64 0, .int .u32 201326592, .int .i64 8, .int .i64 4, .int .i64 0, .slice p4 1 1, .int .u32 201326592, .int .i64 (-1), .int .i64 99, .slice none 0 0] 44) := hold hlB
  have c19 : (((W12.alloc (.cells #[.int .i64 5] 3)).setCell ⟨cc, 17, none⟩ (.slice (some ⟨W12.heap.size, 0, none⟩) 1 1)).alloc (.cells #[.int .i64 5] 3)).cell? ⟨W8.heap.size, 19, none⟩ = some (.slice none 0 0) := cell_of hlC rfl
  have f19 : (((W12.alloc (.cells #[.int .i64 5] 3)).setCell ⟨cc, 17, none⟩ (.slice (some ⟨W12.heap.size, 0, none⟩) 1 1)).alloc (.cells #[.int .i64 5] 3)).frozen? ⟨W8.heap.size, 19, none⟩ = false := free_of hlC
  have hs2 := (SetB.self hlC).store (o := 19) (lt_of_blk hlC) (.slice (some ⟨W12.heap.size + 1, 0, none⟩) 1 1)
  have hmv : ∀ k, k < W12.heap.size → k ≠ cc → k ≠ W8.heap.size → ((((W12.alloc (.cells #[.int .i64 5] 3)).setCell ⟨cc, 17, none⟩ (.slice (some ⟨W12.heap.size, 0, none⟩) 1 1)).alloc (.cells #[.int .i64 5] 3)).setCell ⟨W8.heap.size, 19, none⟩ (.slice (some ⟨W12.heap.size + 1, 0, none⟩) 1 1)).heap[k]? = W12.heap[k]? := fun k h1 h2 h3 => (hs2.other h3).trans (((Below.heap_alloc _ _ k (by rw [hszB]; omega))).trans ((hs.other h2).trans (Below.heap_alloc _ _ k h1)))
  have hszD : ((((W12.alloc (.cells #[.int .i64 5] 3)).setCell ⟨cc, 17, none⟩ (.slice (some ⟨W12.heap.size, 0, none⟩) 1 1)).alloc (.cells #[.int .i64 5] 3)).setCell ⟨W8.heap.size, 19, none⟩ (.slice (some ⟨W12.heap.size + 1, 0, none⟩) 1 1)).heap.size = W12.heap.size + 2 := by rw [hs2.size]; show (((W12.alloc (.cells #[.int .i64 5] 3)).setCell ⟨cc, 17, none⟩ (.slice (some ⟨W12.heap.size, 0, none⟩) 1 1)).heap.push _).size = _; rw [Array.size_push, hszB]
  have hgl : g < W12.heap.size := F7.out.2.2.2.2.2.2.2.2.2.2.2.2.2.2.2.2.2.2.2.1.lt
  have hcc2 := HCC.out
  have hb2w : W2.heap.size ≤ W12.heap.size := F7.out.2.1.size
  have hC2 : ((((W12.alloc (.cells #[.int .i64 5] 3)).setCell ⟨cc, 17, none⟩ (.slice (some ⟨W12.heap.size, 0, none⟩) 1 1)).alloc (.cells #[.int .i64 5] 3)).setCell ⟨W8.heap.size, 19, none⟩ (.slice (some ⟨W12.heap.size + 1, 0, none⟩) 1 1)).heap[cc]? = some (.cells (C.setIfInBounds 17 (.slice (some ⟨W12.heap.size, 0, none⟩) 1 1)) 26) := (hs2.other (by omega)).trans (hold (hs.at (lt_of_blk h13)))
  have hM2 : Below W2.heap.size W2 ((((W12.alloc (.cells #[.int .i64 5] 3)).setCell ⟨cc, 17, none⟩ (.slice (some ⟨W12.heap.size, 0, none⟩) 1 1)).alloc (.cells #[.int .i64 5] 3)).setCell ⟨W8.heap.size, 19, none⟩ (.slice (some ⟨W12.heap.size + 1, 0, none⟩) 1 1)) := Below.trans F7.out.2.1 (Below.trans ((Below.refl W12.heap.size W12).alloc (Nat.le_refl _) (.cells #[.int .i64 5] 3) |>.mono hb2w) (Below.trans (hs.below hcc2) (Below.trans ((Below.refl ((W12.alloc (.cells #[.int .i64 5] 3)).setCell ⟨cc, 17, none⟩ (.slice (some ⟨W12.heap.size, 0, none⟩) 1 1)).heap.size ((W12.alloc (.cells #[.int .i64 5] 3)).setCell ⟨cc, 17, none⟩ (.slice (some ⟨W12.heap.size, 0, none⟩) 1 1))).alloc (Nat.le_refl _) (.cells #[.int .i64 5] 3) |>.mono (by rw [hszB]; omega)) (hs2.below (by omega)))))
  have hL2 : ((((W12.alloc (.cells #[.int .i64 5] 3)).setCell ⟨cc, 17, none⟩ (.slice (some ⟨W12.heap.size, 0, none⟩) 1 1)).alloc (.cells #[.int .i64 5] 3)).setCell ⟨W8.heap.size, 19, none⟩ (.slice (some ⟨W12.heap.size + 1, 0, none⟩) 1 1)).heap[W8.heap.size]? = some (.cells #[.int .i64 0, .int .u32 201326592, .int .i64 8, .int .i64 1, .int .i64 0, .slice p1 1 1, .int .u32 167772161, .int .i64 (-1), .int .i64 100, .slice none 0 0, .int .i64 0, .int .u32 201326592, .int .i64 8, .int .i64 2, .int .i64 0, .slice p2 1 1, .int .u32 184549377, .int .i64 (-1), .int .i64 90, .slice (some ⟨W12.heap.size + 1, 0, none⟩) 1 1, .int .i64 0, .int .u32 201326592, .int .i64 8, .int .i64 3, .int .i64 0, .slice p3 1 1, .int .u32 167772162, .int .i64 (-1), .int .i64 95, .slice none 0 0, .int .i64 0, .int .u32 201326592, .int .i64 8, .int .i64 4, .int .i64 0, .slice p4 1 1, .int .u32 201326592, .int .i64 (-1), .int .i64 99, .slice none 0 0] 44) := hs2.at (lt_of_blk hlC)
  have hO2 : ((((W12.alloc (.cells #[.int .i64 5] 3)).setCell ⟨cc, 17, none⟩ (.slice (some ⟨W12.heap.size, 0, none⟩) 1 1)).alloc (.cells #[.int .i64 5] 3)).setCell ⟨W8.heap.size, 19, none⟩ (.slice (some ⟨W12.heap.size + 1, 0, none⟩) 1 1)).heap[ob]? = some (.cells #[.int .i64 0, .int .u32 201326592, .int .i64 8, .int .i64 1, .int .i64 0, .slice p1 1 1, .int .u32 167772161, .int .i64 (-1), .int .i64 100, .slice none 0 0, .int .i64 1] 46) := (hmv ob (by omega) (by omega) (by omega)).trans F7.out.2.2.2.2.2.2.2.2.2.2.2.2.2.2.2.2.2.1
  have hD2 : R46.Row ((((W12.alloc (.cells #[.int .i64 5] 3)).setCell ⟨cc, 17, none⟩ (.slice (some ⟨W12.heap.size, 0, none⟩) 1 1)).alloc (.cells #[.int .i64 5] 3)).setCell ⟨W8.heap.size, 19, none⟩ (.slice (some ⟨W12.heap.size + 1, 0, none⟩) 1 1)) g 0 [(r2 p2 s2, 2)] := F7.out.2.2.2.2.2.2.2.2.2.2.2.2.2.2.2.2.2.2.2.1.keep (hmv g hgl (by omega) (by omega))
  have hm8 : ∀ k, k < W8.heap.size → k ≠ cc → ((((W12.alloc (.cells #[.int .i64 5] 3)).setCell ⟨cc, 17, none⟩ (.slice (some ⟨W12.heap.size, 0, none⟩) 1 1)).alloc (.cells #[.int .i64 5] 3)).setCell ⟨W8.heap.size, 19, none⟩ (.slice (some ⟨W12.heap.size + 1, 0, none⟩) 1 1)).heap[k]? = W8.heap[k]? := fun k h1 h2 => (hmv k (by omega) h2 (by omega)).trans (F7.out.2.2.2.2.2.2.2.2.2.2.2.2.2.2.2.1.block k h1)
  have hszW : W8.heap.size ≤ ((((W12.alloc (.cells #[.int .i64 5] 3)).setCell ⟨cc, 17, none⟩ (.slice (some ⟨W12.heap.size, 0, none⟩) 1 1)).alloc (.cells #[.int .i64 5] 3)).setCell ⟨W8.heap.size, 19, none⟩ (.slice (some ⟨W12.heap.size + 1, 0, none⟩) 1 1)).heap.size := by rw [hszD]; omega
  have hd1 : IntsAt ((((W12.alloc (.cells #[.int .i64 5] 3)).setCell ⟨cc, 17, none⟩ (.slice (some ⟨W12.heap.size, 0, none⟩) 1 1)).alloc (.cells #[.int .i64 5] 3)).setCell ⟨W8.heap.size, 19, none⟩ (.slice (some ⟨W12.heap.size + 1, 0, none⟩) 1 1)) ((((W12.alloc (.cells #[.int .i64 5] 3)).setCell ⟨cc, 17, none⟩ (.slice (some ⟨W12.heap.size, 0, none⟩) 1 1)).alloc (.cells #[.int .i64 5] 3)).setCell ⟨W8.heap.size, 19, none⟩ (.slice (some ⟨W12.heap.size + 1, 0, none⟩) 1 1)).heap.size (some ⟨W12.heap.size, 0, none⟩) 1 [5] := ints5 ((hs2.other (by omega)).trans (hold ((hs.other (by omega)).trans (hnew _ _)))) (by rw [hszD]; omega)
  have hd2 : IntsAt ((((W12.alloc (.cells #[.int .i64 5] 3)).setCell ⟨cc, 17, none⟩ (.slice (some ⟨W12.heap.size, 0, none⟩) 1 1)).alloc (.cells #[.int .i64 5] 3)).setCell ⟨W8.heap.size, 19, none⟩ (.slice (some ⟨W12.heap.size + 1, 0, none⟩) 1 1)) ((((W12.alloc (.cells #[.int .i64 5] 3)).setCell ⟨cc, 17, none⟩ (.slice (some ⟨W12.heap.size, 0, none⟩) 1 1)).alloc (.cells #[.int .i64 5] 3)).setCell ⟨W8.heap.size, 19, none⟩ (.slice (some ⟨W12.heap.size + 1, 0, none⟩) 1 1)).heap.size (some ⟨W12.heap.size + 1, 0, none⟩) 1 [5] := ints5 ((hs2.other (by omega)).trans (hnewAt hszB.symm)) (by rw [hszD]; omega)
  have hr1 : RtOk ((((W12.alloc (.cells #[.int .i64 5] 3)).setCell ⟨cc, 17, none⟩ (.slice (some ⟨W12.heap.size, 0, none⟩) 1 1)).alloc (.cells #[.int .i64 5] 3)).setCell ⟨W8.heap.size, 19, none⟩ (.slice (some ⟨W12.heap.size + 1, 0, none⟩) 1 1)) ((((W12.alloc (.cells #[.int .i64 5] 3)).setCell ⟨cc, 17, none⟩ (.slice (some ⟨W12.heap.size, 0, none⟩) 1 1)).alloc (.cells #[.int .i64 5] 3)).setCell ⟨W8.heap.size, 19, none⟩ (.slice (some ⟨W12.heap.size + 1, 0, none⟩) 1 1)).heap.size (r1 p1 s1) := mkR_move F7.out.2.2.2.1 hm8 hszW F7.out.2.2.2.2.1 F7.out.2.2.2.2.2.1
  have hr2 : RtOk ((((W12.alloc (.cells #[.int .i64 5] 3)).setCell ⟨cc, 17, none⟩ (.slice (some ⟨W12.heap.size, 0, none⟩) 1 1)).alloc (.cells #[.int .i64 5] 3)).setCell ⟨W8.heap.size, 19, none⟩ (.slice (some ⟨W12.heap.size + 1, 0, none⟩) 1 1)) ((((W12.alloc (.cells #[.int .i64 5] 3)).setCell ⟨cc, 17, none⟩ (.slice (some ⟨W12.heap.size, 0, none⟩) 1 1)).alloc (.cells #[.int .i64 5] 3)).setCell ⟨W8.heap.size, 19, none⟩ (.slice (some ⟨W12.heap.size + 1, 0, none⟩) 1 1)).heap.size (r2' p2 s2 (W12.heap.size + 1)) := RtOk.with5 (mkR_move F7.out.2.2.2.2.2.2.1 hm8 hszW F7.out.2.2.2.2.2.2.2.1 F7.out.2.2.2.2.2.2.2.2.1) hd2
  have hr3 : RtOk ((((W12.alloc (.cells #[.int .i64 5] 3)).setCell ⟨cc, 17, none⟩ (.slice (some ⟨W12.heap.size, 0, none⟩) 1 1)).alloc (.cells #[.int .i64 5] 3)).setCell ⟨W8.heap.size, 19, none⟩ (.slice (some ⟨W12.heap.size + 1, 0, none⟩) 1 1)) ((((W12.alloc (.cells #[.int .i64 5] 3)).setCell ⟨cc, 17, none⟩ (.slice (some ⟨W12.heap.size, 0, none⟩) 1 1)).alloc (.cells #[.int .i64 5] 3)).setCell ⟨W8.heap.size, 19, none⟩ (.slice (some ⟨W12.heap.size + 1, 0, none⟩) 1 1)).heap.size (r3 p3 s3) := mkR_move F7.out.2.2.2.2.2.2.2.2.2.1 hm8 hszW F7.out.2.2.2.2.2.2.2.2.2.2.1 F7.out.2.2.2.2.2.2.2.2.2.2.2.1
  have hr4 : RtOk ((((W12.alloc (.cells #[.int .i64 5] 3)).setCell ⟨cc, 17, none⟩ (.slice (some ⟨W12.heap.size, 0, none⟩) 1 1)).alloc (.cells #[.int .i64 5] 3)).setCell ⟨W8.heap.size, 19, none⟩ (.slice (some ⟨W12.heap.size + 1, 0, none⟩) 1 1)) ((((W12.alloc (.cells #[.int .i64 5] 3)).setCell ⟨cc, 17, none⟩ (.slice (some ⟨W12.heap.size, 0, none⟩) 1 1)).alloc (.cells #[.int .i64 5] 3)).setCell ⟨W8.heap.size, 19, none⟩ (.slice (some ⟨W12.heap.size + 1, 0, none⟩) 1 1)).heap.size (r4 p4 s4) := mkR_move F7.out.2.2.2.2.2.2.2.2.2.2.2.2.1 hm8 hszW F7.out.2.2.2.2.2.2.2.2.2.2.2.2.2.1 F7.out.2.2.2.2.2.2.2.2.2.2.2.2.2.2.1
  have HCg := Lib.hid (HCf.out.deny ⟨W12.heap.size, 0, none⟩)
  have F8 := Lib.hid (And.intro hC2 (And.intro hM2 (And.intro hL2 (And.intro hO2 (And.intro hD2 (And.intro hd1 (And.intro hr1 (And.intro hr2 (And.intro hr3 (And.intro hr4 ((Below.refl ((((W12.alloc (.cells #[.int .i64 5] 3)).setCell ⟨cc, 17, none⟩ (.slice (some ⟨W12.heap.size, 0, none⟩) 1 1)).alloc (.cells #[.int .i64 5] 3)).setCell ⟨W8.heap.size, 19, none⟩ (.slice (some ⟨W12.heap.size + 1, 0, none⟩) 1 1)).heap.size ((((W12.alloc (.cells #[.int .i64 5] 3)).setCell ⟨cc, 17, none⟩ (.slice (some ⟨W12.heap.size, 0, none⟩) 1 1)).alloc (.cells #[.int .i64 5] 3)).setCell ⟨W8.heap.size, 19, none⟩ (.slice (some ⟨W12.heap.size + 1, 0, none⟩) 1 1))))))))))))))
  clear F7
  clear hC2 hM2 hL2 hO2 hD2 hd1 hd2 hr1 hr2 hr3 hr4 hszW hm8 hszD hmv hs2 hlC hlB hszB hszA hs h13 hgl hcc2 hb2w hcl hlo hog HCf
  go_wp2_with fail
  generalize ((((W12.alloc (.cells #[.int .i64 5] 3)).setCell ⟨cc, 17, none⟩ (.slice (some ⟨W12.heap.size, 0, none⟩) 1 1)).alloc (.cells #[.int .i64 5] 3)).setCell ⟨W8.heap.size, 19, none⟩ (.slice (some ⟨W12.heap.size + 1, 0, none⟩) 1 1)) = WE at *
  clear c17 f17 c19 f19
  generalize W12.heap.size = q12 at *
  refine (first_nil _ none 0 WE).mono ?_
  rintro e WF ⟨rfl, hbF⟩
  have hbb := bcall hbF (Nat.le_refl _) ((Below.refl WF.heap.size WF).alloc (Nat.le_refl _) (.cells #[.int .i64 0, .int .u32 0, .int .i64 0, .int .i64 0, .int .i64 0, .slice none 0 0, .int .u32 0, .int .i64 0, .int .i64 0, .slice none 0 0, .int .i64 0] 46))
  have F9 := Lib.hid (And.intro ((hbb.block _ (lt_of_blk F8.out.1)).trans F8.out.1) (And.intro (bcall F8.out.2.1 (Nat.le_refl _) hbb) (And.intro ((hbb.block _ (lt_of_blk F8.out.2.2.1)).trans F8.out.2.2.1) (And.intro ((hbb.block _ (lt_of_blk F8.out.2.2.2.1)).trans F8.out.2.2.2.1) (And.intro (F8.out.2.2.2.2.1.below hbb) (And.intro F8.out.2.2.2.2.2.1 (And.intro F8.out.2.2.2.2.2.2.1 (And.intro F8.out.2.2.2.2.2.2.2.1 (And.intro F8.out.2.2.2.2.2.2.2.2.1 (And.intro F8.out.2.2.2.2.2.2.2.2.2.1 ((bcall F8.out.2.2.2.2.2.2.2.2.2.2 (Nat.le_refl _) hbb))))))))))))
  clear F8
  clear hbb hbF
  go_wp2_with fail
  generalize WF.alloc (.cells #[.int .i64 0, .int .u32 0, .int .i64 0, .int .i64 0, .int .i64 0, .slice none 0 0, .int .u32 0, .int .i64 0, .int .i64 0, .slice none 0 0, .int .i64 0] 46) = WG at *
  refine wp_region_pieces (by kernel_rfl) ?_
  simp only [List.append_eq, List.cons_append, List.nil_append]
  have hd := (Below.refl WG.heap.size WG).drew
  have F10 := Lib.hid (And.intro ((hd.block _ (lt_of_blk F9.out.1)).trans F9.out.1) (And.intro (bcall F9.out.2.1 (Nat.le_refl _) hd) (And.intro ((hd.block _ (lt_of_blk F9.out.2.2.1)).trans F9.out.2.2.1) (And.intro ((hd.block _ (lt_of_blk F9.out.2.2.2.1)).trans F9.out.2.2.2.1) (And.intro (F9.out.2.2.2.2.1.below hd) (And.intro F9.out.2.2.2.2.2.1 (And.intro F9.out.2.2.2.2.2.2.1 (And.intro F9.out.2.2.2.2.2.2.2.1 (And.intro F9.out.2.2.2.2.2.2.2.2.1 (And.intro F9.out.2.2.2.2.2.2.2.2.2.1 ((bcall F9.out.2.2.2.2.2.2.2.2.2.2 (Nat.le_refl _) hd))))))))))))
  clear F9
  clear hd
  generalize WG.drew = Wd at *
  refine wpAny_seg (fun w' => Below Wd.heap.size Wd w') [0, 1, 2, 3, 4, 5, 6, 7, 8, 9, 10, 11, 12, 13, 14, 15, 16, 17, 18, 19, 20, 21, 22, 23, 24, 25, 26, 27, 28, 29, 30, 31, 32, 33, 34, 35, 36, 37, 38, 39, 40, 41, 42] (g := 38) rfl (by kernel_rfl) (Below.refl _ _) ?_
  simp only [pick, List.getD_cons_zero, List.getD_cons_succ]
  ((with_reducible refine wpQuiet_step (fun K hK => ?_)); go_simp; first | ((with_reducible refine hK _ ?_); clear hK K) | (apply Exists.intro; (with_reducible refine ⟨fun w' hw' => ?_, hK _ ?_⟩); (first | exact rfl | exact ⟨rfl, rfl⟩); clear hK K))
  ((with_reducible refine wpQuiet_step (fun K hK => ?_)); go_simp; first | ((with_reducible refine hK _ ?_); clear hK K) | (apply Exists.intro; (with_reducible refine ⟨fun w' hw' => ?_, hK _ ?_⟩); (first | exact rfl | exact ⟨rfl, rfl⟩); clear hK K))
  ((with_reducible refine wpQuiet_step (fun K hK => ?_)); go_simp; first | ((with_reducible refine hK _ ?_); clear hK K) | (apply Exists.intro; (with_reducible refine ⟨fun w' hw' => ?_, hK _ ?_⟩); (first | exact rfl | exact ⟨rfl, rfl⟩); clear hK K))
  ((with_reducible refine wpQuiet_step (fun K hK => ?_)); go_simp; first | ((with_reducible refine hK _ ?_); clear hK K) | (apply Exists.intro; (with_reducible refine ⟨fun w' hw' => ?_, hK _ ?_⟩); (have blk : ∀ {k : Nat} {o : Obj}, Wd.heap[k]? = some o → w'.heap[k]? = some o := fun h => (hw'.block _ (lt_of_blk h)).trans h; have q1 := cell_of (o := 10) (blk F10.out.2.2.2.1) rfl; go_simp; first | exact rfl | exact ⟨rfl, rfl⟩); clear hK K))
  ((with_reducible refine wpQuiet_step (fun K hK => ?_)); go_simp; first | ((with_reducible refine hK _ ?_); clear hK K) | (apply Exists.intro; (with_reducible refine ⟨fun w' hw' => ?_, hK _ ?_⟩); (first | exact rfl | exact ⟨rfl, rfl⟩); clear hK K))
  ((with_reducible refine wpQuiet_step (fun K hK => ?_)); go_simp; first | ((with_reducible refine hK _ ?_); clear hK K) | (apply Exists.intro; (with_reducible refine ⟨fun w' hw' => ?_, hK _ ?_⟩); (first | exact rfl | exact ⟨rfl, rfl⟩); clear hK K))
  ((with_reducible refine wpQuiet_step (fun K hK => ?_)); go_simp; first | ((with_reducible refine hK _ ?_); clear hK K) | (apply Exists.intro; (with_reducible refine ⟨fun w' hw' => ?_, hK _ ?_⟩); (first | exact rfl | exact ⟨rfl, rfl⟩); clear hK K))
  ((with_reducible refine wpQuiet_step (fun K hK => ?_)); go_simp; first | ((with_reducible refine hK _ ?_); clear hK K) | (apply Exists.intro; (with_reducible refine ⟨fun w' hw' => ?_, hK _ ?_⟩); (first | exact rfl | exact ⟨rfl, rfl⟩); clear hK K))
  ((with_reducible refine wpQuiet_step (fun K hK => ?_)); go_simp; first | ((with_reducible refine hK _ ?_); clear hK K) | (apply Exists.intro; (with_reducible refine ⟨fun w' hw' => ?_, hK _ ?_⟩); (first | exact rfl | exact ⟨rfl, rfl⟩); clear hK K))
  ((with_reducible refine wpQuiet_step (fun K hK => ?_)); go_simp; first | ((with_reducible refine hK _ ?_); clear hK K) | (apply Exists.intro; (with_reducible refine ⟨fun w' hw' => ?_, hK _ ?_⟩); (first | exact rfl | exact ⟨rfl, rfl⟩); clear hK K))
  ((with_reducible refine wpQuiet_step (fun K hK => ?_)); go_simp; first | ((with_reducible refine hK _ ?_); clear hK K) | (apply Exists.intro; (with_reducible refine ⟨fun w' hw' => ?_, hK _ ?_⟩); (have blk : ∀ {k : Nat} {o : Obj}, Wd.heap[k]? = some o → w'.heap[k]? = some o := fun h => (hw'.block _ (lt_of_blk h)).trans h; have q1 := cell_of (o := 3) (blk F10.out.2.2.2.1) rfl; go_simp; first | exact rfl | exact ⟨rfl, rfl⟩); clear hK K))
  ((with_reducible refine wpQuiet_step (fun K hK => ?_)); go_simp; first | ((with_reducible refine hK _ ?_); clear hK K) | (apply Exists.intro; (with_reducible refine ⟨fun w' hw' => ?_, hK _ ?_⟩); (first | exact rfl | exact ⟨rfl, rfl⟩); clear hK K))
  ((with_reducible refine wpQuiet_step (fun K hK => ?_)); go_simp; first | ((with_reducible refine hK _ ?_); clear hK K) | (apply Exists.intro; (with_reducible refine ⟨fun w' hw' => ?_, hK _ ?_⟩); (first | exact rfl | exact ⟨rfl, rfl⟩); clear hK K))
  ((with_reducible refine wpQuiet_step (fun K hK => ?_)); go_simp; first | ((with_reducible refine hK _ ?_); clear hK K) | (apply Exists.intro; (with_reducible refine ⟨fun w' hw' => ?_, hK _ ?_⟩); (first | exact rfl | exact ⟨rfl, rfl⟩); clear hK K))
  ((with_reducible refine wpQuiet_step (fun K hK => ?_)); go_simp; first | ((with_reducible refine hK _ ?_); clear hK K) | (apply Exists.intro; (with_reducible refine ⟨fun w' hw' => ?_, hK _ ?_⟩); (first | exact rfl | exact ⟨rfl, rfl⟩); clear hK K))
  ((with_reducible refine wpQuiet_step (fun K hK => ?_)); go_simp; first | ((with_reducible refine hK _ ?_); clear hK K) | (apply Exists.intro; (with_reducible refine ⟨fun w' hw' => ?_, hK _ ?_⟩); (first | exact rfl | exact ⟨rfl, rfl⟩); clear hK K))
  ((with_reducible refine wpQuiet_step (fun K hK => ?_)); go_simp; first | ((with_reducible refine hK _ ?_); clear hK K) | (apply Exists.intro; (with_reducible refine ⟨fun w' hw' => ?_, hK _ ?_⟩); (first | exact rfl | exact ⟨rfl, rfl⟩); clear hK K))
  ((with_reducible refine wpQuiet_step (fun K hK => ?_)); go_simp; first | ((with_reducible refine hK _ ?_); clear hK K) | (apply Exists.intro; (with_reducible refine ⟨fun w' hw' => ?_, hK _ ?_⟩); (first | exact rfl | exact ⟨rfl, rfl⟩); clear hK K))
  ((with_reducible refine wpQuiet_step (fun K hK => ?_)); go_simp; first | ((with_reducible refine hK _ ?_); clear hK K) | (apply Exists.intro; (with_reducible refine ⟨fun w' hw' => ?_, hK _ ?_⟩); (first | exact rfl | exact ⟨rfl, rfl⟩); clear hK K))
  ((with_reducible refine wpQuiet_step (fun K hK => ?_)); go_simp; first | ((with_reducible refine hK _ ?_); clear hK K) | (apply Exists.intro; (with_reducible refine ⟨fun w' hw' => ?_, hK _ ?_⟩); (first | exact rfl | exact ⟨rfl, rfl⟩); clear hK K))
  ((with_reducible refine wpQuiet_step (fun K hK => ?_)); go_simp; first | ((with_reducible refine hK _ ?_); clear hK K) | (apply Exists.intro; (with_reducible refine ⟨fun w' hw' => ?_, hK _ ?_⟩); (first | exact rfl | exact ⟨rfl, rfl⟩); clear hK K))
  ((with_reducible refine wpQuiet_step (fun K hK => ?_)); go_simp; first | ((with_reducible refine hK _ ?_); clear hK K) | (apply Exists.intro; (with_reducible refine ⟨fun w' hw' => ?_, hK _ ?_⟩); (first | exact rfl | exact ⟨rfl, rfl⟩); clear hK K))
  ((with_reducible refine wpQuiet_step (fun K hK => ?_)); go_simp; first | ((with_reducible refine hK _ ?_); clear hK K) | (apply Exists.intro; (with_reducible refine ⟨fun w' hw' => ?_, hK _ ?_⟩); (have blk : ∀ {k : Nat} {o : Obj}, Wd.heap[k]? = some o → w'.heap[k]? = some o := fun h => (hw'.block _ (lt_of_blk h)).trans h; have q1 : w'.cell? ⟨g, 10, none⟩ = some (.int .i64 2) := (cell_same (hw'.block _ F10.out.2.2.2.2.1.lt)).trans (by have h := F10.out.2.2.2.2.1.get 0 (by simp) 10 (by decide); rw [Nat.zero_mul, Nat.zero_add] at h; exact h); go_simp; first | exact rfl | exact ⟨rfl, rfl⟩); clear hK K))
  ((with_reducible refine wpQuiet_step (fun K hK => ?_)); go_simp; first | ((with_reducible refine hK _ ?_); clear hK K) | (apply Exists.intro; (with_reducible refine ⟨fun w' hw' => ?_, hK _ ?_⟩); (first | exact rfl | exact ⟨rfl, rfl⟩); clear hK K))
  ((with_reducible refine wpQuiet_step (fun K hK => ?_)); go_simp; first | ((with_reducible refine hK _ ?_); clear hK K) | (apply Exists.intro; (with_reducible refine ⟨fun w' hw' => ?_, hK _ ?_⟩); (first | exact rfl | exact ⟨rfl, rfl⟩); clear hK K))
  ((with_reducible refine wpQuiet_step (fun K hK => ?_)); go_simp; first | ((with_reducible refine hK _ ?_); clear hK K) | (apply Exists.intro; (with_reducible refine ⟨fun w' hw' => ?_, hK _ ?_⟩); (first | exact rfl | exact ⟨rfl, rfl⟩); clear hK K))
  ((with_reducible refine wpQuiet_step (fun K hK => ?_)); go_simp; first | ((with_reducible refine hK _ ?_); clear hK K) | (apply Exists.intro; (with_reducible refine ⟨fun w' hw' => ?_, hK _ ?_⟩); (first | exact rfl | exact ⟨rfl, rfl⟩); clear hK K))
  ((with_reducible refine wpQuiet_step (fun K hK => ?_)); go_simp; first | ((with_reducible refine hK _ ?_); clear hK K) | (apply Exists.intro; (with_reducible refine ⟨fun w' hw' => ?_, hK _ ?_⟩); (first | exact rfl | exact ⟨rfl, rfl⟩); clear hK K))
  ((with_reducible refine wpQuiet_step (fun K hK => ?_)); go_simp; first | ((with_reducible refine hK _ ?_); clear hK K) | (apply Exists.intro; (with_reducible refine ⟨fun w' hw' => ?_, hK _ ?_⟩); (first | exact rfl | exact ⟨rfl, rfl⟩); clear hK K))
  ((with_reducible refine wpQuiet_step (fun K hK => ?_)); go_simp; first | ((with_reducible refine hK _ ?_); clear hK K) | (apply Exists.intro; (with_reducible refine ⟨fun w' hw' => ?_, hK _ ?_⟩); (first | exact rfl | exact ⟨rfl, rfl⟩); clear hK K))
  ((with_reducible refine wpQuiet_step (fun K hK => ?_)); go_simp; first | ((with_reducible refine hK _ ?_); clear hK K) | (apply Exists.intro; (with_reducible refine ⟨fun w' hw' => ?_, hK _ ?_⟩); (first | exact rfl | exact ⟨rfl, rfl⟩); clear hK K))
  ((with_reducible refine wpQuiet_step (fun K hK => ?_)); go_simp; first | ((with_reducible refine hK _ ?_); clear hK K) | (apply Exists.intro; (with_reducible refine ⟨fun w' hw' => ?_, hK _ ?_⟩); (have blk : ∀ {k : Nat} {o : Obj}, Wd.heap[k]? = some o → w'.heap[k]? = some o := fun h => (hw'.block _ (lt_of_blk h)).trans h; have q1 : w'.cell? ⟨g, 3, none⟩ = some (.int .i64 2) := (cell_same (hw'.block _ F10.out.2.2.2.2.1.lt)).trans (by have h := F10.out.2.2.2.2.1.get 0 (by simp) 3 (by decide); rw [Nat.zero_mul, Nat.zero_add] at h; exact h); go_simp; first | exact rfl | exact ⟨rfl, rfl⟩); clear hK K))
  ((with_reducible refine wpQuiet_step (fun K hK => ?_)); go_simp; first | ((with_reducible refine hK _ ?_); clear hK K) | (apply Exists.intro; (with_reducible refine ⟨fun w' hw' => ?_, hK _ ?_⟩); (first | exact rfl | exact ⟨rfl, rfl⟩); clear hK K))
  ((with_reducible refine wpQuiet_step (fun K hK => ?_)); go_simp; first | ((with_reducible refine hK _ ?_); clear hK K) | (apply Exists.intro; (with_reducible refine ⟨fun w' hw' => ?_, hK _ ?_⟩); (first | exact rfl | exact ⟨rfl, rfl⟩); clear hK K))
  ((with_reducible refine wpQuiet_step (fun K hK => ?_)); go_simp; first | ((with_reducible refine hK _ ?_); clear hK K) | (apply Exists.intro; (with_reducible refine ⟨fun w' hw' => ?_, hK _ ?_⟩); (first | exact rfl | exact ⟨rfl, rfl⟩); clear hK K))
  ((with_reducible refine wpQuiet_step (fun K hK => ?_)); go_simp; first | ((with_reducible refine hK _ ?_); clear hK K) | (apply Exists.intro; (with_reducible refine ⟨fun w' hw' => ?_, hK _ ?_⟩); (first | exact rfl | exact ⟨rfl, rfl⟩); clear hK K))
  ((with_reducible refine wpQuiet_step (fun K hK => ?_)); go_simp; first | ((with_reducible refine hK _ ?_); clear hK K) | (apply Exists.intro; (with_reducible refine ⟨fun w' hw' => ?_, hK _ ?_⟩); (first | exact rfl | exact ⟨rfl, rfl⟩); clear hK K))
  ((with_reducible refine wpQuiet_step (fun K hK => ?_)); go_simp; first | ((with_reducible refine hK _ ?_); clear hK K) | (apply Exists.intro; (with_reducible refine ⟨fun w' hw' => ?_, hK _ ?_⟩); (first | exact rfl | exact ⟨rfl, rfl⟩); clear hK K))
  ((with_reducible refine wpQuiet_step (fun K hK => ?_)); go_simp; first | ((with_reducible refine hK _ ?_); clear hK K) | (apply Exists.intro; (with_reducible refine ⟨fun w' hw' => ?_, hK _ ?_⟩); (first | exact rfl | exact ⟨rfl, rfl⟩); clear hK K))
  with_reducible refine wpQuiet_yes ?_ ?_
  rotate_left
  rfl
  intro K hK
  refine quiet_load 26 _ rfl cc 0 (C.setIfInBounds 17 (.slice (some ⟨q12, 0, none⟩) 1 1)) rfl (fun w' hw' => rangeAt_block ((hw'.block _ (lt_of_blk F10.out.1)).trans F10.out.1) 0 _ (by rw [List.drop_zero, List.take_length])) Try.underlying26 rfl (by rw [HCg.out.size]; kernel_rfl) (hK _ ?_)
  clear hK K
  ((with_reducible refine wpQuiet_step (fun K hK => ?_)); go_simp; first | ((with_reducible refine hK _ ?_); clear hK K) | (apply Exists.intro; (with_reducible refine ⟨fun w' hw' => ?_, hK _ ?_⟩); (first | exact rfl | exact ⟨rfl, rfl⟩); clear hK K))
  ((with_reducible refine wpQuiet_step (fun K hK => ?_)); go_simp; first | ((with_reducible refine hK _ ?_); clear hK K) | (apply Exists.intro; (with_reducible refine ⟨fun w' hw' => ?_, hK _ ?_⟩); (first | exact rfl | exact ⟨rfl, rfl⟩); clear hK K))
  ((with_reducible refine wpQuiet_step (fun K hK => ?_)); go_simp; first | ((with_reducible refine hK _ ?_); clear hK K) | (apply Exists.intro; (with_reducible refine ⟨fun w' hw' => ?_, hK _ ?_⟩); (first | exact rfl | exact ⟨rfl, rfl⟩); clear hK K))
  refine wpQuiet_nil ?_
  intro W' hq
  have F11 := Lib.hid (And.intro ((hq.block _ (lt_of_blk F10.out.1)).trans F10.out.1) (And.intro (bcall F10.out.2.1 (Nat.le_refl _) hq) (And.intro ((hq.block _ (lt_of_blk F10.out.2.2.1)).trans F10.out.2.2.1) (And.intro ((hq.block _ (lt_of_blk F10.out.2.2.2.1)).trans F10.out.2.2.2.1) (And.intro (F10.out.2.2.2.2.1.below hq) (And.intro F10.out.2.2.2.2.2.1 (And.intro F10.out.2.2.2.2.2.2.1 (And.intro F10.out.2.2.2.2.2.2.2.1 (And.intro F10.out.2.2.2.2.2.2.2.2.1 (And.intro F10.out.2.2.2.2.2.2.2.2.2.1 ((bcall F10.out.2.2.2.2.2.2.2.2.2.2 (Nat.le_refl _) hq))))))))))))
  clear F10
  clear hq
  refine wpAny_one 43 (by kernel_rfl) ?_
  simp only [pick, List.getD_cons_zero, List.getD_cons_succ]
  go_wp2_with fail
  have hdt := detours_any (B := WE.heap.size) HCg.out (ds := [5]) (F11.out.2.2.2.2.2.1.below F11.out.2.2.2.2.2.2.2.2.2.2) (HM.out.2.1.keep F11.out.2.1) (HM.out.2.2.keep F11.out.2.1) (show R40.Sl W' (some ⟨W8.heap.size, 0, none⟩) 4 4 [r1 p1 s1, r2' p2 s2 (q12 + 1), r3 p3 s3, r4 p4 s4] from ⟨rfl, by unfold maxLen; omega, fun _ => ⟨W8.heap.size, 0, rfl, row_of F11.out.2.2.1 rfl⟩⟩) (fun e => by cases e) (ins4' F11.out.2.2.2.2.2.2.2.2.2.2.size (F11.out.2.2.2.2.2.2.1.below F11.out.2.2.2.2.2.2.2.2.2.2) (F11.out.2.2.2.2.2.2.2.1.below F11.out.2.2.2.2.2.2.2.2.2.2) (F11.out.2.2.2.2.2.2.2.2.1.below F11.out.2.2.2.2.2.2.2.2.2.2) (F11.out.2.2.2.2.2.2.2.2.2.1.below F11.out.2.2.2.2.2.2.2.2.2.2)) nx4' ok4'
  rw [det4'] at hdt
  refine hdt.mono ?_
  rintro e WH ⟨v19, rfl, hown, hbH⟩
  obtain ⟨a19, c19, rfl, -, -⟩ := hown.sl0
  rw [List.length_nil]
  have F12 := Lib.hid (And.intro ((hbH.block _ (lt_of_blk F11.out.1)).trans F11.out.1) (And.intro (bcall F11.out.2.1 (Nat.le_refl _) hbH) (And.intro ((hbH.block _ (lt_of_blk F11.out.2.2.1)).trans F11.out.2.2.1) (And.intro ((hbH.block _ (lt_of_blk F11.out.2.2.2.1)).trans F11.out.2.2.2.1) (And.intro (F11.out.2.2.2.2.1.below hbH) (And.intro F11.out.2.2.2.2.2.1 (And.intro F11.out.2.2.2.2.2.2.1 (And.intro F11.out.2.2.2.2.2.2.2.1 (And.intro F11.out.2.2.2.2.2.2.2.2.1 (And.intro F11.out.2.2.2.2.2.2.2.2.2.1 ((bcall F11.out.2.2.2.2.2.2.2.2.2.2 (Nat.le_refl _) hbH))))))))))))
  clear F11
  clear hbH hown hdt
  go_wp2_with fail
  have HO := Lib.hid (fun (w' : World) (hw' : Below WH.heap.size WH w') => option_any ((HM.out.2.1.keep F12.out.2.1).keep hw') (r4 p4 s4) ⟨of_decide_eq_true rfl, of_decide_eq_true rfl⟩)
  have HA1 := Lib.hid (fun (w' : World) (hw' : Below WH.heap.size WH w') => allow21 (w := w') (B := WE.heap.size) HCg.out (Nat.le_trans F12.out.2.2.2.2.2.2.2.2.2.2.size hw'.size) (ds := [5]) ((F12.out.2.2.2.2.2.1.below F12.out.2.2.2.2.2.2.2.2.2.2).below (hw'.mono F12.out.2.2.2.2.2.2.2.2.2.2.size)) ((HM.out.2.1.keep F12.out.2.1).keep hw') ((HM.out.2.2.keep F12.out.2.1).keep hw') (x := r1 p1 s1) (y := r1 p1 s1) ⟨(F12.out.2.2.2.2.2.2.1.below F12.out.2.2.2.2.2.2.2.2.2.2).below (hw'.mono F12.out.2.2.2.2.2.2.2.2.2.2.size), mkR_small _ _ _ _ _⟩ ⟨(F12.out.2.2.2.2.2.2.1.below F12.out.2.2.2.2.2.2.2.2.2.2).below (hw'.mono F12.out.2.2.2.2.2.2.2.2.2.2.size), mkR_small _ _ _ _ _⟩ ⟨of_decide_eq_true rfl, of_decide_eq_true rfl⟩ ⟨of_decide_eq_true rfl, of_decide_eq_true rfl⟩ (by rw [op1]; exact wfI (by decide)))
  have HA2 := Lib.hid (fun (w' : World) (hw' : Below WH.heap.size WH w') => allow21 (w := w') (B := WE.heap.size) HCg.out (Nat.le_trans F12.out.2.2.2.2.2.2.2.2.2.2.size hw'.size) (ds := [5]) ((F12.out.2.2.2.2.2.1.below F12.out.2.2.2.2.2.2.2.2.2.2).below (hw'.mono F12.out.2.2.2.2.2.2.2.2.2.2.size)) (finds_nil w') (gets_nil w') (x := r2' p2 s2 (q12 + 1)) (y := r1 p1 s1) ⟨(F12.out.2.2.2.2.2.2.2.1.below F12.out.2.2.2.2.2.2.2.2.2.2).below (hw'.mono F12.out.2.2.2.2.2.2.2.2.2.2.size), small4' _ _ _⟩ ⟨(F12.out.2.2.2.2.2.2.1.below F12.out.2.2.2.2.2.2.2.2.2.2).below (hw'.mono F12.out.2.2.2.2.2.2.2.2.2.2.size), mkR_small _ _ _ _ _⟩ ⟨of_decide_eq_true rfl, of_decide_eq_true rfl⟩ ⟨of_decide_eq_true rfl, of_decide_eq_true rfl⟩ (wfI ⟨by show (-9223372036854775808 : Int) ≤ -1; decide, by show (-1 : Int) ≤ 9223372036854775807; decide⟩))
  rw [op4, show (r4 p4 s4).val = .agg #[.int .i64 0, .int .u32 201326592, .int .i64 8, .int .i64 4, .int .i64 0, .slice p4 1 1, .int .u32 201326592, .int .i64 (-1), .int .i64 99, .slice none 0 0] from rfl, show (r4 p4 s4).cand (-1) = .agg #[.int .i64 0, .int .u32 201326592, .int .i64 8, .int .i64 4, .int .i64 0, .slice p4 1 1, .int .u32 201326592, .int .i64 (-1), .int .i64 99, .slice none 0 0, .int .i64 (-1)] from rfl] at HO
  simp only [al1, show (r1 p1 s1).val = .agg #[.int .i64 0, .int .u32 201326592, .int .i64 8, .int .i64 1, .int .i64 0, .slice p1 1 1, .int .u32 167772161, .int .i64 (-1), .int .i64 100, .slice none 0 0] from rfl] at HA1
  simp only [al2, show (r1 p1 s1).val = .agg #[.int .i64 0, .int .u32 201326592, .int .i64 8, .int .i64 1, .int .i64 0, .slice p1 1 1, .int .u32 167772161, .int .i64 (-1), .int .i64 100, .slice none 0 0] from rfl, show (r2' p2 s2 (q12 + 1)).val = .agg #[.int .i64 0, .int .u32 201326592, .int .i64 8, .int .i64 2, .int .i64 0, .slice p2 1 1, .int .u32 184549377, .int .i64 (-1), .int .i64 90, .slice (some ⟨q12 + 1, 0, none⟩) 1 1] from rfl] at HA2
  refine wpAny_seg (fun w' => Below WH.heap.size WH w') [44, 45, 46, 47, 48, 49, 50, 51, 52, 53, 54, 55, 56, 57, 58, 59, 60, 61, 62, 63, 64, 65, 66, 67, 68, 69, 70, 71, 72, 73, 74, 75, 76, 77, 78, 79] (g := 1) rfl (by kernel_rfl) (Below.refl _ _) ?_
  simp only [pick, List.getD_cons_zero, List.getD_cons_succ]
  ((with_reducible refine wpQuiet_step (fun K hK => ?_)); go_simp; first | ((with_reducible refine hK _ ?_); clear hK K) | (apply Exists.intro; (with_reducible refine ⟨fun w' hw' => ?_, hK _ ?_⟩); (first | exact rfl | exact ⟨rfl, rfl⟩); clear hK K))
  ((with_reducible refine wpQuiet_step (fun K hK => ?_)); go_simp; first | ((with_reducible refine hK _ ?_); clear hK K) | (apply Exists.intro; (with_reducible refine ⟨fun w' hw' => ?_, hK _ ?_⟩); (first | exact rfl | exact ⟨rfl, rfl⟩); clear hK K))
  ((with_reducible refine wpQuiet_step (fun K hK => ?_)); go_simp; first | ((with_reducible refine hK _ ?_); clear hK K) | (apply Exists.intro; (with_reducible refine ⟨fun w' hw' => ?_, hK _ ?_⟩); (first | exact rfl | exact ⟨rfl, rfl⟩); clear hK K))
  ((with_reducible refine wpQuiet_step (fun K hK => ?_)); go_simp; first | ((with_reducible refine hK _ ?_); clear hK K) | (apply Exists.intro; (with_reducible refine ⟨fun w' hw' => ?_, hK _ ?_⟩); (first | exact rfl | exact ⟨rfl, rfl⟩); clear hK K))
  ((with_reducible refine wpQuiet_step (fun K hK => ?_)); go_simp; first | ((with_reducible refine hK _ ?_); clear hK K) | (apply Exists.intro; (with_reducible refine ⟨fun w' hw' => ?_, hK _ ?_⟩); (first | exact rfl | exact ⟨rfl, rfl⟩); clear hK K))
  ((with_reducible refine wpQuiet_step (fun K hK => ?_)); go_simp; first | ((with_reducible refine hK _ ?_); clear hK K) | (apply Exists.intro; (with_reducible refine ⟨fun w' hw' => ?_, hK _ ?_⟩); (first | exact rfl | exact ⟨rfl, rfl⟩); clear hK K))
  ((with_reducible refine wpQuiet_step (fun K hK => ?_)); go_simp; first | ((with_reducible refine hK _ ?_); clear hK K) | (apply Exists.intro; (with_reducible refine ⟨fun w' hw' => ?_, hK _ ?_⟩); (first | exact rfl | exact ⟨rfl, rfl⟩); clear hK K))
  with_reducible refine wpQuiet_yes ?_ ?_
  rotate_left
  rfl
  intro K hK
  refine quiet_load 44 _ rfl W8.heap.size 30 #[.int .i64 0, .int .u32 201326592, .int .i64 8, .int .i64 4, .int .i64 0, .slice p4 1 1, .int .u32 201326592, .int .i64 (-1), .int .i64 99, .slice none 0 0] rfl (fun w' hw' => rangeAt_block ((hw'.block _ (lt_of_blk F12.out.2.2.1)).trans F12.out.2.2.1) 30 _ rfl) Try.underlying44 rfl (by kernel_rfl) (hK _ ?_)
  clear hK K
  ((with_reducible refine wpQuiet_step (fun K hK => ?_)); go_simp; first | ((with_reducible refine hK _ ?_); clear hK K) | (apply Exists.intro; (with_reducible refine ⟨fun w' hw' => ?_, hK _ ?_⟩); ((with_reducible refine (HO.out w' hw').mono ?_); rintro e w2 ⟨rfl, hb⟩; exact ⟨rfl, bcall hw' (Nat.le_refl _) hb⟩); clear hK K))
  ((with_reducible refine wpQuiet_step (fun K hK => ?_)); go_simp; first | ((with_reducible refine hK _ ?_); clear hK K) | (apply Exists.intro; (with_reducible refine ⟨fun w' hw' => ?_, hK _ ?_⟩); (first | exact rfl | exact ⟨rfl, rfl⟩); clear hK K))
  ((with_reducible refine wpQuiet_step (fun K hK => ?_)); go_simp; first | ((with_reducible refine hK _ ?_); clear hK K) | (apply Exists.intro; (with_reducible refine ⟨fun w' hw' => ?_, hK _ ?_⟩); (first | exact rfl | exact ⟨rfl, rfl⟩); clear hK K))
  ((with_reducible refine wpQuiet_step (fun K hK => ?_)); go_simp; first | ((with_reducible refine hK _ ?_); clear hK K) | (apply Exists.intro; (with_reducible refine ⟨fun w' hw' => ?_, hK _ ?_⟩); (first | exact rfl | exact ⟨rfl, rfl⟩); clear hK K))
  ((with_reducible refine wpQuiet_step (fun K hK => ?_)); go_simp; first | ((with_reducible refine hK _ ?_); clear hK K) | (apply Exists.intro; (with_reducible refine ⟨fun w' hw' => ?_, hK _ ?_⟩); (first | exact rfl | exact ⟨rfl, rfl⟩); clear hK K))
  with_reducible refine wpQuiet_yes ?_ ?_
  rotate_left
  rfl
  intro K hK
  refine quiet_load 26 _ rfl cc 0 (C.setIfInBounds 17 (.slice (some ⟨q12, 0, none⟩) 1 1)) rfl (fun w' hw' => rangeAt_block ((hw'.block _ (lt_of_blk F12.out.1)).trans F12.out.1) 0 _ (by rw [List.drop_zero, List.take_length])) Try.underlying26 rfl (by rw [HCg.out.size]; kernel_rfl) (hK _ ?_)
  clear hK K
  ((with_reducible refine wpQuiet_step (fun K hK => ?_)); go_simp; first | ((with_reducible refine hK _ ?_); clear hK K) | (apply Exists.intro; (with_reducible refine ⟨fun w' hw' => ?_, hK _ ?_⟩); (first | exact rfl | exact ⟨rfl, rfl⟩); clear hK K))
  ((with_reducible refine wpQuiet_step (fun K hK => ?_)); go_simp; first | ((with_reducible refine hK _ ?_); clear hK K) | (apply Exists.intro; (with_reducible refine ⟨fun w' hw' => ?_, hK _ ?_⟩); (first | exact rfl | exact ⟨rfl, rfl⟩); clear hK K))
  ((with_reducible refine wpQuiet_step (fun K hK => ?_)); go_simp; first | ((with_reducible refine hK _ ?_); clear hK K) | (apply Exists.intro; (with_reducible refine ⟨fun w' hw' => ?_, hK _ ?_⟩); (first | exact rfl | exact ⟨rfl, rfl⟩); clear hK K))
  ((with_reducible refine wpQuiet_step (fun K hK => ?_)); go_simp; first | ((with_reducible refine hK _ ?_); clear hK K) | (apply Exists.intro; (with_reducible refine ⟨fun w' hw' => ?_, hK _ ?_⟩); (first | exact rfl | exact ⟨rfl, rfl⟩); clear hK K))
  with_reducible refine wpQuiet_yes ?_ ?_
  rotate_left
  rfl
  intro K hK
  refine quiet_load 44 _ rfl W8.heap.size 0 #[.int .i64 0, .int .u32 201326592, .int .i64 8, .int .i64 1, .int .i64 0, .slice p1 1 1, .int .u32 167772161, .int .i64 (-1), .int .i64 100, .slice none 0 0] rfl (fun w' hw' => rangeAt_block ((hw'.block _ (lt_of_blk F12.out.2.2.1)).trans F12.out.2.2.1) 0 _ rfl) Try.underlying44 rfl (by kernel_rfl) (hK _ ?_)
  clear hK K
  ((with_reducible refine wpQuiet_step (fun K hK => ?_)); go_simp; first | ((with_reducible refine hK _ ?_); clear hK K) | (apply Exists.intro; (with_reducible refine ⟨fun w' hw' => ?_, hK _ ?_⟩); (first | exact rfl | exact ⟨rfl, rfl⟩); clear hK K))
  ((with_reducible refine wpQuiet_step (fun K hK => ?_)); go_simp; first | ((with_reducible refine hK _ ?_); clear hK K) | (apply Exists.intro; (with_reducible refine ⟨fun w' hw' => ?_, hK _ ?_⟩); (first | exact rfl | exact ⟨rfl, rfl⟩); clear hK K))
  with_reducible refine wpQuiet_yes ?_ ?_
  rotate_left
  rfl
  intro K hK
  refine quiet_load 44 _ rfl W8.heap.size 0 #[.int .i64 0, .int .u32 201326592, .int .i64 8, .int .i64 1, .int .i64 0, .slice p1 1 1, .int .u32 167772161, .int .i64 (-1), .int .i64 100, .slice none 0 0] rfl (fun w' hw' => rangeAt_block ((hw'.block _ (lt_of_blk F12.out.2.2.1)).trans F12.out.2.2.1) 0 _ rfl) Try.underlying44 rfl (by kernel_rfl) (hK _ ?_)
  clear hK K
  ((with_reducible refine wpQuiet_step (fun K hK => ?_)); go_simp; first | ((with_reducible refine hK _ ?_); clear hK K) | (apply Exists.intro; (with_reducible refine ⟨fun w' hw' => ?_, hK _ ?_⟩); ((with_reducible refine (HA1.out w' hw').mono ?_); rintro e w2 ⟨rfl, hb⟩; exact ⟨rfl, bcall hw' (Nat.le_refl _) hb⟩); clear hK K))
  ((with_reducible refine wpQuiet_step (fun K hK => ?_)); go_simp; first | ((with_reducible refine hK _ ?_); clear hK K) | (apply Exists.intro; (with_reducible refine ⟨fun w' hw' => ?_, hK _ ?_⟩); (first | exact rfl | exact ⟨rfl, rfl⟩); clear hK K))
  ((with_reducible refine wpQuiet_step (fun K hK => ?_)); go_simp; first | ((with_reducible refine hK _ ?_); clear hK K) | (apply Exists.intro; (with_reducible refine ⟨fun w' hw' => ?_, hK _ ?_⟩); (first | exact rfl | exact ⟨rfl, rfl⟩); clear hK K))
  ((with_reducible refine wpQuiet_step (fun K hK => ?_)); go_simp; first | ((with_reducible refine hK _ ?_); clear hK K) | (apply Exists.intro; (with_reducible refine ⟨fun w' hw' => ?_, hK _ ?_⟩); (first | exact rfl | exact ⟨rfl, rfl⟩); clear hK K))
  with_reducible refine wpQuiet_yes ?_ ?_
  rotate_left
  rfl
  intro K hK
  refine quiet_load 26 _ rfl cc 0 (C.setIfInBounds 17 (.slice (some ⟨q12, 0, none⟩) 1 1)) rfl (fun w' hw' => rangeAt_block ((hw'.block _ (lt_of_blk F12.out.1)).trans F12.out.1) 0 _ (by rw [List.drop_zero, List.take_length])) Try.underlying26 rfl (by rw [HCg.out.size]; kernel_rfl) (hK _ ?_)
  clear hK K
  ((with_reducible refine wpQuiet_step (fun K hK => ?_)); go_simp; first | ((with_reducible refine hK _ ?_); clear hK K) | (apply Exists.intro; (with_reducible refine ⟨fun w' hw' => ?_, hK _ ?_⟩); (first | exact rfl | exact ⟨rfl, rfl⟩); clear hK K))
  ((with_reducible refine wpQuiet_step (fun K hK => ?_)); go_simp; first | ((with_reducible refine hK _ ?_); clear hK K) | (apply Exists.intro; (with_reducible refine ⟨fun w' hw' => ?_, hK _ ?_⟩); (first | exact rfl | exact ⟨rfl, rfl⟩); clear hK K))
  with_reducible refine wpQuiet_yes ?_ ?_
  rotate_left
  rfl
  intro K hK
  refine quiet_load 44 _ rfl W8.heap.size 0 #[.int .i64 0, .int .u32 201326592, .int .i64 8, .int .i64 1, .int .i64 0, .slice p1 1 1, .int .u32 167772161, .int .i64 (-1), .int .i64 100, .slice none 0 0] rfl (fun w' hw' => rangeAt_block ((hw'.block _ (lt_of_blk F12.out.2.2.1)).trans F12.out.2.2.1) 0 _ rfl) Try.underlying44 rfl (by kernel_rfl) (hK _ ?_)
  clear hK K
  ((with_reducible refine wpQuiet_step (fun K hK => ?_)); go_simp; first | ((with_reducible refine hK _ ?_); clear hK K) | (apply Exists.intro; (with_reducible refine ⟨fun w' hw' => ?_, hK _ ?_⟩); (first | exact rfl | exact ⟨rfl, rfl⟩); clear hK K))
  ((with_reducible refine wpQuiet_step (fun K hK => ?_)); go_simp; first | ((with_reducible refine hK _ ?_); clear hK K) | (apply Exists.intro; (with_reducible refine ⟨fun w' hw' => ?_, hK _ ?_⟩); (first | exact rfl | exact ⟨rfl, rfl⟩); clear hK K))
  with_reducible refine wpQuiet_yes ?_ ?_
  rotate_left
  rfl
  intro K hK
  refine quiet_load 44 _ rfl W8.heap.size 10 #[.int .i64 0, .int .u32 201326592, .int .i64 8, .int .i64 2, .int .i64 0, .slice p2 1 1, .int .u32 184549377, .int .i64 (-1), .int .i64 90, .slice (some ⟨q12 + 1, 0, none⟩) 1 1] rfl (fun w' hw' => rangeAt_block ((hw'.block _ (lt_of_blk F12.out.2.2.1)).trans F12.out.2.2.1) 10 _ rfl) Try.underlying44 rfl (by kernel_rfl) (hK _ ?_)
  clear hK K
  ((with_reducible refine wpQuiet_step (fun K hK => ?_)); go_simp; first | ((with_reducible refine hK _ ?_); clear hK K) | (apply Exists.intro; (with_reducible refine ⟨fun w' hw' => ?_, hK _ ?_⟩); ((with_reducible refine (HA2.out w' hw').mono ?_); rintro e w2 ⟨rfl, hb⟩; exact ⟨rfl, bcall hw' (Nat.le_refl _) hb⟩); clear hK K))
  ((with_reducible refine wpQuiet_step (fun K hK => ?_)); go_simp; first | ((with_reducible refine hK _ ?_); clear hK K) | (apply Exists.intro; (with_reducible refine ⟨fun w' hw' => ?_, hK _ ?_⟩); (first | exact rfl | exact ⟨rfl, rfl⟩); clear hK K))
  ((with_reducible refine wpQuiet_step (fun K hK => ?_)); go_simp; first | ((with_reducible refine hK _ ?_); clear hK K) | (apply Exists.intro; (with_reducible refine ⟨fun w' hw' => ?_, hK _ ?_⟩); (first | exact rfl | exact ⟨rfl, rfl⟩); clear hK K))
  refine wpQuiet_nil ?_
  intro WK hq
  have F13 := Lib.hid (And.intro ((hq.block _ (lt_of_blk F12.out.1)).trans F12.out.1) (And.intro (bcall F12.out.2.1 (Nat.le_refl _) hq) (And.intro ((hq.block _ (lt_of_blk F12.out.2.2.1)).trans F12.out.2.2.1) (And.intro ((hq.block _ (lt_of_blk F12.out.2.2.2.1)).trans F12.out.2.2.2.1) (And.intro (F12.out.2.2.2.2.1.below hq) (And.intro F12.out.2.2.2.2.2.1 (And.intro F12.out.2.2.2.2.2.2.1 (And.intro F12.out.2.2.2.2.2.2.2.1 (And.intro F12.out.2.2.2.2.2.2.2.2.1 (And.intro F12.out.2.2.2.2.2.2.2.2.2.1 ((bcall F12.out.2.2.2.2.2.2.2.2.2.2 (Nat.le_refl _) hq))))))))))))
  clear F12
  clear hq HO HA1 HA2
  refine wpAny_one 80 (by kernel_rfl) ?_
  simp only [pick, List.getD_cons_zero, List.getD_cons_succ]
  go_wp2_with fail
  refine wpAny_done (by kernel_rfl) ?_ _
  go_wp2_with fail
  go_ret
  exact ⟨rfl, HM.out.1.trans (F13.out.2.1.mono HM.out.1.size)⟩
end Go.Proofs.Ytgainkgbodmciaa

