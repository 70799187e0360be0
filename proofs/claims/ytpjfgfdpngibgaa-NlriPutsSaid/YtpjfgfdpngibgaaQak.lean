/- NlriOrders. -/
import Derived.Test.YtpjfgfdpngibgaaQaj
import Derived.Test.YtpjfgfdpngibgaaQaa
import Derived.ProofKit
import Derived.OpenShut
import Derived.Carry
import Derived.Deep.Slices
import Derived.Deep.Fields
import Derived.ChangeSame
import Derived.Test.YtpjfgfdpngibgaaQai
namespace Go.Proofs.Ytpjfgfdpngibgaa
open Go.RowKit

set_option maxRecDepth 100000 in
set_option maxHeartbeats 8000000 in
theorem orders_law (paths : Bool) {w : World} {oa : Option Addr} {n c : Nat} {L : List Nl} (h : Nls w oa n c L) (hwf : ∀ x ∈ L, Nl.wf x) (x y : Nl) (hx : x.a < 4294967296) : Calls Try.prog 5 #[.slice oa n c, x.v, y.v, .bool paths] w fun e w' => e = .returned (.bool true) ∧ Below w.heap.size w w' := by
  have ha1 := (Below.refl w.heap.size w).alloc (Nat.le_refl _) (.cells #[.int .i64 x.id, .int .u32 (x.a : Int), .int .i64 x.ln] 41)
  have ha2 := ha1.alloc ha1.size (.cells #[.int .i64 y.id, .int .u32 (y.a : Int), .int .i64 y.ln] 41)
  have hxy : TwoN w.heap.size (w.heap.size + 1) x y ((w.alloc (.cells #[.int .i64 x.id, .int .u32 (x.a : Int), .int .i64 x.ln] 41)).alloc (.cells #[.int .i64 y.id, .int .u32 (y.a : Int), .int .i64 y.ln] 41)) := ⟨hold (hnew _ _), hnewAt (by simp)⟩
  have F0 := Lib.hid (And.intro ha2 (And.intro (h.keep ha2) hxy))
  have HW := Lib.hid (And.intro hwf hx)
  have HSZ := Lib.hid (nsize_any paths x hx)
  obtain ⟨m, hm⟩ : ∃ m, m = (sortN L).length := ⟨_, rfl⟩
  have HM := Lib.hid hm
  have hc := hxy.cells
  obtain ⟨⟨z0, z1, z2⟩, y0, y1, y2⟩ := hc
  clear h hwf hx ha1 ha2 hxy hm
  unfold Nl.v
  go_enter Try.func5, Try.ntmps5
  by_cases hbig : 200 < n
  · have h1 : ((200 : Int) < (n : Int)) = True := by simp; omega
    clear hbig
    go_wp2_with fail
    refine (lives06 _).mono ?_
    rintro e W1 ⟨rfl, hb⟩
    have HB := Lib.hid (bcall F0.out.1 (Nat.le_refl _) hb)
    clear hb
    go_wp2_with fail
    go_ret
    exact ⟨rfl, HB.out⟩
  · have h1 : ((200 : Int) < (n : Int)) = False := by simp; omega
    have HN := Lib.hid (show n ≤ 16384 from by omega)
    clear hbig
    cases hok : okN paths x with
    | false =>
      have HO := Lib.hid hok
      rw [hok] at HSZ
      clear hok
      go_wp2_with fail
      clear z0 z1 z2 y0 y1 y2
      generalize ((w.alloc (.cells #[.int .i64 x.id, .int .u32 (x.a : Int), .int .i64 x.ln] 41)).alloc (.cells #[.int .i64 y.id, .int .u32 (y.a : Int), .int .i64 y.ln] 41)) = V at *
      generalize w.heap.size + 1 = q1 at *
      refine (one_any paths x HW.out.2 _).mono ?_
      rw [HO.out]
      rintro e W1 ⟨rfl, hb⟩
      have F13 := Lib.hid (And.intro (bcall F0.out.1 (Nat.le_refl _) hb) (And.intro (F0.out.2.1.keep hb) ((F0.out.2.2.on hb))))
      clear F0
      clear hb
      simp only [Bool.false_eq_true, if_false] at HSZ
      go_wp2_with fail
      refine wp_region_heldP (TwoN w.heap.size q1 x y) (by kernel_rfl) ?_
      have hd := (Below.refl W1.heap.size W1).drew
      have F14 := Lib.hid (And.intro (bcall F13.out.1 (Nat.le_refl _) hd) (And.intro (F13.out.2.1.keep hd) ((F13.out.2.2.on hd))))
      clear F13
      clear hd
      generalize W1.drew = W3 at *
      refine held_one 0 (by kernel_rfl) ?_
      simp only [pick, List.getD_cons_zero]
      go_wp2_with fail
      refine (lives06 _).mono ?_
      rintro e W4 ⟨rfl, hb⟩
      have F15 := Lib.hid (And.intro (bcall F14.out.1 (Nat.le_refl _) hb) (And.intro (F14.out.2.1.keep hb) ((F14.out.2.2.on hb))))
      clear F14
      clear hb
      go_wp2_with fail
      refine ⟨F15.out.2.2, ?_⟩
      refine held_reads [1, 2, 3, 5, 6] (g := 19) rfl (by kernel_rfl) F15.out.2.2 (fun _ _ d _ _ h => by cases d <;> exact h) ?_
      simp only [pick, List.getD_cons_zero, List.getD_cons_succ]
      ((with_reducible refine wpRead_step (fun K hK => ?_)); go_simp; first | ((with_reducible refine hK _ ?_); clear hK K) | (apply Exists.intro; (with_reducible refine ⟨fun w' hw' => ?_, hK _ ?_⟩); ((obtain ⟨⟨f0, f1, f2⟩, f3, f4, f5⟩ := hw'.cells; go_simp; first | exact rfl | exact ⟨rfl, rfl⟩)); clear hK K))
      ((with_reducible refine wpRead_step (fun K hK => ?_)); go_simp; first | ((with_reducible refine hK _ ?_); clear hK K) | (apply Exists.intro; (with_reducible refine ⟨fun w' hw' => ?_, hK _ ?_⟩); ((obtain ⟨⟨f0, f1, f2⟩, f3, f4, f5⟩ := hw'.cells; go_simp; first | exact rfl | exact ⟨rfl, rfl⟩)); clear hK K))
      ((with_reducible refine wpRead_step (fun K hK => ?_)); go_simp; first | ((with_reducible refine hK _ ?_); clear hK K) | (apply Exists.intro; (with_reducible refine ⟨fun w' hw' => ?_, hK _ ?_⟩); ((obtain ⟨⟨f0, f1, f2⟩, f3, f4, f5⟩ := hw'.cells; go_simp; first | exact rfl | exact ⟨rfl, rfl⟩)); clear hK K))
      ((with_reducible refine wpRead_step (fun K hK => ?_)); go_simp; first | ((with_reducible refine hK _ ?_); clear hK K) | (apply Exists.intro; (with_reducible refine ⟨fun w' hw' => ?_, hK _ ?_⟩); ((obtain ⟨⟨f0, f1, f2⟩, f3, f4, f5⟩ := hw'.cells; go_simp; first | exact rfl | exact ⟨rfl, rfl⟩)); clear hK K))
      ((with_reducible refine wpRead_step (fun K hK => ?_)); go_simp; first | ((with_reducible refine hK _ ?_); clear hK K) | (apply Exists.intro; (with_reducible refine ⟨fun w' hw' => ?_, hK _ ?_⟩); ((obtain ⟨⟨f0, f1, f2⟩, f3, f4, f5⟩ := hw'.cells; go_simp; first | exact rfl | exact ⟨rfl, rfl⟩)); clear hK K))
      with_reducible refine wpRead_nil ?_
      obtain ⟨cv, hcv⟩ : ∃ cv, cmpN x y = cv := ⟨_, rfl⟩
      have HC1 := Lib.hid (ncompare_below x y)
      have HC2 := Lib.hid (rncompare_any x y)
      rw [hcv] at HC1 HC2
      clear hcv
      refine held_one 4 (by kernel_rfl) ?_
      simp only [pick, List.getD_cons_zero, List.getD_cons_succ]
      go_wp2_with fail
      refine (HC1.out _).mono ?_
      rintro e W5 ⟨rfl, hb⟩
      have F16 := Lib.hid (And.intro (bcall F15.out.1 (Nat.le_refl _) hb) (And.intro (F15.out.2.1.keep hb) ((F15.out.2.2.on hb))))
      clear F15
      clear hb
      go_wp2_with fail
      refine ⟨F16.out.2.2, ?_⟩
      refine held_one 7 (by kernel_rfl) ?_
      simp only [pick, List.getD_cons_zero, List.getD_cons_succ]
      go_wp2_with fail
      refine (HC2.out _).mono ?_
      rintro e W6 ⟨rfl, hb⟩
      have F17 := Lib.hid (And.intro (bcall F16.out.1 (Nat.le_refl _) hb) (And.intro (F16.out.2.1.keep hb) ((F16.out.2.2.on hb))))
      clear F16
      clear hb
      go_wp2_with fail
      refine ⟨F17.out.2.2, ?_⟩
      refine held_reads [8, 9, 10, 11, 12, 14] (g := 11) rfl (by kernel_rfl) F17.out.2.2 (fun _ _ d _ _ h => by cases d <;> exact h) ?_
      simp only [pick, List.getD_cons_zero, List.getD_cons_succ]
      ((with_reducible refine wpRead_step (fun K hK => ?_)); go_simp; first | ((with_reducible refine hK _ ?_); clear hK K) | (apply Exists.intro; (with_reducible refine ⟨fun w' hw' => ?_, hK _ ?_⟩); ((obtain ⟨⟨f0, f1, f2⟩, f3, f4, f5⟩ := hw'.cells; go_simp; first | exact rfl | exact ⟨rfl, rfl⟩)); clear hK K))
      ((with_reducible refine wpRead_step (fun K hK => ?_)); go_simp; first | ((with_reducible refine hK _ ?_); clear hK K) | (apply Exists.intro; (with_reducible refine ⟨fun w' hw' => ?_, hK _ ?_⟩); ((obtain ⟨⟨f0, f1, f2⟩, f3, f4, f5⟩ := hw'.cells; go_simp; first | exact rfl | exact ⟨rfl, rfl⟩)); clear hK K))
      ((with_reducible refine wpRead_step (fun K hK => ?_)); go_simp; first | ((with_reducible refine hK _ ?_); clear hK K) | (apply Exists.intro; (with_reducible refine ⟨fun w' hw' => ?_, hK _ ?_⟩); ((obtain ⟨⟨f0, f1, f2⟩, f3, f4, f5⟩ := hw'.cells; go_simp; first | exact rfl | exact ⟨rfl, rfl⟩)); clear hK K))
      ((with_reducible refine wpRead_step (fun K hK => ?_)); go_simp; first | ((with_reducible refine hK _ ?_); clear hK K) | (apply Exists.intro; (with_reducible refine ⟨fun w' hw' => ?_, hK _ ?_⟩); ((obtain ⟨⟨f0, f1, f2⟩, f3, f4, f5⟩ := hw'.cells; go_simp; first | exact rfl | exact ⟨rfl, rfl⟩)); clear hK K))
      ((with_reducible refine wpRead_step (fun K hK => ?_)); go_simp; first | ((with_reducible refine hK _ ?_); clear hK K) | (apply Exists.intro; (with_reducible refine ⟨fun w' hw' => ?_, hK _ ?_⟩); ((obtain ⟨⟨f0, f1, f2⟩, f3, f4, f5⟩ := hw'.cells; go_simp; first | exact rfl | exact ⟨rfl, rfl⟩)); clear hK K))
      ((with_reducible refine wpRead_step (fun K hK => ?_)); go_simp; first | ((with_reducible refine hK _ ?_); clear hK K) | (apply Exists.intro; (with_reducible refine ⟨fun w' hw' => ?_, hK _ ?_⟩); ((obtain ⟨⟨f0, f1, f2⟩, f3, f4, f5⟩ := hw'.cells; go_simp; first | exact rfl | exact ⟨rfl, rfl⟩)); clear hK K))
      with_reducible refine wpRead_nil ?_
      refine held_one 13 (by kernel_rfl) ?_
      simp only [pick, List.getD_cons_zero, List.getD_cons_succ]
      go_wp2_with fail
      refine (HSZ.out _).mono ?_
      rintro e W7 ⟨rfl, hb⟩
      have F18 := Lib.hid (And.intro (bcall F17.out.1 (Nat.le_refl _) hb) (And.intro (F17.out.2.1.keep hb) ((F17.out.2.2.on hb))))
      clear F17
      clear hb
      go_wp2_with fail
      refine ⟨F18.out.2.2, ?_⟩
      refine held_reads [15, 16, 17, 18, 20] (g := 5) rfl (by kernel_rfl) F18.out.2.2 (fun _ _ d _ _ h => by cases d <;> exact h) ?_
      simp only [pick, List.getD_cons_zero, List.getD_cons_succ]
      ((with_reducible refine wpRead_step (fun K hK => ?_)); go_simp; first | ((with_reducible refine hK _ ?_); clear hK K) | (apply Exists.intro; (with_reducible refine ⟨fun w' hw' => ?_, hK _ ?_⟩); ((obtain ⟨⟨f0, f1, f2⟩, f3, f4, f5⟩ := hw'.cells; go_simp; first | exact rfl | exact ⟨rfl, rfl⟩)); clear hK K))
      ((with_reducible refine wpRead_step (fun K hK => ?_)); go_simp; first | ((with_reducible refine hK _ ?_); clear hK K) | (apply Exists.intro; (with_reducible refine ⟨fun w' hw' => ?_, hK _ ?_⟩); ((obtain ⟨⟨f0, f1, f2⟩, f3, f4, f5⟩ := hw'.cells; go_simp; first | exact rfl | exact ⟨rfl, rfl⟩)); clear hK K))
      ((with_reducible refine wpRead_step (fun K hK => ?_)); go_simp; first | ((with_reducible refine hK _ ?_); clear hK K) | (apply Exists.intro; (with_reducible refine ⟨fun w' hw' => ?_, hK _ ?_⟩); ((obtain ⟨⟨f0, f1, f2⟩, f3, f4, f5⟩ := hw'.cells; go_simp; first | exact rfl | exact ⟨rfl, rfl⟩)); clear hK K))
      ((with_reducible refine wpRead_step (fun K hK => ?_)); go_simp; first | ((with_reducible refine hK _ ?_); clear hK K) | (apply Exists.intro; (with_reducible refine ⟨fun w' hw' => ?_, hK _ ?_⟩); ((obtain ⟨⟨f0, f1, f2⟩, f3, f4, f5⟩ := hw'.cells; go_simp; first | exact rfl | exact ⟨rfl, rfl⟩)); clear hK K))
      ((with_reducible refine wpRead_step (fun K hK => ?_)); go_simp; first | ((with_reducible refine hK _ ?_); clear hK K) | (apply Exists.intro; (with_reducible refine ⟨fun w' hw' => ?_, hK _ ?_⟩); ((obtain ⟨⟨f0, f1, f2⟩, f3, f4, f5⟩ := hw'.cells; go_simp; first | exact rfl | exact ⟨rfl, rfl⟩)); clear hK K))
      with_reducible refine wpRead_nil ?_
      refine held_one 19 (by kernel_rfl) ?_
      simp only [pick, List.getD_cons_zero, List.getD_cons_succ]
      go_wp2_with fail
      refine (nsort_any F18.out.2.1 HW.out.1 (Nat.le_trans HN.out (by decide))).mono ?_
      rintro e W8 ⟨v8, rfl, ho, hb⟩
      obtain ⟨oa8, c8, rfl, hs8⟩ := nl_own2 ho HM.out
      have F19 := Lib.hid (And.intro (bcall F18.out.1 (Nat.le_refl _) hb) (And.intro (F18.out.2.1.keep hb) (And.intro (F18.out.2.2.on hb) (hs8))))
      clear F18
      clear hb
      clear ho hs8
      go_wp2_with fail
      refine ⟨F19.out.2.2.1, ?_⟩
      refine held_one 21 (by kernel_rfl) ?_
      simp only [pick, List.getD_cons_zero, List.getD_cons_succ]
      go_wp2_with fail
      refine (rsort_any F19.out.2.1 F19.out.2.1.sl.len HN.out).mono ?_
      rintro e W9 ⟨v9, rfl, ho, hb⟩
      obtain ⟨oa9, c9, rfl, hs9⟩ := nl_own2 ho HM.out
      have F20 := Lib.hid (And.intro (bcall F19.out.1 (Nat.le_refl _) hb) (And.intro (F19.out.2.1.keep hb) (And.intro (F19.out.2.2.1.on hb) (And.intro (F19.out.2.2.2.keep hb) (hs9)))))
      clear F19
      clear hb
      clear ho hs9
      go_wp2_with fail
      refine ⟨F20.out.2.2.1, ?_⟩
      refine held_one 22 (by kernel_rfl) ?_
      simp only [pick, List.getD_cons_zero, List.getD_cons_succ]
      go_wp2_with fail
      refine (nsame_any F20.out.2.2.2.1 F20.out.2.2.2.2).mono ?_
      rintro e Wa ⟨rfl, hb⟩
      have F21 := Lib.hid (And.intro (bcall F20.out.1 (Nat.le_refl _) hb) (And.intro (F20.out.2.1.keep hb) (And.intro (F20.out.2.2.1.on hb) (And.intro (F20.out.2.2.2.1.keep hb) ((F20.out.2.2.2.2.keep hb))))))
      clear F20
      clear hb
      go_wp2_with fail
      refine ⟨F21.out.2.2.1, ?_⟩
      refine held_reads [23, 24] (g := 0) rfl (by kernel_rfl) F21.out.2.2.1 (fun _ _ d _ _ h => by cases d <;> exact h) ?_
      simp only [pick, List.getD_cons_zero, List.getD_cons_succ]
      ((with_reducible refine wpRead_step (fun K hK => ?_)); go_simp; first | ((with_reducible refine hK _ ?_); clear hK K) | (apply Exists.intro; (with_reducible refine ⟨fun w' hw' => ?_, hK _ ?_⟩); ((obtain ⟨⟨f0, f1, f2⟩, f3, f4, f5⟩ := hw'.cells; go_simp; first | exact rfl | exact ⟨rfl, rfl⟩)); clear hK K))
      ((with_reducible refine wpRead_step (fun K hK => ?_)); go_simp; first | ((with_reducible refine hK _ ?_); clear hK K) | (apply Exists.intro; (with_reducible refine ⟨fun w' hw' => ?_, hK _ ?_⟩); ((obtain ⟨⟨f0, f1, f2⟩, f3, f4, f5⟩ := hw'.cells; go_simp; first | exact rfl | exact ⟨rfl, rfl⟩)); clear hK K))
      with_reducible refine wpRead_nil ?_
      refine wpAnyH_done (by kernel_rfl) ?_ _
      go_wp2_with fail
      go_ret
      exact ⟨rfl, F21.out.1⟩
    | true =>
      have HO := Lib.hid hok
      rw [hok] at HSZ
      clear hok
      go_wp2_with fail
      clear z0 z1 z2 y0 y1 y2
      generalize ((w.alloc (.cells #[.int .i64 x.id, .int .u32 (x.a : Int), .int .i64 x.ln] 41)).alloc (.cells #[.int .i64 y.id, .int .u32 (y.a : Int), .int .i64 y.ln] 41)) = V at *
      generalize w.heap.size + 1 = q1 at *
      refine (one_any paths x HW.out.2 _).mono ?_
      rw [HO.out]
      rintro e W1 ⟨rfl, hb⟩
      have F22 := Lib.hid (And.intro (bcall F0.out.1 (Nat.le_refl _) hb) (And.intro (F0.out.2.1.keep hb) ((F0.out.2.2.on hb))))
      clear F0
      clear hb
      obtain ⟨⟨z0, z1, z2⟩, -⟩ := F22.out.2.2.cells
      go_wp2_with fail
      refine (rnbytes_any paths HW.out.2 HO.out _).mono ?_
      rintro e W2 ⟨v2, rfl, ho, hb⟩
      obtain ⟨oa2, c2, rfl, -⟩ := own_le ho
      clear ho z0 z1 z2
      have F23 := Lib.hid (And.intro (bcall F22.out.1 (Nat.le_refl _) hb) (And.intro (F22.out.2.1.keep hb) ((F22.out.2.2.on hb))))
      clear F22
      clear hb
      simp only [if_true] at HSZ
      generalize (nb paths x).length = ln at *
      go_wp2_with fail
      refine wp_region_heldP (TwoN w.heap.size q1 x y) (by kernel_rfl) ?_
      have hd := (Below.refl W2.heap.size W2).drew
      have F24 := Lib.hid (And.intro (bcall F23.out.1 (Nat.le_refl _) hd) (And.intro (F23.out.2.1.keep hd) ((F23.out.2.2.on hd))))
      clear F23
      clear hd
      generalize W2.drew = W3 at *
      refine held_one 0 (by kernel_rfl) ?_
      simp only [pick, List.getD_cons_zero]
      go_wp2_with fail
      refine (lives06 _).mono ?_
      rintro e W4 ⟨rfl, hb⟩
      have F25 := Lib.hid (And.intro (bcall F24.out.1 (Nat.le_refl _) hb) (And.intro (F24.out.2.1.keep hb) ((F24.out.2.2.on hb))))
      clear F24
      clear hb
      go_wp2_with fail
      refine ⟨F25.out.2.2, ?_⟩
      refine held_reads [1, 2, 3, 5, 6] (g := 19) rfl (by kernel_rfl) F25.out.2.2 (fun _ _ d _ _ h => by cases d <;> exact h) ?_
      simp only [pick, List.getD_cons_zero, List.getD_cons_succ]
      ((with_reducible refine wpRead_step (fun K hK => ?_)); go_simp; first | ((with_reducible refine hK _ ?_); clear hK K) | (apply Exists.intro; (with_reducible refine ⟨fun w' hw' => ?_, hK _ ?_⟩); ((obtain ⟨⟨f0, f1, f2⟩, f3, f4, f5⟩ := hw'.cells; go_simp; first | exact rfl | exact ⟨rfl, rfl⟩)); clear hK K))
      ((with_reducible refine wpRead_step (fun K hK => ?_)); go_simp; first | ((with_reducible refine hK _ ?_); clear hK K) | (apply Exists.intro; (with_reducible refine ⟨fun w' hw' => ?_, hK _ ?_⟩); ((obtain ⟨⟨f0, f1, f2⟩, f3, f4, f5⟩ := hw'.cells; go_simp; first | exact rfl | exact ⟨rfl, rfl⟩)); clear hK K))
      ((with_reducible refine wpRead_step (fun K hK => ?_)); go_simp; first | ((with_reducible refine hK _ ?_); clear hK K) | (apply Exists.intro; (with_reducible refine ⟨fun w' hw' => ?_, hK _ ?_⟩); ((obtain ⟨⟨f0, f1, f2⟩, f3, f4, f5⟩ := hw'.cells; go_simp; first | exact rfl | exact ⟨rfl, rfl⟩)); clear hK K))
      ((with_reducible refine wpRead_step (fun K hK => ?_)); go_simp; first | ((with_reducible refine hK _ ?_); clear hK K) | (apply Exists.intro; (with_reducible refine ⟨fun w' hw' => ?_, hK _ ?_⟩); ((obtain ⟨⟨f0, f1, f2⟩, f3, f4, f5⟩ := hw'.cells; go_simp; first | exact rfl | exact ⟨rfl, rfl⟩)); clear hK K))
      ((with_reducible refine wpRead_step (fun K hK => ?_)); go_simp; first | ((with_reducible refine hK _ ?_); clear hK K) | (apply Exists.intro; (with_reducible refine ⟨fun w' hw' => ?_, hK _ ?_⟩); ((obtain ⟨⟨f0, f1, f2⟩, f3, f4, f5⟩ := hw'.cells; go_simp; first | exact rfl | exact ⟨rfl, rfl⟩)); clear hK K))
      with_reducible refine wpRead_nil ?_
      obtain ⟨cv, hcv⟩ : ∃ cv, cmpN x y = cv := ⟨_, rfl⟩
      have HC1 := Lib.hid (ncompare_below x y)
      have HC2 := Lib.hid (rncompare_any x y)
      rw [hcv] at HC1 HC2
      clear hcv
      refine held_one 4 (by kernel_rfl) ?_
      simp only [pick, List.getD_cons_zero, List.getD_cons_succ]
      go_wp2_with fail
      refine (HC1.out _).mono ?_
      rintro e W5 ⟨rfl, hb⟩
      have F26 := Lib.hid (And.intro (bcall F25.out.1 (Nat.le_refl _) hb) (And.intro (F25.out.2.1.keep hb) ((F25.out.2.2.on hb))))
      clear F25
      clear hb
      go_wp2_with fail
      refine ⟨F26.out.2.2, ?_⟩
      refine held_one 7 (by kernel_rfl) ?_
      simp only [pick, List.getD_cons_zero, List.getD_cons_succ]
      go_wp2_with fail
      refine (HC2.out _).mono ?_
      rintro e W6 ⟨rfl, hb⟩
      have F27 := Lib.hid (And.intro (bcall F26.out.1 (Nat.le_refl _) hb) (And.intro (F26.out.2.1.keep hb) ((F26.out.2.2.on hb))))
      clear F26
      clear hb
      go_wp2_with fail
      refine ⟨F27.out.2.2, ?_⟩
      refine held_reads [8, 9, 10, 11, 12, 14] (g := 11) rfl (by kernel_rfl) F27.out.2.2 (fun _ _ d _ _ h => by cases d <;> exact h) ?_
      simp only [pick, List.getD_cons_zero, List.getD_cons_succ]
      ((with_reducible refine wpRead_step (fun K hK => ?_)); go_simp; first | ((with_reducible refine hK _ ?_); clear hK K) | (apply Exists.intro; (with_reducible refine ⟨fun w' hw' => ?_, hK _ ?_⟩); ((obtain ⟨⟨f0, f1, f2⟩, f3, f4, f5⟩ := hw'.cells; go_simp; first | exact rfl | exact ⟨rfl, rfl⟩)); clear hK K))
      ((with_reducible refine wpRead_step (fun K hK => ?_)); go_simp; first | ((with_reducible refine hK _ ?_); clear hK K) | (apply Exists.intro; (with_reducible refine ⟨fun w' hw' => ?_, hK _ ?_⟩); ((obtain ⟨⟨f0, f1, f2⟩, f3, f4, f5⟩ := hw'.cells; go_simp; first | exact rfl | exact ⟨rfl, rfl⟩)); clear hK K))
      ((with_reducible refine wpRead_step (fun K hK => ?_)); go_simp; first | ((with_reducible refine hK _ ?_); clear hK K) | (apply Exists.intro; (with_reducible refine ⟨fun w' hw' => ?_, hK _ ?_⟩); ((obtain ⟨⟨f0, f1, f2⟩, f3, f4, f5⟩ := hw'.cells; go_simp; first | exact rfl | exact ⟨rfl, rfl⟩)); clear hK K))
      ((with_reducible refine wpRead_step (fun K hK => ?_)); go_simp; first | ((with_reducible refine hK _ ?_); clear hK K) | (apply Exists.intro; (with_reducible refine ⟨fun w' hw' => ?_, hK _ ?_⟩); ((obtain ⟨⟨f0, f1, f2⟩, f3, f4, f5⟩ := hw'.cells; go_simp; first | exact rfl | exact ⟨rfl, rfl⟩)); clear hK K))
      ((with_reducible refine wpRead_step (fun K hK => ?_)); go_simp; first | ((with_reducible refine hK _ ?_); clear hK K) | (apply Exists.intro; (with_reducible refine ⟨fun w' hw' => ?_, hK _ ?_⟩); ((obtain ⟨⟨f0, f1, f2⟩, f3, f4, f5⟩ := hw'.cells; go_simp; first | exact rfl | exact ⟨rfl, rfl⟩)); clear hK K))
      ((with_reducible refine wpRead_step (fun K hK => ?_)); go_simp; first | ((with_reducible refine hK _ ?_); clear hK K) | (apply Exists.intro; (with_reducible refine ⟨fun w' hw' => ?_, hK _ ?_⟩); ((obtain ⟨⟨f0, f1, f2⟩, f3, f4, f5⟩ := hw'.cells; go_simp; first | exact rfl | exact ⟨rfl, rfl⟩)); clear hK K))
      with_reducible refine wpRead_nil ?_
      refine held_one 13 (by kernel_rfl) ?_
      simp only [pick, List.getD_cons_zero, List.getD_cons_succ]
      go_wp2_with fail
      refine (HSZ.out _).mono ?_
      rintro e W7 ⟨rfl, hb⟩
      have F28 := Lib.hid (And.intro (bcall F27.out.1 (Nat.le_refl _) hb) (And.intro (F27.out.2.1.keep hb) ((F27.out.2.2.on hb))))
      clear F27
      clear hb
      go_wp2_with fail
      refine ⟨F28.out.2.2, ?_⟩
      refine held_reads [15, 16, 17, 18, 20] (g := 5) rfl (by kernel_rfl) F28.out.2.2 (fun _ _ d _ _ h => by cases d <;> exact h) ?_
      simp only [pick, List.getD_cons_zero, List.getD_cons_succ]
      ((with_reducible refine wpRead_step (fun K hK => ?_)); go_simp; first | ((with_reducible refine hK _ ?_); clear hK K) | (apply Exists.intro; (with_reducible refine ⟨fun w' hw' => ?_, hK _ ?_⟩); ((obtain ⟨⟨f0, f1, f2⟩, f3, f4, f5⟩ := hw'.cells; go_simp; first | exact rfl | exact ⟨rfl, rfl⟩)); clear hK K))
      ((with_reducible refine wpRead_step (fun K hK => ?_)); go_simp; first | ((with_reducible refine hK _ ?_); clear hK K) | (apply Exists.intro; (with_reducible refine ⟨fun w' hw' => ?_, hK _ ?_⟩); ((obtain ⟨⟨f0, f1, f2⟩, f3, f4, f5⟩ := hw'.cells; go_simp; first | exact rfl | exact ⟨rfl, rfl⟩)); clear hK K))
      ((with_reducible refine wpRead_step (fun K hK => ?_)); go_simp; first | ((with_reducible refine hK _ ?_); clear hK K) | (apply Exists.intro; (with_reducible refine ⟨fun w' hw' => ?_, hK _ ?_⟩); ((obtain ⟨⟨f0, f1, f2⟩, f3, f4, f5⟩ := hw'.cells; go_simp; first | exact rfl | exact ⟨rfl, rfl⟩)); clear hK K))
      ((with_reducible refine wpRead_step (fun K hK => ?_)); go_simp; first | ((with_reducible refine hK _ ?_); clear hK K) | (apply Exists.intro; (with_reducible refine ⟨fun w' hw' => ?_, hK _ ?_⟩); ((obtain ⟨⟨f0, f1, f2⟩, f3, f4, f5⟩ := hw'.cells; go_simp; first | exact rfl | exact ⟨rfl, rfl⟩)); clear hK K))
      ((with_reducible refine wpRead_step (fun K hK => ?_)); go_simp; first | ((with_reducible refine hK _ ?_); clear hK K) | (apply Exists.intro; (with_reducible refine ⟨fun w' hw' => ?_, hK _ ?_⟩); ((obtain ⟨⟨f0, f1, f2⟩, f3, f4, f5⟩ := hw'.cells; go_simp; first | exact rfl | exact ⟨rfl, rfl⟩)); clear hK K))
      with_reducible refine wpRead_nil ?_
      refine held_one 19 (by kernel_rfl) ?_
      simp only [pick, List.getD_cons_zero, List.getD_cons_succ]
      go_wp2_with fail
      refine (nsort_any F28.out.2.1 HW.out.1 (Nat.le_trans HN.out (by decide))).mono ?_
      rintro e W8 ⟨v8, rfl, ho, hb⟩
      obtain ⟨oa8, c8, rfl, hs8⟩ := nl_own2 ho HM.out
      have F29 := Lib.hid (And.intro (bcall F28.out.1 (Nat.le_refl _) hb) (And.intro (F28.out.2.1.keep hb) (And.intro (F28.out.2.2.on hb) (hs8))))
      clear F28
      clear hb
      clear ho hs8
      go_wp2_with fail
      refine ⟨F29.out.2.2.1, ?_⟩
      refine held_one 21 (by kernel_rfl) ?_
      simp only [pick, List.getD_cons_zero, List.getD_cons_succ]
      go_wp2_with fail
      refine (rsort_any F29.out.2.1 F29.out.2.1.sl.len HN.out).mono ?_
      rintro e W9 ⟨v9, rfl, ho, hb⟩
      obtain ⟨oa9, c9, rfl, hs9⟩ := nl_own2 ho HM.out
      have F30 := Lib.hid (And.intro (bcall F29.out.1 (Nat.le_refl _) hb) (And.intro (F29.out.2.1.keep hb) (And.intro (F29.out.2.2.1.on hb) (And.intro (F29.out.2.2.2.keep hb) (hs9)))))
      clear F29
      clear hb
      clear ho hs9
      go_wp2_with fail
      refine ⟨F30.out.2.2.1, ?_⟩
      refine held_one 22 (by kernel_rfl) ?_
      simp only [pick, List.getD_cons_zero, List.getD_cons_succ]
      go_wp2_with fail
      refine (nsame_any F30.out.2.2.2.1 F30.out.2.2.2.2).mono ?_
      rintro e Wa ⟨rfl, hb⟩
      have F31 := Lib.hid (And.intro (bcall F30.out.1 (Nat.le_refl _) hb) (And.intro (F30.out.2.1.keep hb) (And.intro (F30.out.2.2.1.on hb) (And.intro (F30.out.2.2.2.1.keep hb) ((F30.out.2.2.2.2.keep hb))))))
      clear F30
      clear hb
      go_wp2_with fail
      refine ⟨F31.out.2.2.1, ?_⟩
      refine held_reads [23, 24] (g := 0) rfl (by kernel_rfl) F31.out.2.2.1 (fun _ _ d _ _ h => by cases d <;> exact h) ?_
      simp only [pick, List.getD_cons_zero, List.getD_cons_succ]
      ((with_reducible refine wpRead_step (fun K hK => ?_)); go_simp; first | ((with_reducible refine hK _ ?_); clear hK K) | (apply Exists.intro; (with_reducible refine ⟨fun w' hw' => ?_, hK _ ?_⟩); ((obtain ⟨⟨f0, f1, f2⟩, f3, f4, f5⟩ := hw'.cells; go_simp; first | exact rfl | exact ⟨rfl, rfl⟩)); clear hK K))
      ((with_reducible refine wpRead_step (fun K hK => ?_)); go_simp; first | ((with_reducible refine hK _ ?_); clear hK K) | (apply Exists.intro; (with_reducible refine ⟨fun w' hw' => ?_, hK _ ?_⟩); ((obtain ⟨⟨f0, f1, f2⟩, f3, f4, f5⟩ := hw'.cells; go_simp; first | exact rfl | exact ⟨rfl, rfl⟩)); clear hK K))
      with_reducible refine wpRead_nil ?_
      refine wpAnyH_done (by kernel_rfl) ?_ _
      go_wp2_with fail
      go_ret
      exact ⟨rfl, F31.out.1⟩
end Go.Proofs.Ytpjfgfdpngibgaa
/- NlriJoins. -/
namespace Go.Proofs.Ytpjfgfdpngibgaa
open Go.RowKit

section
variable {P : Program} {ops : Array Oper} {rest : List Oper} {o : Oper} {a : Act} {Q : Exit → Act → World → Prop} {w : World} {α : Type} [Inhabited α] {R : Rep α}
/-- append, where the guard holds -/
theorem append_listG {t : TypeId} {bytes : Nat} (hT : Rep.Ty P t R bytes) (hgd : Region.wanted o (yielded ops a.tmps) = true) (s x : Operand) (ho : o.op = .call { callee := .builtin .append, args := #[s, x], argTypes := #[t, t] })
    {base : Nat} {v : Value} {L : List α} (hs : a.eval s = v) (hown : R.Own w base v L) {sa : Option Addr} {m c : Nat} {M : List α} (hx : a.eval x = .slice sa m c) (hM : R.Sl w sa m c M) (hc : sa = none → c = 0)
    (hmax : L.length + m ≤ maxLen) (hbytes : (L.length + m) * bytes ≤ 140737488355328) (hbase : base ≤ w.heap.size)
    (h : ∀ v' w', R.Own w' base v' (L ++ M) → Below base w w' → w.grownBy w' v.ownBlock → wpList P ops Q rest (a.put o.dst v') w') : wpList P ops Q (o :: rest) a w :=
  wpList_step fun K hK => by
    rw [if_pos hgd]
    obtain ⟨v', w', e1, e2, e3, e4⟩ := Rep.run_append_list hT hown hM hc hmax hbytes hbase (ty := o.type)
    have hk := hK _ _ (h v' w' e2 e3 e4)
    unfold Oper.wp execOp
    simp only [ho, resolve, invoke, builtin, Sem.run_bind, Sem.run_pure, Result.andThen_ok, List.map_toArray, List.map_cons, List.map_nil, hs, hx, e1]
    exact hk
end
theorem bytes_app {a b : List Nat} (h : Bytes a) (k : Bytes b) : Bytes (a ++ b) := fun x hx => (List.mem_append.1 hx).elim (h x) (k x)
theorem nls_nil {w : World} {oa : Option Addr} {n c : Nat} {L : List Nl} (h : Nls w oa n c L) : oa = none → c = 0 := h.nil
set_option maxRecDepth 100000 in
set_option maxHeartbeats 8000000 in
theorem joins_law (paths : Bool) {w : World} {oa ob : Option Addr} {n m c d : Nat} {L M : List Nl} (h : Nls w oa n c L) (k : Nls w ob m d M) : Calls Try.prog 6 #[.slice oa n c, .slice ob m d, .bool paths] w fun e w' => e = .returned (.bool true) ∧ Below w.heap.size w w' := by
  have F0 := Lib.hid (And.intro (Below.refl w.heap.size w) (And.intro h k))
  clear h k
  go_enter Try.func6, Try.ntmps6
  cases hok : okL paths L with
  | false =>
    have HO := Lib.hid hok
    clear hok
    go_wp2_with fail
    refine (rncheck_any F0.out.2.1 paths).mono ?_
    rw [HO.out]
    rintro e W1 ⟨rfl, hb⟩
    have F1 := Lib.hid (And.intro (bcall F0.out.1 (Nat.le_refl _) hb) (And.intro (F0.out.2.1.keep hb) ((F0.out.2.2.keep hb))))
    clear F0
    clear hb
    go_wp2_with fail
    refine (lives06 _).mono ?_
    rintro e W2 ⟨rfl, hb⟩
    have F2 := Lib.hid (And.intro (bcall F1.out.1 (Nat.le_refl _) hb) (And.intro (F1.out.2.1.keep hb) ((F1.out.2.2.keep hb))))
    clear F1
    clear hb
    go_wp2_with fail
    go_ret
    exact ⟨rfl, F2.out.1⟩
  | true =>
    cases hok2 : okL paths M with
    | false =>
      have HO := Lib.hid (And.intro hok hok2)
      clear hok hok2
      go_wp2_with fail
      refine (rncheck_any F0.out.2.1 paths).mono ?_
      rw [HO.out.1]
      rintro e W1 ⟨rfl, hb⟩
      have F3 := Lib.hid (And.intro (bcall F0.out.1 (Nat.le_refl _) hb) (And.intro (F0.out.2.1.keep hb) ((F0.out.2.2.keep hb))))
      clear F0
      clear hb
      go_wp2_with fail
      refine (rncheck_any F3.out.2.2 paths).mono ?_
      rw [HO.out.2]
      rintro e W2 ⟨rfl, hb⟩
      have F4 := Lib.hid (And.intro (bcall F3.out.1 (Nat.le_refl _) hb) (And.intro (F3.out.2.1.keep hb) ((F3.out.2.2.keep hb))))
      clear F3
      clear hb
      go_wp2_with fail
      refine (lives06 _).mono ?_
      rintro e W3 ⟨rfl, hb⟩
      have F5 := Lib.hid (And.intro (bcall F4.out.1 (Nat.le_refl _) hb) (And.intro (F4.out.2.1.keep hb) ((F4.out.2.2.keep hb))))
      clear F4
      clear hb
      go_wp2_with fail
      go_ret
      exact ⟨rfl, F5.out.1⟩
    | true =>
      have HO := Lib.hid (And.intro hok hok2)
      have HJ := Lib.hid (getA_join F0.out.2.1.ad F0.out.2.2.ad (okL_iff.1 hok).2 (okL_iff.1 hok2).2)
      have HB := Lib.hid (And.intro (nbs_bytes (okL_iff.1 hok).2) (nbs_bytes (okL_iff.1 hok2).2))
      have HL := Lib.hid (show (nbs paths L).length ≤ 9216 ∧ (nbs paths M).length ≤ 9216 ∧ n = L.length ∧ m = M.length ∧ n ≤ 1024 ∧ m ≤ 1024 from by
        have h1 := nbs_len (okL_iff.1 hok).2
        have h2 := (okL_iff.1 hok).1
        have h3 := nbs_len (okL_iff.1 hok2).2
        have h4 := (okL_iff.1 hok2).1
        have h5 := F0.out.2.1.sl.len
        have h6 := F0.out.2.2.sl.len
        omega)
      rw [← HL.out.2.2.1, ← HL.out.2.2.2.1] at HJ
      clear hok hok2
      go_wp2_with fail
      refine (rncheck_any F0.out.2.1 paths).mono ?_
      rw [HO.out.1]
      rintro e W1 ⟨rfl, hb⟩
      have F6 := Lib.hid (And.intro (bcall F0.out.1 (Nat.le_refl _) hb) (And.intro (F0.out.2.1.keep hb) ((F0.out.2.2.keep hb))))
      clear F0
      clear hb
      go_wp2_with fail
      refine (rncheck_any F6.out.2.2 paths).mono ?_
      rw [HO.out.2]
      rintro e W2 ⟨rfl, hb⟩
      have F7 := Lib.hid (And.intro (bcall F6.out.1 (Nat.le_refl _) hb) (And.intro (F6.out.2.1.keep hb) ((F6.out.2.2.keep hb))))
      clear F6
      clear hb
      go_wp2_with fail
      refine (nput_any F7.out.2.1 paths HO.out.1).mono ?_
      rintro e W3 ⟨v3, rfl, ho, hb⟩
      obtain ⟨oa3, c3, rfl, hs3⟩ := bt_own ho
      have F8 := Lib.hid (And.intro (bcall F7.out.1 (Nat.le_refl _) hb) (And.intro (F7.out.2.1.keep hb) (And.intro (F7.out.2.2.keep hb) (hs3))))
      clear F7
      clear hb
      clear ho hs3
      obtain ⟨bs, hbs⟩ : ∃ bs, nbs paths L = bs := ⟨_, rfl⟩
      rw [hbs] at F8 HJ HB HL ⊢
      clear hbs
      generalize hln : bs.length = ln at *
      have HX := Lib.hid hln
      clear hln
      go_wp2_with fail
      refine (nput_any F8.out.2.2.1 paths HO.out.2).mono ?_
      rintro e W4 ⟨v4, rfl, ho, hb⟩
      obtain ⟨oa4, c4, rfl, hs4⟩ := bt_own ho
      have F9 := Lib.hid (And.intro (bcall F8.out.1 (Nat.le_refl _) hb) (And.intro (F8.out.2.1.keep hb) (And.intro (F8.out.2.2.1.keep hb) (And.intro (F8.out.2.2.2.keep hb) (hs4)))))
      clear F8
      clear hb
      clear ho hs4
      obtain ⟨cs, hbs⟩ : ∃ bs, nbs paths M = bs := ⟨_, rfl⟩
      rw [hbs] at F9 HJ HB HL ⊢
      clear hbs
      generalize hln : cs.length = lm at *
      have HY := Lib.hid hln
      clear hln
      have hal := (Below.refl W4.heap.size W4).alloc (Nat.le_refl _) (.cells #[] 5)
      have hem : RB.Own (W4.alloc (.cells #[] 5)) W4.heap.size (.slice (some ⟨W4.heap.size, 0, none⟩) 0 0) [] := Rep.own_empty (hnew _ _) (Nat.le_refl _)
      go_wp2_with (at_builtin; refine halt ?_)
      refine Halted.go ?_
      refine Rep.append_list T27 rfl _ _ rfl rfl hem (L := []) (M := bs) rfl (F9.out.2.2.2.1.sl.keep hal) F9.out.2.2.2.1.nil (by rw [List.length_nil]; have := HL.out; first | omega | (unfold maxLen; omega)) (by rw [List.length_nil]; have := HL.out; omega) hal.size ?_
      intro va W5a ho1 hb1 _
      rw [List.nil_append] at ho1
      have hb01 := hal.trans hb1
      clear hb1 hem
      go_wp2_with (at_builtin; refine halt ?_)
      refine Halted.go ?_
      refine Rep.append_list T27 rfl _ _ rfl rfl ho1 (M := cs) rfl (F9.out.2.2.2.2.sl.keep hb01) F9.out.2.2.2.2.nil (by have h1 := HL.out; have h2 := HX.out; first | omega | (unfold maxLen; omega)) (by have h1 := HL.out; have h2 := HX.out; first | omega | (unfold maxLen; omega)) hb01.size ?_
      intro vb W5 ho2 hb2 _
      have hb := hb01.trans hb2
      clear hb2 hb01 ho1 hal
      obtain ⟨oa5, c5, rfl, hs5⟩ := bt_own ho2
      have F10 := Lib.hid (And.intro (bcall F9.out.1 (Nat.le_refl _) hb) (And.intro (F9.out.2.1.keep hb) (And.intro (F9.out.2.2.1.keep hb) (And.intro (F9.out.2.2.2.1.keep hb) (And.intro (F9.out.2.2.2.2.keep hb) (hs5))))))
      clear F9
      clear hb ho2 hs5
      generalize hlz : (bs ++ cs).length = lz at *
      have HZ := Lib.hid (show lz ≤ 100000 from by rw [← hlz, List.length_append]; have h1 := HL.out; have h2 := HX.out; have h3 := HY.out; omega)
      clear hlz
      obtain ⟨k, hk⟩ : ∃ k : Nat, n + m = k := ⟨_, rfl⟩
      rw [hk] at HJ
      have HK := Lib.hid hk
      have e1 : ((n : Int) + (m : Int)) = (k : Int) := by omega
      have e2 : wrap64 (k : Int) = (k : Int) := by have := HL.out; unfold wrap64; omega
      clear hk
      by_cases hkk : k ≤ 1024
      · have e3 : ((1024 : Int) < (k : Int)) = False := by simp; omega
        rw [if_pos hkk] at HJ
        clear hkk
        go_wp2_with fail
        refine (nget_any paths F10.out.2.2.2.2.2 (bytes_app HB.out.1 HB.out.2) HZ.out).mono ?_
        rw [HJ.out]
        rintro e W6 ⟨⟨v, rfl, v6, rfl, ho, -, -⟩, hb⟩
        obtain ⟨oa6, c6, rfl, hs6⟩ := nl_own2 (n := k) ho (by rw [List.length_append]; have := HL.out; have := HK.out; omega)
        have F11 := Lib.hid (And.intro (bcall F10.out.1 (Nat.le_refl _) hb) (And.intro (F10.out.2.1.keep hb) (And.intro (F10.out.2.2.1.keep hb) (hs6))))
        clear F10
        clear hb
        clear ho hs6
        go_wp2_with fail
        refine (lives06 _).mono ?_
        rintro e W7 ⟨rfl, hb⟩
        have F12 := Lib.hid (And.intro (bcall F11.out.1 (Nat.le_refl _) hb) (And.intro (F11.out.2.1.keep hb) (And.intro (F11.out.2.2.1.keep hb) ((F11.out.2.2.2.keep hb)))))
        clear F11
        clear hb
        have hal := (Below.refl W7.heap.size W7).alloc (Nat.le_refl _) (.cells #[] 41)
        have hem : RNl.Own (W7.alloc (.cells #[] 41)) W7.heap.size (.slice (some ⟨W7.heap.size, 0, none⟩) 0 0) [] := Rep.own_empty (hnew _ _) (Nat.le_refl _)
        go_wp2_with (at_builtin; refine halt ?_)
        refine Halted.go ?_
        refine append_listG TNl rfl _ _ rfl rfl hem (L := []) (M := L) rfl (F12.out.2.1.sl.keep hal) F12.out.2.1.nil (by rw [List.length_nil]; have := HL.out; first | omega | (unfold maxLen; omega)) (by rw [List.length_nil]; have := HL.out; omega) hal.size ?_
        intro va W8a ho1 hb1 _
        rw [List.nil_append] at ho1
        have hb01 := hal.trans hb1
        clear hb1 hem
        go_wp2_with (at_builtin; refine halt ?_)
        refine Halted.go ?_
        refine append_listG TNl rfl _ _ rfl rfl ho1 (M := M) rfl (F12.out.2.2.1.sl.keep hb01) F12.out.2.2.1.nil (by have h1 := HL.out; first | omega | (unfold maxLen; omega)) (by have h1 := HL.out; first | omega | (unfold maxLen; omega)) hb01.size ?_
        intro vb W8 ho2 hb2 _
        have hb := hb01.trans hb2
        clear hb2 hb01 ho1 hal
        obtain ⟨oa8, c8, rfl, hs8⟩ := nl_own2 (n := k) ho2 (by rw [List.length_append]; have := HL.out; have := HK.out; omega)
        have F13 := Lib.hid (And.intro (bcall F12.out.1 (Nat.le_refl _) hb) (And.intro (F12.out.2.1.keep hb) (And.intro (F12.out.2.2.1.keep hb) (And.intro (F12.out.2.2.2.keep hb) (hs8)))))
        clear F12
        clear hb ho2 hs8
        go_wp2_with fail
        refine (nsame_any F13.out.2.2.2.1 F13.out.2.2.2.2).mono ?_
        rintro e W9 ⟨rfl, hb⟩
        have F14 := Lib.hid (And.intro (bcall F13.out.1 (Nat.le_refl _) hb) (And.intro (F13.out.2.1.keep hb) (And.intro (F13.out.2.2.1.keep hb) (And.intro (F13.out.2.2.2.1.keep hb) ((F13.out.2.2.2.2.keep hb))))))
        clear F13
        clear hb
        go_wp2_with fail
        go_ret
        exact ⟨rfl, F14.out.1⟩
      · have e3 : ((1024 : Int) < (k : Int)) = True := by simp; omega
        rw [if_neg hkk] at HJ
        clear hkk
        go_wp2_with fail
        refine (nget_any paths F10.out.2.2.2.2.2 (bytes_app HB.out.1 HB.out.2) HZ.out).mono ?_
        rw [HJ.out]
        rintro e W6 ⟨⟨v, rfl, rfl⟩, hb⟩
        have F15 := Lib.hid (And.intro (bcall F10.out.1 (Nat.le_refl _) hb) (And.intro (F10.out.2.1.keep hb) (And.intro (F10.out.2.2.1.keep hb) (And.intro (F10.out.2.2.2.1.keep hb) (And.intro (F10.out.2.2.2.2.1.keep hb) ((F10.out.2.2.2.2.2.keep hb)))))))
        clear F10
        clear hb
        go_wp2_with fail
        refine (lives06 _).mono ?_
        rintro e W7 ⟨rfl, hb⟩
        have F16 := Lib.hid (And.intro (bcall F15.out.1 (Nat.le_refl _) hb) (And.intro (F15.out.2.1.keep hb) (And.intro (F15.out.2.2.1.keep hb) (And.intro (F15.out.2.2.2.1.keep hb) (And.intro (F15.out.2.2.2.2.1.keep hb) ((F15.out.2.2.2.2.2.keep hb)))))))
        clear F15
        clear hb
        go_wp2_with fail
        go_ret
        exact ⟨rfl, F16.out.1⟩
end Go.Proofs.Ytpjfgfdpngibgaa
/- NlriSorts. -/
namespace Go.Proofs.Ytpjfgfdpngibgaa
open Go.RowKit

theorem sort_next {L : List Nl} {j : Nat} (h : j + 1 < (sortN L).length) : cmpN ((sortN L).getD j default) ((sortN L).getD (j + 1) default) = -1 := by
  have h1 := (sortN_spec L).1
  unfold OrdN Kl.Ordered at h1
  rw [List.pairwise_iff_getElem] at h1
  have h2 := h1 j (j + 1) (by omega) h (by omega)
  rw [cmpN_m1]
  simp only [List.getD_eq_getElem?_getD, List.getElem?_eq_getElem h, List.getElem?_eq_getElem (show j < (sortN L).length by omega), Option.getD_some]
  exact h2
structure TwA (b o1 o2 : Nat) (x y : Nl) (B : Nat) (W : World) : Prop where
  p : RNl.At W b o1 x
  q : RNl.At W b o2 y
  lt : b < B
  le : B ≤ W.heap.size
theorem TwA.keep {b o1 o2 : Nat} {x y : Nl} {B : Nat} {W W' : World} (h : TwA b o1 o2 x y B W) (hb : Below W.heap.size W W') : TwA b o1 o2 x y B W' :=
  ⟨h.p.keep (hb.block _ (Nat.lt_of_lt_of_le h.lt h.le)), h.q.keep (hb.block _ (Nat.lt_of_lt_of_le h.lt h.le)), h.lt, Nat.le_trans h.le hb.size⟩
set_option maxRecDepth 100000 in
set_option maxHeartbeats 8000000 in
theorem sorts_law {w : World} {oa : Option Addr} {n c : Nat} {L : List Nl} (h : Nls w oa n c L) (hwf : ∀ x ∈ L, Nl.wf x) : Calls Try.prog 7 #[.slice oa n c] w fun e w' => e = .returned (.bool true) ∧ Below w.heap.size w w' := by
  have HS := Lib.hid (sortN_spec L)
  have HW := Lib.hid (And.intro hwf (And.intro h.ad h.sl.len))
  have F0 := Lib.hid (And.intro (Below.refl w.heap.size w) h)
  clear h hwf
  go_enter Try.func7, Try.ntmps7
  by_cases hbig : 200 < n
  · have h1 : ((200 : Int) < (n : Int)) = True := by simp; omega
    clear hbig
    go_wp2_with fail
    refine (lives06 _).mono ?_
    rintro e W1 ⟨rfl, hb⟩
    have HB := Lib.hid hb
    clear hb
    go_wp2_with fail
    go_ret
    exact ⟨rfl, HB.out⟩
  · have h1 : ((200 : Int) < (n : Int)) = False := by simp; omega
    have HN := Lib.hid (show n ≤ 200 from by omega)
    clear hbig
    go_wp2_with fail
    refine (nsort_any F0.out.2 HW.out.1 (Nat.le_trans HN.out (by decide))).mono ?_
    rintro e W1 ⟨v1, rfl, ho, hb⟩
    obtain ⟨m, hm⟩ : ∃ m, m = (sortN L).length := ⟨_, rfl⟩
    have hmn : m ≤ n := by have h1 := HS.out.2.2; have h2 := HW.out.2.2; omega
    obtain ⟨oa3, c3, rfl, hs3⟩ : ∃ oa c, v1 = .slice oa m c ∧ Nls W1 oa m c (sortN L) := by
      rw [hm]
      exact nl_own ho (fun x hx => HW.out.2.1 x ((HS.out.2.1 x).1 hx))
    have HWS := Lib.hid (show ∀ x ∈ sortN L, Nl.wf x from fun x hx => HW.out.1 x ((HS.out.2.1 x).1 hx))
    have G1 := Lib.hid (And.intro hb (And.intro hs3 (And.intro hm hmn)))
    clear hb ho hs3 hm hmn
    go_wp2_with fail
    go_loopw [4] (fun iv wr => ∃ i : Nat, 1 ≤ i ∧ (i ≤ m ∨ i = 1) ∧ iv = .int .i64 i ∧ Below W1.heap.size W1 wr) (fun iv _ => m + 1 - (intOf iv).toNat)
    case atStart => exact ⟨1, Nat.le_refl _, .inr rfl, rfl, Below.refl _ _⟩
    case round =>
      obtain ⟨i, hi1, him, rfl, hb⟩ := hrel
      obtain ⟨w2, rfl⟩ : ∃ w2 : World, w2 = wr := ⟨_, rfl⟩
      have hmx : m ≤ 200 := Nat.le_trans G1.out.2.2.2 HN.out
      have hi0 : ((0 : Int) ≤ (i : Int)) = True := by simp
      by_cases hlt : i < m
      · have hil : ((i : Int) < (m : Int)) = True := by simp; omega
        have hwi := wrapS hlt (show m ≤ maxLen by unfold maxLen; omega)
        obtain ⟨j, rfl⟩ : ∃ j, i = j + 1 := ⟨i - 1, by omega⟩
        obtain ⟨i, hi⟩ : ∃ i, i = j + 1 := ⟨_, rfl⟩
        rw [← hi] at hil hi0 hwi hlt ⊢
        have hj0 : ((0 : Int) ≤ (j : Int)) = True := by simp
        have hjl : ((j : Int) < (m : Int)) = True := by simp; omega
        have hsub : IntKind.i64.wrap ((i : Int) - 1) = (j : Int) := (IntWalk.i64_in _ (by omega)).trans (by omega)
        have hcm := sort_next (L := L) (j := j) (by rw [← G1.out.2.2.1]; omega)
        obtain ⟨b, o, rfl, hbb, hat⟩ := (G1.out.2.1).sl.at (show j < m by omega)
        obtain ⟨b', o', e', hr⟩ := (G1.out.2.1).sl.row (by omega)
        cases e'
        have hat2 := hr.get i (by rw [← G1.out.2.2.1]; exact hlt)
        rw [← hi] at hcm
        generalize (sortN L).getD j default = x at *
        generalize (sortN L).getD i default = y at *
        have hd := (Below.refl w2.heap.size w2).drew
        have hb2 := bcall hb (Nat.le_refl _) hd
        have K := Lib.hid (And.intro (show TwA b (o + j * 3) (o + i * 3) x y W1.heap.size w2.drew from ⟨hat.keep (hb2.block _ hbb), hat2.keep (hb2.block _ hbb), hbb, hb2.size⟩) hb2)
        have HC := Lib.hid (ncompare_below x y)
        rw [hcm] at HC
        have HI := Lib.hid (And.intro hlt hwi)
        clear hcm hat hat2 hr hbb hd hb2 hb hi hlt him hi1
        go_wp2_with fail
        refine wp_region_heldP (TwA b (o + j * 3) (o + i * 3) x y W1.heap.size) (by kernel_rfl) ?_
        generalize w2.drew = V at *
        refine held_reads [0, 1, 2, 3, 4, 5, 6, 7, 8] (g := 2) rfl (by kernel_rfl) K.out.1 (fun _ _ d _ _ h => by cases d <;> exact h) ?_
        simp only [pick, List.getD_cons_zero, List.getD_cons_succ]
        ((with_reducible refine wpRead_step (fun K hK => ?_)); go_simp; first | ((with_reducible refine hK _ ?_); clear hK K) | (apply Exists.intro; (with_reducible refine ⟨fun w' hw' => ?_, hK _ ?_⟩); (first | exact rfl | exact ⟨rfl, rfl⟩); clear hK K))
        ((with_reducible refine wpRead_step (fun K hK => ?_)); go_simp; first | ((with_reducible refine hK _ ?_); clear hK K) | (apply Exists.intro; (with_reducible refine ⟨fun w' hw' => ?_, hK _ ?_⟩); (first | exact rfl | exact ⟨rfl, rfl⟩); clear hK K))
        ((with_reducible refine wpRead_step (fun K hK => ?_)); go_simp; first | ((with_reducible refine hK _ ?_); clear hK K) | (apply Exists.intro; (with_reducible refine ⟨fun w' hw' => ?_, hK _ ?_⟩); (first | exact rfl | exact ⟨rfl, rfl⟩); clear hK K))
        ((with_reducible refine wpRead_step (fun K hK => ?_)); go_simp; first | ((with_reducible refine hK _ ?_); clear hK K) | (apply Exists.intro; (with_reducible refine ⟨fun w' hw' => ?_, hK _ ?_⟩); (first | exact rfl | exact ⟨rfl, rfl⟩); clear hK K))
        with_reducible refine wpRead_yes ?_ ?_
        rotate_left
        rfl
        intro K hK
        refine read_load 41 _ rfl b (o + j * 3) #[.int .i64 x.id, .int .u32 (x.a : Int), .int .i64 x.ln] rfl (fun w' hw' => at_range hw'.p) Try.underlying41 rfl (by kernel_rfl) (hK _ ?_)
        clear hK K
        ((with_reducible refine wpRead_step (fun K hK => ?_)); go_simp; first | ((with_reducible refine hK _ ?_); clear hK K) | (apply Exists.intro; (with_reducible refine ⟨fun w' hw' => ?_, hK _ ?_⟩); (first | exact rfl | exact ⟨rfl, rfl⟩); clear hK K))
        ((with_reducible refine wpRead_step (fun K hK => ?_)); go_simp; first | ((with_reducible refine hK _ ?_); clear hK K) | (apply Exists.intro; (with_reducible refine ⟨fun w' hw' => ?_, hK _ ?_⟩); (first | exact rfl | exact ⟨rfl, rfl⟩); clear hK K))
        ((with_reducible refine wpRead_step (fun K hK => ?_)); go_simp; first | ((with_reducible refine hK _ ?_); clear hK K) | (apply Exists.intro; (with_reducible refine ⟨fun w' hw' => ?_, hK _ ?_⟩); (first | exact rfl | exact ⟨rfl, rfl⟩); clear hK K))
        with_reducible refine wpRead_yes ?_ ?_
        rotate_left
        rfl
        intro K hK
        refine read_load 41 _ rfl b (o + i * 3) #[.int .i64 y.id, .int .u32 (y.a : Int), .int .i64 y.ln] rfl (fun w' hw' => at_range hw'.q) Try.underlying41 rfl (by kernel_rfl) (hK _ ?_)
        clear hK K
        with_reducible refine wpRead_nil ?_
        refine held_one 9 (by kernel_rfl) ?_
        simp only [pick, List.getD_cons_zero, List.getD_cons_succ]
        go_wp2_with fail
        refine (HC.out _).mono ?_
        rintro e V2 ⟨rfl, hb⟩
        have K2 := Lib.hid (And.intro (K.out.1.keep hb) (bcall K.out.2 (Nat.le_refl _) hb))
        clear hb
        go_wp2_with fail
        refine ⟨K2.out.1, ?_⟩
        refine held_reads [10] (g := 0) rfl (by kernel_rfl) K2.out.1 (fun _ _ d _ _ h => by cases d <;> exact h) ?_
        simp only [pick, List.getD_cons_zero, List.getD_cons_succ]
        ((with_reducible refine wpRead_step (fun K hK => ?_)); go_simp; first | ((with_reducible refine hK _ ?_); clear hK K) | (apply Exists.intro; (with_reducible refine ⟨fun w' hw' => ?_, hK _ ?_⟩); (first | exact rfl | exact ⟨rfl, rfl⟩); clear hK K))
        with_reducible refine wpRead_nil ?_
        refine wpAnyH_done (by kernel_rfl) ?_ _
        go_wp2_with fail
        exact ⟨⟨i + 1, by omega, .inl HI.out.1, by first | rw [HI.out.2] | rw [Int.natCast_succ], K2.out.2⟩, by
          have h1 := HI.out.1
          first
          | (rw [HI.out.2]; show m + 1 - ((i + 1 : Nat) : Int).toNat < m + 1 - (i : Int).toNat; omega)
          | (rw [← Int.natCast_succ]; show m + 1 - ((i + 1 : Nat) : Int).toNat < m + 1 - (i : Int).toNat; omega)⟩
      · have hil : ((i : Int) < (m : Int)) = False := by simp; omega
        have F2 := Lib.hid (And.intro (bcall G1.out.1 (Nat.le_refl _) hb) (G1.out.2.1.keep hb))
        have hle : ((m : Int) ≤ (n : Int)) = True := by have := G1.out.2.2.2; simp; omega
        clear hlt him hi1 hb
        go_wp2_with fail
        refine (lives06 _).mono ?_
        rintro e W3 ⟨rfl, hb⟩
        have F1 := Lib.hid (And.intro (bcall F2.out.1 (Nat.le_refl _) hb) ((F2.out.2.keep hb)))
        clear F2
        clear hb
        go_wp2_with fail
        refine (nsort_any F1.out.2 HWS.out (Nat.le_trans hmx (by decide))).mono ?_
        rw [sortN_self HS.out.1]
        rintro e W4 ⟨v4, rfl, ho, hb⟩
        obtain ⟨oa4, c4, rfl, hs4⟩ := nl_own2 ho G1.out.2.2.1
        have F2 := Lib.hid (And.intro (bcall F1.out.1 (Nat.le_refl _) hb) (And.intro (F1.out.2.keep hb) (hs4)))
        clear F1
        clear hb
        clear ho hs4
        go_wp2_with fail
        refine (nsame_any F2.out.2.2 F2.out.2.1.sl).mono ?_
        rintro e W5 ⟨rfl, hb⟩
        have F3 := Lib.hid (And.intro (bcall F2.out.1 (Nat.le_refl _) hb) (And.intro (F2.out.2.1.keep hb) ((F2.out.2.2.keep hb))))
        clear F2
        clear hb
        go_wp2_with fail
        go_ret
        exact ⟨rfl, F3.out.1⟩
end Go.Proofs.Ytpjfgfdpngibgaa
/- What an argument that reads as data is in memory: ints, bools, strings, slices; structs by 'Reads.struct'. -/
namespace Go.Proofs.Ytpjfgfdpngibgaa
open Go.ChangeShapes Go.WideShapes Go.ChangeAt Go.RowKit Go.Deep

/-- cells that read as data of type T are those of some a -/
structure Reads (P : Program) (T : TypeId) {α : Type} (cells : α → List Value) (ok : World → α → Prop) : Prop where
  read : ∀ {H : Type} {enc : TypeId × Value → H} {w : World} {spare : Nat → Bool} {held : Bool} {fuel : Nat} {cs : List Value} {x : DataW H × List MemPlace}, DataW.trod enc P w 0 spare held fuel T cs = some x → ∃ a, cs = cells a ∧ ok w a
theorem Reads.int {P : Program} {T : TypeId} {k : IntKind} (ht : P.underlying T = some (.int k)) : Reads P T (fun n : Int => [.int k n]) (fun _ n => (Lit.int k n).wf = true) :=
  ⟨fun h => by obtain ⟨n, e, _, hw⟩ := DataW.trod_int ht h; exact ⟨n, e, hw⟩⟩
theorem Reads.bool {P : Program} {T : TypeId} (ht : P.underlying T = some .bool) : Reads P T (fun b : Bool => [.bool b]) (fun _ _ => True) :=
  ⟨fun h => by obtain ⟨n, e, _⟩ := DataW.trod_bool ht h; exact ⟨n, e, trivial⟩⟩
theorem Reads.string {P : Program} {T : TypeId} (ht : P.underlying T = some .string) : Reads P T (fun s : ByteArray => [.string s]) (fun _ s => s.size ≤ maxLen) :=
  ⟨fun h => by obtain ⟨s, e, _, hw⟩ := DataW.trod_string ht h; exact ⟨s, e, hw⟩⟩
theorem wf64 {n : Int} (h : (Lit.int .i64 n).wf = true) : -9223372036854775808 ≤ n ∧ n ≤ 9223372036854775807 := by
  simp only [Lit.wf, IntKind.min, IntKind.max, IntKind.signed, IntKind.bits, Bool.and_eq_true, decide_eq_true_eq] at h
  simpa using h
theorem wfu32 {n : Int} (h : (Lit.int .u32 n).wf = true) : 0 ≤ n ∧ n ≤ 4294967295 := by
  simp only [Lit.wf, IntKind.min, IntKind.max, IntKind.signed, IntKind.bits, Bool.and_eq_true] at h
  simpa using h
theorem wfu8 {n : Int} (h : (Lit.int .u8 n).wf = true) : 0 ≤ n ∧ n ≤ 255 := by
  simp only [Lit.wf, IntKind.min, IntKind.max, IntKind.signed, IntKind.bits, Bool.and_eq_true] at h
  simpa using h

/-- a slice, and what it reads as -/
structure SlV (α : Type) where
  a : Option Addr
  n : Nat
  c : Nat
  l : List α
structure SlOk {α : Type} [Inhabited α] (R : Rep α) (ok : World → α → Prop) (w : World) (s : SlV α) : Prop where
  sl : R.Sl w s.a s.n s.c s.l
  nil : s.a = none → s.c = 0
  nc : s.n ≤ s.c
  cm : s.c ≤ maxLen
  all : ∀ x ∈ s.l, ok w x
theorem Reads.slice {P : Program} {t : TypeId} {α : Type} [Inhabited α] {R : Rep α} {ok : World → α → Prop} (ht : P.underlying t = some (.slice R.T)) (hk : P.cellsOf R.T = R.k) (h : Reads P R.T R.cells ok) :
    Reads P t (fun s : SlV α => [.slice s.a s.n s.c]) (SlOk R ok) :=
  ⟨fun {H enc w spare held fuel cs x} hx => by
    rcases open_slice ht hx with ⟨rfl, _⟩ | ⟨a, len, cap, m, n, D, Pl, rfl, _, hl, hm, hmm, _, hi⟩
    · exact ⟨⟨none, 0, 0, []⟩, rfl, ⟨⟨rfl, by show 0 ≤ maxLen; omega, fun h0 => absurd h0 (by show ¬ 0 < 0; omega)⟩, fun _ => rfl, Nat.le_refl _, by show 0 ≤ maxLen; omega, fun x hx => by cases hx⟩⟩
    · have hml : len ≤ m := by rw [hmm]; split <;> omega
      have hel : ∀ i, i < len → ∃ y : α, (∀ j, j < R.k → w.cell? (a.add (i * R.k + j)) = (R.cells y)[j]?) ∧ ok w y := by
        intro i hi'
        obtain ⟨cs', hc, ht'⟩ := hi i (by omega)
        rw [hk] at hc
        obtain ⟨y, rfl, hok⟩ := h.read ht'
        obtain ⟨_, _, hat⟩ := World.cells?_some hc
        exact ⟨y, fun j hj => by rw [← add_add]; exact hat j hj, hok⟩
      let f : Nat → α := fun i => if h0 : i < len then (hel i h0).choose else default
      have hf : ∀ i, i < len → (∀ j, j < R.k → w.cell? (a.add (i * R.k + j)) = (R.cells (f i))[j]?) ∧ ok w (f i) := fun i h0 => by
        have := (hel i h0).choose_spec
        simp only [f, h0, dif_pos]; exact this
      refine ⟨⟨some a, len, cap, (List.range len).map f⟩, rfl, ⟨⟨by simp, by show len ≤ maxLen; omega, fun h0 => ?_⟩, fun e => (by cases e), hl, hm, fun x hx => ?_⟩⟩
      · have hpos : 0 < len := h0
        have hk0 := R.pos
        have h00 := (hf 0 hpos).1 0 hk0
        have hsome : ∃ v, (R.cells (f 0))[0]? = some v := ⟨_, List.getElem?_eq_getElem (by rw [R.len]; exact hk0)⟩
        obtain ⟨v, hv⟩ := hsome
        rw [hv, Nat.zero_mul, Nat.add_zero] at h00
        have ha0 : a.add 0 = a := by unfold Addr.add; simp
        rw [ha0] at h00
        have hsp : a.spot = none := by
          unfold World.cell? at h00
          split at h00
          · split at h00
            · cases h00
            · rename_i hs; simpa using hs
          · cases h00
        obtain ⟨b, off, sp⟩ := a
        dsimp only at hsp
        subst hsp
        refine ⟨b, off, rfl, ⟨World.block_lt_of_cell? w _ h00, fun i hi' j hj => ?_⟩⟩
        have hi'' : i < len := by simpa using hi'
        have := (hf i hi'').1 j hj
        have hadd : (⟨b, off, none⟩ : Addr).add (i * R.k + j) = ⟨b, off + i * R.k + j, none⟩ := by
          unfold Addr.add
          split
          · rename_i h0; simp
          · simp [Nat.add_assoc]
        rw [hadd] at this
        rw [this]
        simp [List.getD_eq_getElem?_getD, hi'']
      · obtain ⟨i, hi', rfl⟩ := List.mem_map.1 hx
        exact (hf i (by simpa using hi')).2⟩
/-- the fields of a struct, each by what reads it -/
theorem Reads.fields {P : Program} {T : TypeId} {fs : Array Field} (ht : P.underlying T = some (.struct fs)) {H : Type} {enc : TypeId × Value → H} {w : World} {spare : Nat → Bool} {held : Bool} {fuel : Nat} {cs : List Value} {x : DataW H × List MemPlace}
    (h : DataW.trod enc P w 0 spare held fuel T cs = some x) : cs.length = P.cellsOf T ∧ ∀ (i : Nat) (f : Field), fs[i]? = some f → ∃ (n : Nat) (y : DataW H × List MemPlace), DataW.trod enc P w 0 spare held n f.type ((cs.drop f.offset).take (P.cellsOf f.type)) = some y := by
  obtain ⟨xs, n, _, _, hl, hlen, hx⟩ := DataW.trod_struct ht h
  refine ⟨hl, fun i f hf => ⟨n, ?_⟩⟩
  have hi : i < xs.length := by rw [hlen]; exact (Array.getElem?_eq_some_iff.1 hf).1
  exact ⟨xs[i], by rw [hx i f hf]; simp [hi]⟩
theorem Reads.conv {P : Program} {T : TypeId} {α β : Type} {cells : α → List Value} {ok : World → α → Prop} {cells' : β → List Value} {ok' : World → β → Prop} (h : Reads P T cells ok) (g : ∀ w a, ok w a → ∃ b, cells a = cells' b ∧ ok' w b) : Reads P T cells' ok' :=
  ⟨fun hx => by obtain ⟨a, rfl, hok⟩ := h.read hx; obtain ⟨b, e, hb⟩ := g _ a hok; exact ⟨b, e, hb⟩⟩
/-- an argument of one cell -/
theorem Reads.arg {P : Program} {T : TypeId} {α : Type} {cells : α → List Value} {ok : World → α → Prop} (h : Reads P T cells ok) {H : Type} {enc : TypeId × Value → H} {w : World} {spare : Nat → Bool} {held : Bool} {v : Value} {d : DataW H} {ps : List MemPlace}
    (hd : DataW.Trod enc P w 0 spare held T v d ps) : ∃ a, v.cells.toList = cells a ∧ ok w a := by
  obtain ⟨fuel, hf⟩ := hd
  exact h.read hf
end Go.Proofs.Ytpjfgfdpngibgaa
/- Arguments that come in: chapter 06. -/
namespace Go.Proofs.Ytpjfgfdpngibgaa
open Go.ChangeShapes Go.WideShapes Go.ChangeAt Go.RowKit Go.Deep

def I3 (n : Int) : Prop := -9223372036854775808 ≤ n ∧ n ≤ 9223372036854775807
theorem reads3 : Reads Try.prog 3 (fun n : Int => [.int .i64 n]) (fun _ n => I3 n) := (Reads.int Try.underlying3).conv fun _ n h => ⟨n, rfl, wf64 h⟩
theorem readsU : Reads Try.prog 37 (fun n : Nat => [.int .u32 (n : Int)]) (fun _ n => n < 4294967296) := (Reads.int Try.underlying37).conv fun _ n h => ⟨n.toNat, by rw [Int.toNat_of_nonneg (wfu32 h).1], by have := wfu32 h; omega⟩
theorem reads8 : Reads Try.prog 5 RB.cells (fun _ b => b < 256) := (Reads.int Try.underlying5).conv fun _ n h => ⟨n.toNat, by have := (wfu8 h).1; simp [RB, Int.toNat_of_nonneg this], by have := wfu8 h; omega⟩
def nIn (_w : World) (x : Nl) : Prop := x.a < 4294967296 ∧ Nl.wf x
set_option maxRecDepth 100000 in
theorem readsP : Reads Try.prog 39 (fun p : Nat × Int => [.int .u32 (p.1 : Int), .int .i64 p.2]) (fun _ p => p.1 < 4294967296 ∧ I3 p.2) :=
  ⟨fun {H enc w spare held fuel cs x} h => by
    obtain ⟨hl, hf⟩ := Reads.fields Try.underlying39 h
    rw [show Try.prog.cellsOf 39 = 2 by kernel_rfl] at hl
    obtain ⟨c0, c1, rfl⟩ : ∃ c0 c1, cs = [c0, c1] := by
      match cs, hl with
      | [c0, c1], _ => exact ⟨c0, c1, rfl⟩
    obtain ⟨n0, y0, h0⟩ := hf 0 _ rfl
    have h0 : DataW.trod enc Try.prog w 0 spare held n0 37 [c0] = some y0 := by
      have q : Try.prog.cellsOf 37 = 1 := by kernel_rfl
      have z : DataW.trod enc Try.prog w 0 spare held n0 37 (([c0, c1].drop 0).take (Try.prog.cellsOf 37)) = some y0 := h0
      rw [q] at z; exact z
    obtain ⟨a0, e0, k0⟩ := (readsU).read h0
    obtain ⟨n1, y1, h1⟩ := hf 1 _ rfl
    have h1 : DataW.trod enc Try.prog w 0 spare held n1 3 [c1] = some y1 := by
      have q : Try.prog.cellsOf 3 = 1 := by kernel_rfl
      have z : DataW.trod enc Try.prog w 0 spare held n1 3 (([c0, c1].drop 1).take (Try.prog.cellsOf 3)) = some y1 := h1
      rw [q] at z; exact z
    obtain ⟨a1, e1, k1⟩ := (reads3).read h1
    simp only [List.cons.injEq, and_true] at e0 e1
    subst e0
    subst e1
    exact ⟨(a0, a1), rfl, ⟨k0, k1⟩⟩⟩
set_option maxRecDepth 100000 in
theorem readsN : Reads Try.prog 41 (RNl.cells) (nIn) :=
  ⟨fun {H enc w spare held fuel cs x} h => by
    obtain ⟨hl, hf⟩ := Reads.fields Try.underlying41 h
    rw [show Try.prog.cellsOf 41 = 3 by kernel_rfl] at hl
    obtain ⟨c0, c1, c2, rfl⟩ : ∃ c0 c1 c2, cs = [c0, c1, c2] := by
      match cs, hl with
      | [c0, c1, c2], _ => exact ⟨c0, c1, c2, rfl⟩
    obtain ⟨n0, y0, h0⟩ := hf 0 _ rfl
    have h0 : DataW.trod enc Try.prog w 0 spare held n0 3 [c0] = some y0 := by
      have q : Try.prog.cellsOf 3 = 1 := by kernel_rfl
      have z : DataW.trod enc Try.prog w 0 spare held n0 3 (([c0, c1, c2].drop 0).take (Try.prog.cellsOf 3)) = some y0 := h0
      rw [q] at z; exact z
    obtain ⟨a0, e0, k0⟩ := (reads3).read h0
    obtain ⟨n1, y1, h1⟩ := hf 1 _ rfl
    have h1 : DataW.trod enc Try.prog w 0 spare held n1 39 [c1, c2] = some y1 := by
      have q : Try.prog.cellsOf 39 = 2 := by kernel_rfl
      have z : DataW.trod enc Try.prog w 0 spare held n1 39 (([c0, c1, c2].drop 1).take (Try.prog.cellsOf 39)) = some y1 := h1
      rw [q] at z; exact z
    obtain ⟨a1, e1, k1⟩ := (readsP).read h1
    simp only [List.cons.injEq, and_true] at e0 e1
    subst e0
    obtain ⟨rfl, rfl⟩ := e1
    exact ⟨⟨a0, a1.1, a1.2⟩, rfl, ⟨k1.1, wfU (show 0 ≤ ((a1.1 : Nat) : Int) ∧ ((a1.1 : Nat) : Int) ≤ 4294967295 from by have := k1.1; omega), wfI k0, wfI k1.2⟩⟩⟩
theorem readsNs : Reads Try.prog 22 (fun s : SlV Nl => [.slice s.a s.n s.c]) (SlOk RNl nIn) := Reads.slice (R := RNl) Try.underlying22 (by kernel_rfl) readsN
theorem readsBs : Reads Try.prog 24 (fun s : SlV Nat => [.slice s.a s.n s.c]) (SlOk RB (fun _ b => b < 256)) := Reads.slice (R := RB) Try.underlying24 (by kernel_rfl) reads8
theorem own : ownKnob Try.prog.godebug = none := by kernel_rfl
theorem nls_of {w : World} {s : SlV Nl} (h : SlOk RNl nIn w s) : Nls w s.a s.n s.c s.l := ⟨h.sl, fun x hx => (h.all x hx).1, h.nil, h.nc, h.cm⟩
theorem wf_of {w : World} {s : SlV Nl} (h : SlOk RNl nIn w s) : ∀ x ∈ s.l, Nl.wf x := fun x hx => (h.all x hx).2
theorem puts_i {w : World} {s : SlV Nl} (h : SlOk RNl nIn w s) (b : Bool) : Calls Try.prog 3 #[.slice s.a s.n s.c, .bool b] w fun e w' => e = .returned (.bool true) ∧ Below w.heap.size w w' := puts_law b (nls_of h)
theorem gets_i {w : World} {s : SlV Nat} (h : SlOk RB (fun _ b => b < 256) w s) (b : Bool) : Calls Try.prog 4 #[.slice s.a s.n s.c, .bool b] w fun e w' => e = .returned (.bool true) ∧ Below w.heap.size w w' := gets_law b ⟨h.sl, h.nil, h.nc⟩ (fun x hx => h.all x hx)
theorem orders_i {w : World} {s : SlV Nl} (h : SlOk RNl nIn w s) {x y : Nl} (hx : nIn w x) (b : Bool) : Calls Try.prog 5 #[.slice s.a s.n s.c, .agg (RNl.cells x).toArray, .agg (RNl.cells y).toArray, .bool b] w fun e w' => e = .returned (.bool true) ∧ Below w.heap.size w w' := orders_law b (nls_of h) (wf_of h) x y hx.1
theorem joins_i {w : World} {s r : SlV Nl} (h : SlOk RNl nIn w s) (k : SlOk RNl nIn w r) (b : Bool) : Calls Try.prog 6 #[.slice s.a s.n s.c, .slice r.a r.n r.c, .bool b] w fun e w' => e = .returned (.bool true) ∧ Below w.heap.size w w' := joins_law b (nls_of h) (nls_of k)
theorem sorts_i {w : World} {s : SlV Nl} (h : SlOk RNl nIn w s) : Calls Try.prog 7 #[.slice s.a s.n s.c] w fun e w' => e = .returned (.bool true) ∧ Below w.heap.size w w' := sorts_law (nls_of h) (wf_of h)
end Go.Proofs.Ytpjfgfdpngibgaa
