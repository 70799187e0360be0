/- PolicyMore: the law's walk. -/
import Derived.Test.YtgainkgbodmciaaXau
import Derived.Test.YtgainkgbodmciaaXaw
namespace Go.Proofs.Ytgainkgbodmciaa
open Go.RowKit

theorem allow_mono {lg lg' : Int} {ds ds' : List Int} {G : Int → Option Cy} {c d : Cd} (h1 : lg ≤ lg') (h2 : ∀ z ∈ ds', z ∈ ds) (h : allowB lg ds G c d = true) : allowB lg' ds' G c d = true := by
  unfold allowB nearB cleanB at *
  simp only [Bool.and_eq_true, decide_eq_true_eq, Bool.not_eq_true', List.any_eq_false] at *
  obtain ⟨⟨⟨a1, a2⟩, a3⟩, a4⟩ := h
  refine ⟨⟨⟨a1, by omega⟩, fun x hx => ?_⟩, a4⟩
  have := a3 x hx
  simp only [List.any_eq_true, not_exists, not_and] at this ⊢
  exact fun z hz => this z (h2 z hz)
theorem det_mono {lg lg' : Int} {ds ds' : List Int} {F : Int → Int → Option If} {G : Int → Option Cy} {L : List Rt} (h1 : lg ≤ lg') (h2 : ∀ z ∈ ds', z ∈ ds) : (detOf lg ds F G L).length ≤ (detOf lg' ds' F G L).length := by
  unfold detOf
  split
  · exact Nat.le_refl _
  · unfold dets
    rw [← List.countP_eq_length_filter, ← List.countP_eq_length_filter]
    exact List.countP_mono_left fun c _ h => allow_mono h1 h2 h
theorem det_len (lg : Int) (ds : List Int) (F : Int → Int → Option If) (G : Int → Option Cy) (L : List Rt) : (detOf lg ds F G L).length ≤ L.length := by
  unfold detOf
  have hr := rankOf_length L
  split
  · simp
  · rename_i y r e
    rw [e] at hr
    have := @dets_length lg ds F G y r
    simp at hr
    omega
theorem IntsAt.tail {w : World} {B : Nat} {b o n : Nat} {xs : List Int} (h : IntsAt w B (some ⟨b, o, none⟩) n xs) (hn : 0 < n) (ad : Option Addr) (ha : 1 < n → ad = some ⟨b, o + 1, none⟩) : IntsAt w B ad (n - 1) xs.tail :=
  ⟨by rw [List.length_tail, ← h.1], by have := h.2.1; omega, fun h0 => by
    obtain ⟨b1, o1, e, hl, hc⟩ := h.2.2 hn
    cases e
    exact ⟨b, o + 1, ha (by omega), hl, fun i hi => by
      have := hc (i + 1) (by omega)
      rw [show o + 1 + i = o + (i + 1) by omega]
      rw [this]
      cases xs with
      | nil => rfl
      | cons x r => rfl⟩⟩
theorem all_set {C : Array Value} {i : Nat} {u : Value} (h : C.all (·.oneCell') = true) (hu : u.oneCell' = true) : (C.setIfInBounds i u).all (·.oneCell') = true := by
  refine all_get fun j v hv => ?_
  rw [Array.getElem?_setIfInBounds] at hv
  by_cases e : i = j
  · rw [if_pos e] at hv
    by_cases e2 : i < C.size
    · rw [if_pos e2] at hv; injection hv with hv; subst hv; exact hu
    · rw [if_neg e2] at hv; cases hv
  · rw [if_neg e] at hv
    exact get_all h hv
theorem CfA.more {C : Array Value} {lg : Int} {im : Nat} {da : Option Addr} {dn dc : Nat} (H : CfA C lg im da dn dc) (lg' : Int) : CfA (C.setIfInBounds 16 (.int .i64 lg')) lg' im da dn dc := by
  have hs := H.size
  obtain ⟨ia, ic, h7⟩ := H.c7
  refine ⟨by rw [Array.size_setIfInBounds]; exact hs, ⟨ia, ic, ?_⟩, ?_, ?_, ?_, H.im, H.dn⟩
  · rw [Array.getElem?_setIfInBounds, if_neg (by omega)]; exact h7
  · rw [Array.getElem?_setIfInBounds, if_pos rfl, if_pos (by omega)]
  · rw [Array.getElem?_setIfInBounds, if_neg (by omega)]; exact H.c17
  · exact all_set H.one rfl
theorem CfA.deny2 {C : Array Value} {lg : Int} {im : Nat} {da : Option Addr} {dn dc : Nat} (H : CfA C lg im da dn dc) (ad : Option Addr) (n c : Nat) (hn : n ≤ maxLen) : CfA (C.setIfInBounds 17 (.slice ad n c)) lg im ad n c := by
  have hs := H.size
  obtain ⟨ia, ic, h7⟩ := H.c7
  refine ⟨by rw [Array.size_setIfInBounds]; exact hs, ⟨ia, ic, ?_⟩, ?_, ?_, ?_, H.im, hn⟩
  · rw [Array.getElem?_setIfInBounds, if_neg (by omega)]; exact h7
  · rw [Array.getElem?_setIfInBounds, if_neg (by omega)]; exact H.c16
  · rw [Array.getElem?_setIfInBounds, if_pos rfl, if_pos (by omega)]
  · exact all_set H.one rfl
set_option maxRecDepth 100000 in
set_option maxHeartbeats 4000000 in
theorem pmore_law {w : World} {C : Array Value} {lg : Int} {im : Nat} {da : Option Addr} {dn dc : Nat} (H : CfA C lg im da dn dc) {ds : List Int} (hd : IntsAt w w.heap.size da dn ds) (hdc : dn ≤ dc) (hdm : dc ≤ maxLen) {oa : Option Addr} {n c : Nat} {l : List If} (hl : Ifs w oa n c l) {ra : Option Addr} {q rc : Nat} {L : List Rt} (h : Came w ra q rc L) (hnx : NxOk L) (lo : Int) : Calls Try.prog 4 #[.agg C, .slice oa n c, .slice ra q rc, .int .i64 lo] w fun e w' => e = .returned (.bool true) ∧ Below w.heap.size w w' := by
  have hal := (Below.refl w.heap.size w).alloc (Nat.le_refl _) (.cells C 26)
  have h1 : (w.alloc (.cells C 26)).heap[w.heap.size]? = some (.cells C 26) := hnew _ _
  have HLg := Lib.hid (large20 H (hl.keep hal) (sl0 _) (fun x hx => by cases hx) (h.sl.keep hal) hal.size (fun x hx => (h.ok x hx).below hal))
  have HI := Lib.hid (And.intro hl (And.intro h (And.intro hnx hd)))
  have HA := Lib.hid (And.intro hal h1)
  have HC := Lib.hid H
  clear hl h hnx hd hal h1 H
  go_enter Try.func4, Try.ntmps4
  go_wp2_with (with_reducible refine halt_load 26 rfl ?_)
  refine Halted.go ?_
  generalize w.alloc (.cells C 26) = w0 at *
  refine load_whole rfl 26 _ rfl w.heap.size C rfl HA.out.2 Try.underlying26 rfl (by rw [HC.out.size]; kernel_rfl) ?_
  go_wp2_with fail
  refine (HLg.out).mono ?_
  rintro e w1 ⟨⟨b, rfl, hf⟩, hb1⟩
  have F1 := Lib.hid (And.intro hf (And.intro (bcall HA.out.1 (Nat.le_refl _) hb1) ((hb1.block _ (lt_of_blk HA.out.2)).trans HA.out.2)))
  clear hf hb1 HLg HA
  cases b with
  | true =>
    go_wp2_with fail
    refine (lives20 _).mono ?_
    rintro e w2 ⟨rfl, hb2⟩
    have B2 := Lib.hid (bcall F1.out.2.1 (Nat.le_refl _) hb2)
    clear hb2
    go_wp2_with fail
    go_ret
    exact ⟨rfl, B2.out⟩
  | false =>
    have HF := Lib.hid (F1.out.1 rfl)
    have HB := Lib.hid F1.out.2
    clear F1
    have c16 := cell_of (o := 16) HB.out.2 HC.out.c16
    by_cases hlo : lo < lg
    · have hlt : (lo < lg) = True := eq_true hlo
      go_wp2_with fail
      refine (lives20 _).mono ?_
      rintro e w2 ⟨rfl, hb2⟩
      have B2 := Lib.hid (bcall HB.out.1 (Nat.le_refl _) hb2)
      clear hb2
      go_wp2_with fail
      go_ret
      exact ⟨rfl, B2.out⟩
    have hlt : (lo < lg) = False := eq_false hlo
    have HLO := Lib.hid hlo
    clear hlo
    go_wp2_with fail
    refine (make_nil (HI.out.1.keep HB.out.1) HF.out.good).mono ?_
    rintro e w2 ⟨hb, cb, xb, rfl, hF, hG, hb2⟩
    have HM := Lib.hid (And.intro hF (And.intro hG (And.intro (bcall HB.out.1 (Nat.le_refl _) hb2) ((hb2.block _ (lt_of_blk HB.out.2)).trans HB.out.2))))
    clear hF hG hb2 HB c16 hlt
    go_wp2_with fail
    refine (lives20 _).mono ?_
    rintro e w3 ⟨rfl, hb3⟩
    have HM := Lib.hid (And.intro (HM.out.1.keep hb3) (And.intro (HM.out.2.1.keep hb3) (And.intro (bcall HM.out.2.2.1 (Nat.le_refl _) hb3) ((hb3.block _ (lt_of_blk HM.out.2.2.2)).trans HM.out.2.2.2))))
    clear hb3
    go_wp2_with (with_reducible refine halt_load 26 rfl ?_)
    refine Halted.go ?_
    refine load_whole rfl 26 _ rfl w.heap.size C rfl HM.out.2.2.2 Try.underlying26 rfl (by rw [HC.out.size]; kernel_rfl) ?_
    have hws := HM.out.2.2.1.size
    have hwl := lt_of_blk HM.out.2.2.2
    go_wp2_with (with_reducible refine halt_store 26 (x := .tmp 13) rfl ?_)
    refine Halted.go ?_
    refine store_whole rfl 26 _ _ rfl w3.heap.size C rfl rfl (hnew _ _) (by rw [HC.out.size]; rfl) (by rw [HC.out.size]; kernel_rfl) HC.out.one ?_
    intro w4 hw4 hs4
    have hb4 : Below w3.heap.size w3 w4 := ((Below.refl w3.heap.size w3).alloc (Nat.le_refl _) _).trans (hs4.below (Nat.le_refl _))
    have c16 := cell_of (o := 16) hw4 HC.out.c16
    have c17 := cell_of (o := 17) hw4 HC.out.c17
    have f16 := free_of (o := 16) hw4
    have f17 := free_of (o := 17) hw4
    have hs5 := (SetB.self hw4).store (o := 16) (lt_of_blk hw4) (.int .i64 lo)
    have hb5 := hb4.trans (hs5.below (Nat.le_refl _))
    have hw5 := hs5.at (lt_of_blk hw4)
    have HK := Lib.hid (And.intro hb5 hw5)
    clear hs4 hb4 hs5 hb5 hw4 hw5
    have hqm := HI.out.2.1.low
    by_cases hd0 : dn = 0
    · have hdz : (0 < dn) = False := by simp; omega
      have hds : ds = [] := List.length_eq_zero_iff.1 (by rw [← HI.out.2.2.2.1]; exact hd0)
      have HD := Lib.hid (And.intro hd0 hds)
      clear hd0 hdc hdm hds
      go_wp2_with fail
      have hcf : CfA (C.setIfInBounds 16 (.int .i64 lo)) lo im da dn dc := HC.out.more lo
      have hdi : ∀ W, Below w.heap.size w W → IntsAt W w.heap.size da dn [] := fun W hW => by have h := HI.out.2.2.2.below hW; rw [HD.out.2] at h; exact h
      have hsub : ∀ z ∈ ([] : List Int), z ∈ ds := fun z hz => by cases hz
      have hbk : Below w3.heap.size w3 (w4.setCell ⟨w3.heap.size, 16, none⟩ (.int .i64 lo)) := HK.out.1
      have hblk : (w4.setCell ⟨w3.heap.size, 16, none⟩ (.int .i64 lo)).heap[w3.heap.size]? = some (.cells (C.setIfInBounds 16 (.int .i64 lo)) 26) := HK.out.2
      have hcfs := hcf.size
      have HX := Lib.hid (And.intro hcf (And.intro hdi hsub))
      have hbk1 := hbk.drew
      have HB := Lib.hid (And.intro ((HM.out.2.2.1).trans (hbk1.mono HM.out.2.2.1.size)) (And.intro (show (w4.setCell ⟨w3.heap.size, 16, none⟩ (.int .i64 lo)).drew.heap[w3.heap.size]? = some (.cells (C.setIfInBounds 16 (.int .i64 lo)) 26) from hblk) (And.intro ((hbk1.block _ (lt_of_blk HM.out.2.2.2)).trans HM.out.2.2.2) (And.intro (HM.out.1.keep hbk1) (HM.out.2.1.keep hbk1)))))
      clear hcf hdi hsub hbk hblk hbk1 HM HK c16 c17 f16 f17
      have HC2 := Lib.hid hcfs
      clear hcfs
      refine wp_region_heldP (ExtS (w4.setCell ⟨w3.heap.size, 16, none⟩ (.int .i64 lo)).drew) (by kernel_rfl) ?_
      generalize (w4.setCell ⟨w3.heap.size, 16, none⟩ (.int .i64 lo)).drew = w5 at *
      generalize (C.setIfInBounds 16 (.int .i64 lo)) = C2 at *
      generalize w3.heap.size = qd at *
      refine held_reads [0, 1, 2, 3, 6, 7, 8, 9] (g := 6) rfl (by kernel_rfl) (show ExtS w5 w5 from Below.refl _ _) (fun _ _ d _ _ h => by cases d <;> exact h) ?_
      simp only [pick, List.getD_cons_zero, List.getD_cons_succ]
      (with_reducible refine wpRead_step (fun K hK => ?_))
      refine (if_pos (by rfl)).mpr ⟨.agg C, fun w' hw' => exec_load_whole 26 (.tmp 4) rfl w.heap.size C rfl ((Below.block (show Below w5.heap.size w5 w' from hw') _ (lt_of_blk HB.out.2.2.1)).trans HB.out.2.2.1) Try.underlying26 rfl (by rw [HC.out.size]; kernel_rfl), hK _ ?_⟩
      clear hK K
      ((with_reducible refine wpRead_step (fun K hK => ?_)); go_simp; first | ((with_reducible refine hK _ ?_); clear hK K) | (apply Exists.intro; (with_reducible refine ⟨fun w' hw' => ?_, hK _ ?_⟩); (skip; go_simp; first | exact rfl | exact ⟨rfl, rfl⟩); clear hK K))
      ((with_reducible refine wpRead_step (fun K hK => ?_)); go_simp; first | ((with_reducible refine hK _ ?_); clear hK K) | (apply Exists.intro; (with_reducible refine ⟨fun w' hw' => ?_, hK _ ?_⟩); (skip; go_simp; first | exact rfl | exact ⟨rfl, rfl⟩); clear hK K))
      ((with_reducible refine wpRead_step (fun K hK => ?_)); go_simp; first | ((with_reducible refine hK _ ?_); clear hK K) | (apply Exists.intro; (with_reducible refine ⟨fun w' hw' => ?_, hK _ ?_⟩); (skip; go_simp; first | exact rfl | exact ⟨rfl, rfl⟩); clear hK K))
      (with_reducible refine wpRead_step (fun K hK => ?_))
      refine (if_pos (by rfl)).mpr ⟨.agg C2, fun w' hw' => exec_load_whole 26 (.tmp 13) rfl qd C2 rfl ((Below.block (show Below w5.heap.size w5 w' from hw') _ (lt_of_blk HB.out.2.1)).trans HB.out.2.1) Try.underlying26 rfl (by rw [HC2.out]; kernel_rfl), hK _ ?_⟩
      clear hK K
      ((with_reducible refine wpRead_step (fun K hK => ?_)); go_simp; first | ((with_reducible refine hK _ ?_); clear hK K) | (apply Exists.intro; (with_reducible refine ⟨fun w' hw' => ?_, hK _ ?_⟩); (skip; go_simp; first | exact rfl | exact ⟨rfl, rfl⟩); clear hK K))
      ((with_reducible refine wpRead_step (fun K hK => ?_)); go_simp; first | ((with_reducible refine hK _ ?_); clear hK K) | (apply Exists.intro; (with_reducible refine ⟨fun w' hw' => ?_, hK _ ?_⟩); (skip; go_simp; first | exact rfl | exact ⟨rfl, rfl⟩); clear hK K))
      ((with_reducible refine wpRead_step (fun K hK => ?_)); go_simp; first | ((with_reducible refine hK _ ?_); clear hK K) | (apply Exists.intro; (with_reducible refine ⟨fun w' hw' => ?_, hK _ ?_⟩); (skip; go_simp; first | exact rfl | exact ⟨rfl, rfl⟩); clear hK K))
      with_reducible refine wpRead_nil ?_
      refine held_one 4 (by kernel_rfl) ?_
      simp only [pick, List.getD_cons_zero, List.getD_cons_succ]
      go_wp2_with fail
      refine (detours_any HC.out (B := w.heap.size) (HI.out.2.2.2.below HB.out.1) (HB.out.2.2.2.1.keep (Below.refl w5.heap.size w5)) (HB.out.2.2.2.2.keep (Below.refl w5.heap.size w5)) (HI.out.2.1.sl.keep (HB.out.1.trans ((Below.refl w5.heap.size w5).mono HB.out.1.size))) HI.out.2.1.nil ((ins_of (Nat.le_refl _) HI.out.2.1.ok HF.out.small).below (HB.out.1.trans ((Below.refl w5.heap.size w5).mono HB.out.1.size))) HI.out.2.2.1 (fun x _ => opt_ok HF.out.good x)).mono ?_
      rintro e w6 ⟨v, rfl, hown, hb6⟩
      obtain ⟨a6, c6, rfl, hc61, hc62, -, -⟩ := hown.sl
      have H6 := Lib.hid hb6
      clear hown hb6 hc61 hc62
      go_wp2_with fail
      refine ⟨H6.out, ?_⟩
      refine held_reads [5] (g := 4) rfl (by kernel_rfl) H6.out (fun _ _ d _ _ h => by cases d <;> exact h) ?_
      simp only [pick, List.getD_cons_zero, List.getD_cons_succ]
      ((with_reducible refine wpRead_step (fun K hK => ?_)); go_simp; first | ((with_reducible refine hK _ ?_); clear hK K) | (apply Exists.intro; (with_reducible refine ⟨fun w' hw' => ?_, hK _ ?_⟩); (skip; go_simp; first | exact rfl | exact ⟨rfl, rfl⟩); clear hK K))
      with_reducible refine wpRead_nil ?_
      refine held_one 10 (by kernel_rfl) ?_
      simp only [pick, List.getD_cons_zero, List.getD_cons_succ]
      go_wp2_with fail
      refine (detours_any HX.out.1 (B := w.heap.size) (HX.out.2.1 _ (HB.out.1.trans (H6.out.mono HB.out.1.size))) (HB.out.2.2.2.1.keep H6.out) (HB.out.2.2.2.2.keep H6.out) (HI.out.2.1.sl.keep (HB.out.1.trans (H6.out.mono HB.out.1.size))) HI.out.2.1.nil ((ins_of (Nat.le_refl _) HI.out.2.1.ok HF.out.small).below (HB.out.1.trans (H6.out.mono HB.out.1.size))) HI.out.2.2.1 (fun x _ => opt_ok HF.out.good x)).mono ?_
      rintro e w7 ⟨v, rfl, hown, hb7⟩
      obtain ⟨a7, c7, rfl, hc71, hc72, -, -⟩ := hown.sl
      have H7 := Lib.hid (bcall H6.out (Nat.le_refl _) hb7)
      clear hown hb7 hc71 hc72
      go_wp2_with fail
      refine ⟨H7.out, ?_⟩
      have hmono : ((detOf lg ds (hdOf l).F (CGet (hdOf l) fun _ => none) L).length ≤ (detOf lo [] (hdOf l).F (CGet (hdOf l) fun _ => none) L).length) = True := eq_true (det_mono HLO.out HX.out.2.2)
      generalize (detOf lg ds (hdOf l).F (CGet (hdOf l) fun _ => none) L).length = m1 at *
      generalize (detOf lo [] (hdOf l).F (CGet (hdOf l) fun _ => none) L).length = m2 at *
      refine held_one 11 (by kernel_rfl) ?_
      simp only [pick, List.getD_cons_zero, List.getD_cons_succ]
      go_wp2_with fail
      refine ⟨H7.out, ?_⟩
      refine held_one 12 (by kernel_rfl) ?_
      simp only [pick, List.getD_cons_zero, List.getD_cons_succ]
      go_wp2_with fail
      refine ⟨H7.out, ?_⟩
      refine held_one 13 (by kernel_rfl) ?_
      simp only [pick, List.getD_cons_zero, List.getD_cons_succ]
      go_wp2_with fail
      refine ⟨H7.out, ?_⟩
      refine wpAnyH_done (by kernel_rfl) ?_ _
      go_wp2_with fail
      go_ret
      exact ⟨rfl, HB.out.1.trans (H7.out.mono HB.out.1.size)⟩
    · have hdz : (0 < dn) = True := by simp; omega
      obtain ⟨db, dof, rfl, hdl, -⟩ := HI.out.2.2.2.2.2 (by omega)
      have hdd := hdm
      unfold maxLen at hdd
      have hd1 : ((1 : Int) ≤ (dn : Int)) = True := by simp; omega
      have hd2 : ((dn : Int) ≤ (dc : Int)) = True := by simp; omega
      clear hdl
      by_cases hdc1 : dc = 1
      · obtain rfl : dn = 1 := by omega
        subst hdc1
        clear hd0 hdc hdm hdd
        go_wp2_with fail
        have hcf : CfA ((C.setIfInBounds 16 (.int .i64 lo)).setIfInBounds 17 (.slice (some ⟨db, dof, none⟩) 0 0)) lo im (some ⟨db, dof, none⟩) 0 0 := (HC.out.more lo).deny2 _ _ _ (Nat.zero_le _)
        have hdi : ∀ W, Below w.heap.size w W → IntsAt W w.heap.size (some ⟨db, dof, none⟩) 0 ds.tail := fun W hW => (show IntsAt W w.heap.size (some ⟨db, dof, none⟩) (1 - 1) ds.tail from (HI.out.2.2.2.below hW).tail (by omega) _ (fun h => by omega))
        have hsub : ∀ z ∈ ds.tail, z ∈ ds := fun z hz => List.mem_of_mem_tail hz
        have hs6 := (SetB.self HK.out.2).store (o := 17) (lt_of_blk HK.out.2) (.slice (some ⟨db, dof, none⟩) 0 0)
        have hbk : Below w3.heap.size w3 ((w4.setCell ⟨w3.heap.size, 16, none⟩ (.int .i64 lo)).setCell ⟨w3.heap.size, 17, none⟩ (.slice (some ⟨db, dof, none⟩) 0 0)) := HK.out.1.trans (hs6.below (Nat.le_refl _))
        have hblk : ((w4.setCell ⟨w3.heap.size, 16, none⟩ (.int .i64 lo)).setCell ⟨w3.heap.size, 17, none⟩ (.slice (some ⟨db, dof, none⟩) 0 0)).heap[w3.heap.size]? = some (.cells ((C.setIfInBounds 16 (.int .i64 lo)).setIfInBounds 17 (.slice (some ⟨db, dof, none⟩) 0 0)) 26) := hs6.at (lt_of_blk HK.out.2)
        clear hs6
        have hcfs := hcf.size
        have HX := Lib.hid (And.intro hcf (And.intro hdi hsub))
        have hbk1 := hbk.drew
        have HB := Lib.hid (And.intro ((HM.out.2.2.1).trans (hbk1.mono HM.out.2.2.1.size)) (And.intro (show ((w4.setCell ⟨w3.heap.size, 16, none⟩ (.int .i64 lo)).setCell ⟨w3.heap.size, 17, none⟩ (.slice (some ⟨db, dof, none⟩) 0 0)).drew.heap[w3.heap.size]? = some (.cells ((C.setIfInBounds 16 (.int .i64 lo)).setIfInBounds 17 (.slice (some ⟨db, dof, none⟩) 0 0)) 26) from hblk) (And.intro ((hbk1.block _ (lt_of_blk HM.out.2.2.2)).trans HM.out.2.2.2) (And.intro (HM.out.1.keep hbk1) (HM.out.2.1.keep hbk1)))))
        clear hcf hdi hsub hbk hblk hbk1 HM HK c16 c17 f16 f17
        have HC2 := Lib.hid hcfs
        clear hcfs
        refine wp_region_heldP (ExtS ((w4.setCell ⟨w3.heap.size, 16, none⟩ (.int .i64 lo)).setCell ⟨w3.heap.size, 17, none⟩ (.slice (some ⟨db, dof, none⟩) 0 0)).drew) (by kernel_rfl) ?_
        generalize ((w4.setCell ⟨w3.heap.size, 16, none⟩ (.int .i64 lo)).setCell ⟨w3.heap.size, 17, none⟩ (.slice (some ⟨db, dof, none⟩) 0 0)).drew = w5 at *
        generalize ((C.setIfInBounds 16 (.int .i64 lo)).setIfInBounds 17 (.slice (some ⟨db, dof, none⟩) 0 0)) = C2 at *
        generalize w3.heap.size = qd at *
        refine held_reads [0, 1, 2, 3, 6, 7, 8, 9] (g := 6) rfl (by kernel_rfl) (show ExtS w5 w5 from Below.refl _ _) (fun _ _ d _ _ h => by cases d <;> exact h) ?_
        simp only [pick, List.getD_cons_zero, List.getD_cons_succ]
        (with_reducible refine wpRead_step (fun K hK => ?_))
        refine (if_pos (by rfl)).mpr ⟨.agg C, fun w' hw' => exec_load_whole 26 (.tmp 4) rfl w.heap.size C rfl ((Below.block (show Below w5.heap.size w5 w' from hw') _ (lt_of_blk HB.out.2.2.1)).trans HB.out.2.2.1) Try.underlying26 rfl (by rw [HC.out.size]; kernel_rfl), hK _ ?_⟩
        clear hK K
        ((with_reducible refine wpRead_step (fun K hK => ?_)); go_simp; first | ((with_reducible refine hK _ ?_); clear hK K) | (apply Exists.intro; (with_reducible refine ⟨fun w' hw' => ?_, hK _ ?_⟩); (skip; go_simp; first | exact rfl | exact ⟨rfl, rfl⟩); clear hK K))
        ((with_reducible refine wpRead_step (fun K hK => ?_)); go_simp; first | ((with_reducible refine hK _ ?_); clear hK K) | (apply Exists.intro; (with_reducible refine ⟨fun w' hw' => ?_, hK _ ?_⟩); (skip; go_simp; first | exact rfl | exact ⟨rfl, rfl⟩); clear hK K))
        ((with_reducible refine wpRead_step (fun K hK => ?_)); go_simp; first | ((with_reducible refine hK _ ?_); clear hK K) | (apply Exists.intro; (with_reducible refine ⟨fun w' hw' => ?_, hK _ ?_⟩); (skip; go_simp; first | exact rfl | exact ⟨rfl, rfl⟩); clear hK K))
        (with_reducible refine wpRead_step (fun K hK => ?_))
        refine (if_pos (by rfl)).mpr ⟨.agg C2, fun w' hw' => exec_load_whole 26 (.tmp 13) rfl qd C2 rfl ((Below.block (show Below w5.heap.size w5 w' from hw') _ (lt_of_blk HB.out.2.1)).trans HB.out.2.1) Try.underlying26 rfl (by rw [HC2.out]; kernel_rfl), hK _ ?_⟩
        clear hK K
        ((with_reducible refine wpRead_step (fun K hK => ?_)); go_simp; first | ((with_reducible refine hK _ ?_); clear hK K) | (apply Exists.intro; (with_reducible refine ⟨fun w' hw' => ?_, hK _ ?_⟩); (skip; go_simp; first | exact rfl | exact ⟨rfl, rfl⟩); clear hK K))
        ((with_reducible refine wpRead_step (fun K hK => ?_)); go_simp; first | ((with_reducible refine hK _ ?_); clear hK K) | (apply Exists.intro; (with_reducible refine ⟨fun w' hw' => ?_, hK _ ?_⟩); (skip; go_simp; first | exact rfl | exact ⟨rfl, rfl⟩); clear hK K))
        ((with_reducible refine wpRead_step (fun K hK => ?_)); go_simp; first | ((with_reducible refine hK _ ?_); clear hK K) | (apply Exists.intro; (with_reducible refine ⟨fun w' hw' => ?_, hK _ ?_⟩); (skip; go_simp; first | exact rfl | exact ⟨rfl, rfl⟩); clear hK K))
        with_reducible refine wpRead_nil ?_
        refine held_one 4 (by kernel_rfl) ?_
        simp only [pick, List.getD_cons_zero, List.getD_cons_succ]
        go_wp2_with fail
        refine (detours_any HC.out (B := w.heap.size) (HI.out.2.2.2.below HB.out.1) (HB.out.2.2.2.1.keep (Below.refl w5.heap.size w5)) (HB.out.2.2.2.2.keep (Below.refl w5.heap.size w5)) (HI.out.2.1.sl.keep (HB.out.1.trans ((Below.refl w5.heap.size w5).mono HB.out.1.size))) HI.out.2.1.nil ((ins_of (Nat.le_refl _) HI.out.2.1.ok HF.out.small).below (HB.out.1.trans ((Below.refl w5.heap.size w5).mono HB.out.1.size))) HI.out.2.2.1 (fun x _ => opt_ok HF.out.good x)).mono ?_
        rintro e w6 ⟨v, rfl, hown, hb6⟩
        obtain ⟨a6, c6, rfl, hc61, hc62, -, -⟩ := hown.sl
        have H6 := Lib.hid hb6
        clear hown hb6 hc61 hc62
        go_wp2_with fail
        refine ⟨H6.out, ?_⟩
        refine held_reads [5] (g := 4) rfl (by kernel_rfl) H6.out (fun _ _ d _ _ h => by cases d <;> exact h) ?_
        simp only [pick, List.getD_cons_zero, List.getD_cons_succ]
        ((with_reducible refine wpRead_step (fun K hK => ?_)); go_simp; first | ((with_reducible refine hK _ ?_); clear hK K) | (apply Exists.intro; (with_reducible refine ⟨fun w' hw' => ?_, hK _ ?_⟩); (skip; go_simp; first | exact rfl | exact ⟨rfl, rfl⟩); clear hK K))
        with_reducible refine wpRead_nil ?_
        refine held_one 10 (by kernel_rfl) ?_
        simp only [pick, List.getD_cons_zero, List.getD_cons_succ]
        go_wp2_with fail
        refine (detours_any HX.out.1 (B := w.heap.size) (HX.out.2.1 _ (HB.out.1.trans (H6.out.mono HB.out.1.size))) (HB.out.2.2.2.1.keep H6.out) (HB.out.2.2.2.2.keep H6.out) (HI.out.2.1.sl.keep (HB.out.1.trans (H6.out.mono HB.out.1.size))) HI.out.2.1.nil ((ins_of (Nat.le_refl _) HI.out.2.1.ok HF.out.small).below (HB.out.1.trans (H6.out.mono HB.out.1.size))) HI.out.2.2.1 (fun x _ => opt_ok HF.out.good x)).mono ?_
        rintro e w7 ⟨v, rfl, hown, hb7⟩
        obtain ⟨a7, c7, rfl, hc71, hc72, -, -⟩ := hown.sl
        have H7 := Lib.hid (bcall H6.out (Nat.le_refl _) hb7)
        clear hown hb7 hc71 hc72
        go_wp2_with fail
        refine ⟨H7.out, ?_⟩
        have hmono : ((detOf lg ds (hdOf l).F (CGet (hdOf l) fun _ => none) L).length ≤ (detOf lo ds.tail (hdOf l).F (CGet (hdOf l) fun _ => none) L).length) = True := eq_true (det_mono HLO.out HX.out.2.2)
        generalize (detOf lg ds (hdOf l).F (CGet (hdOf l) fun _ => none) L).length = m1 at *
        generalize (detOf lo ds.tail (hdOf l).F (CGet (hdOf l) fun _ => none) L).length = m2 at *
        refine held_one 11 (by kernel_rfl) ?_
        simp only [pick, List.getD_cons_zero, List.getD_cons_succ]
        go_wp2_with fail
        refine ⟨H7.out, ?_⟩
        refine held_one 12 (by kernel_rfl) ?_
        simp only [pick, List.getD_cons_zero, List.getD_cons_succ]
        go_wp2_with fail
        refine ⟨H7.out, ?_⟩
        refine held_one 13 (by kernel_rfl) ?_
        simp only [pick, List.getD_cons_zero, List.getD_cons_succ]
        go_wp2_with fail
        refine ⟨H7.out, ?_⟩
        refine wpAnyH_done (by kernel_rfl) ?_ _
        go_wp2_with fail
        go_ret
        exact ⟨rfl, HB.out.1.trans (H7.out.mono HB.out.1.size)⟩
      · have HDC := Lib.hid (And.intro hd0 (And.intro hdc (And.intro hdc1 hdm)))
        have hdn1 : (dc = 1) = False := eq_false hdc1
        clear hd0 hdc1
        go_wp2_with fail
        have hcf : CfA ((C.setIfInBounds 16 (.int .i64 lo)).setIfInBounds 17 (.slice (some ⟨db, dof + 1, none⟩) (dn - 1) (dc - 1))) lo im (some ⟨db, dof + 1, none⟩) (dn - 1) (dc - 1) := (HC.out.more lo).deny2 _ _ _ (by have h1 := HDC.out.2.1; have h2 := HDC.out.2.2.2; omega)
        have hdi : ∀ W, Below w.heap.size w W → IntsAt W w.heap.size (some ⟨db, dof + 1, none⟩) (dn - 1) ds.tail := fun W hW => ((HI.out.2.2.2.below hW).tail (by have := HDC.out.1; omega) _ (fun _ => rfl))
        have hsub : ∀ z ∈ ds.tail, z ∈ ds := fun z hz => List.mem_of_mem_tail hz
        have hs6 := (SetB.self HK.out.2).store (o := 17) (lt_of_blk HK.out.2) (.slice (some ⟨db, dof + 1, none⟩) (dn - 1) (dc - 1))
        have hbk : Below w3.heap.size w3 ((w4.setCell ⟨w3.heap.size, 16, none⟩ (.int .i64 lo)).setCell ⟨w3.heap.size, 17, none⟩ (.slice (some ⟨db, dof + 1, none⟩) (dn - 1) (dc - 1))) := HK.out.1.trans (hs6.below (Nat.le_refl _))
        have hblk : ((w4.setCell ⟨w3.heap.size, 16, none⟩ (.int .i64 lo)).setCell ⟨w3.heap.size, 17, none⟩ (.slice (some ⟨db, dof + 1, none⟩) (dn - 1) (dc - 1))).heap[w3.heap.size]? = some (.cells ((C.setIfInBounds 16 (.int .i64 lo)).setIfInBounds 17 (.slice (some ⟨db, dof + 1, none⟩) (dn - 1) (dc - 1))) 26) := hs6.at (lt_of_blk HK.out.2)
        clear hs6
        have hcfs := hcf.size
        have HX := Lib.hid (And.intro hcf (And.intro hdi hsub))
        have hbk1 := hbk.drew
        have HB := Lib.hid (And.intro ((HM.out.2.2.1).trans (hbk1.mono HM.out.2.2.1.size)) (And.intro (show ((w4.setCell ⟨w3.heap.size, 16, none⟩ (.int .i64 lo)).setCell ⟨w3.heap.size, 17, none⟩ (.slice (some ⟨db, dof + 1, none⟩) (dn - 1) (dc - 1))).drew.heap[w3.heap.size]? = some (.cells ((C.setIfInBounds 16 (.int .i64 lo)).setIfInBounds 17 (.slice (some ⟨db, dof + 1, none⟩) (dn - 1) (dc - 1))) 26) from hblk) (And.intro ((hbk1.block _ (lt_of_blk HM.out.2.2.2)).trans HM.out.2.2.2) (And.intro (HM.out.1.keep hbk1) (HM.out.2.1.keep hbk1)))))
        clear hcf hdi hsub hbk hblk hbk1 HM HK c16 c17 f16 f17
        have HC2 := Lib.hid hcfs
        clear hcfs
        refine wp_region_heldP (ExtS ((w4.setCell ⟨w3.heap.size, 16, none⟩ (.int .i64 lo)).setCell ⟨w3.heap.size, 17, none⟩ (.slice (some ⟨db, dof + 1, none⟩) (dn - 1) (dc - 1))).drew) (by kernel_rfl) ?_
        generalize ((w4.setCell ⟨w3.heap.size, 16, none⟩ (.int .i64 lo)).setCell ⟨w3.heap.size, 17, none⟩ (.slice (some ⟨db, dof + 1, none⟩) (dn - 1) (dc - 1))).drew = w5 at *
        generalize ((C.setIfInBounds 16 (.int .i64 lo)).setIfInBounds 17 (.slice (some ⟨db, dof + 1, none⟩) (dn - 1) (dc - 1))) = C2 at *
        generalize w3.heap.size = qd at *
        refine held_reads [0, 1, 2, 3, 6, 7, 8, 9] (g := 6) rfl (by kernel_rfl) (show ExtS w5 w5 from Below.refl _ _) (fun _ _ d _ _ h => by cases d <;> exact h) ?_
        simp only [pick, List.getD_cons_zero, List.getD_cons_succ]
        (with_reducible refine wpRead_step (fun K hK => ?_))
        refine (if_pos (by rfl)).mpr ⟨.agg C, fun w' hw' => exec_load_whole 26 (.tmp 4) rfl w.heap.size C rfl ((Below.block (show Below w5.heap.size w5 w' from hw') _ (lt_of_blk HB.out.2.2.1)).trans HB.out.2.2.1) Try.underlying26 rfl (by rw [HC.out.size]; kernel_rfl), hK _ ?_⟩
        clear hK K
        ((with_reducible refine wpRead_step (fun K hK => ?_)); go_simp; first | ((with_reducible refine hK _ ?_); clear hK K) | (apply Exists.intro; (with_reducible refine ⟨fun w' hw' => ?_, hK _ ?_⟩); (skip; go_simp; first | exact rfl | exact ⟨rfl, rfl⟩); clear hK K))
        ((with_reducible refine wpRead_step (fun K hK => ?_)); go_simp; first | ((with_reducible refine hK _ ?_); clear hK K) | (apply Exists.intro; (with_reducible refine ⟨fun w' hw' => ?_, hK _ ?_⟩); (skip; go_simp; first | exact rfl | exact ⟨rfl, rfl⟩); clear hK K))
        ((with_reducible refine wpRead_step (fun K hK => ?_)); go_simp; first | ((with_reducible refine hK _ ?_); clear hK K) | (apply Exists.intro; (with_reducible refine ⟨fun w' hw' => ?_, hK _ ?_⟩); (skip; go_simp; first | exact rfl | exact ⟨rfl, rfl⟩); clear hK K))
        (with_reducible refine wpRead_step (fun K hK => ?_))
        refine (if_pos (by rfl)).mpr ⟨.agg C2, fun w' hw' => exec_load_whole 26 (.tmp 13) rfl qd C2 rfl ((Below.block (show Below w5.heap.size w5 w' from hw') _ (lt_of_blk HB.out.2.1)).trans HB.out.2.1) Try.underlying26 rfl (by rw [HC2.out]; kernel_rfl), hK _ ?_⟩
        clear hK K
        ((with_reducible refine wpRead_step (fun K hK => ?_)); go_simp; first | ((with_reducible refine hK _ ?_); clear hK K) | (apply Exists.intro; (with_reducible refine ⟨fun w' hw' => ?_, hK _ ?_⟩); (skip; go_simp; first | exact rfl | exact ⟨rfl, rfl⟩); clear hK K))
        ((with_reducible refine wpRead_step (fun K hK => ?_)); go_simp; first | ((with_reducible refine hK _ ?_); clear hK K) | (apply Exists.intro; (with_reducible refine ⟨fun w' hw' => ?_, hK _ ?_⟩); (skip; go_simp; first | exact rfl | exact ⟨rfl, rfl⟩); clear hK K))
        ((with_reducible refine wpRead_step (fun K hK => ?_)); go_simp; first | ((with_reducible refine hK _ ?_); clear hK K) | (apply Exists.intro; (with_reducible refine ⟨fun w' hw' => ?_, hK _ ?_⟩); (skip; go_simp; first | exact rfl | exact ⟨rfl, rfl⟩); clear hK K))
        with_reducible refine wpRead_nil ?_
        refine held_one 4 (by kernel_rfl) ?_
        simp only [pick, List.getD_cons_zero, List.getD_cons_succ]
        go_wp2_with fail
        refine (detours_any HC.out (B := w.heap.size) (HI.out.2.2.2.below HB.out.1) (HB.out.2.2.2.1.keep (Below.refl w5.heap.size w5)) (HB.out.2.2.2.2.keep (Below.refl w5.heap.size w5)) (HI.out.2.1.sl.keep (HB.out.1.trans ((Below.refl w5.heap.size w5).mono HB.out.1.size))) HI.out.2.1.nil ((ins_of (Nat.le_refl _) HI.out.2.1.ok HF.out.small).below (HB.out.1.trans ((Below.refl w5.heap.size w5).mono HB.out.1.size))) HI.out.2.2.1 (fun x _ => opt_ok HF.out.good x)).mono ?_
        rintro e w6 ⟨v, rfl, hown, hb6⟩
        obtain ⟨a6, c6, rfl, hc61, hc62, -, -⟩ := hown.sl
        have H6 := Lib.hid hb6
        clear hown hb6 hc61 hc62
        go_wp2_with fail
        refine ⟨H6.out, ?_⟩
        refine held_reads [5] (g := 4) rfl (by kernel_rfl) H6.out (fun _ _ d _ _ h => by cases d <;> exact h) ?_
        simp only [pick, List.getD_cons_zero, List.getD_cons_succ]
        ((with_reducible refine wpRead_step (fun K hK => ?_)); go_simp; first | ((with_reducible refine hK _ ?_); clear hK K) | (apply Exists.intro; (with_reducible refine ⟨fun w' hw' => ?_, hK _ ?_⟩); (skip; go_simp; first | exact rfl | exact ⟨rfl, rfl⟩); clear hK K))
        with_reducible refine wpRead_nil ?_
        refine held_one 10 (by kernel_rfl) ?_
        simp only [pick, List.getD_cons_zero, List.getD_cons_succ]
        go_wp2_with fail
        refine (detours_any HX.out.1 (B := w.heap.size) (HX.out.2.1 _ (HB.out.1.trans (H6.out.mono HB.out.1.size))) (HB.out.2.2.2.1.keep H6.out) (HB.out.2.2.2.2.keep H6.out) (HI.out.2.1.sl.keep (HB.out.1.trans (H6.out.mono HB.out.1.size))) HI.out.2.1.nil ((ins_of (Nat.le_refl _) HI.out.2.1.ok HF.out.small).below (HB.out.1.trans (H6.out.mono HB.out.1.size))) HI.out.2.2.1 (fun x _ => opt_ok HF.out.good x)).mono ?_
        rintro e w7 ⟨v, rfl, hown, hb7⟩
        obtain ⟨a7, c7, rfl, hc71, hc72, -, -⟩ := hown.sl
        have H7 := Lib.hid (bcall H6.out (Nat.le_refl _) hb7)
        clear hown hb7 hc71 hc72
        go_wp2_with fail
        refine ⟨H7.out, ?_⟩
        have hmono : ((detOf lg ds (hdOf l).F (CGet (hdOf l) fun _ => none) L).length ≤ (detOf lo ds.tail (hdOf l).F (CGet (hdOf l) fun _ => none) L).length) = True := eq_true (det_mono HLO.out HX.out.2.2)
        generalize (detOf lg ds (hdOf l).F (CGet (hdOf l) fun _ => none) L).length = m1 at *
        generalize (detOf lo ds.tail (hdOf l).F (CGet (hdOf l) fun _ => none) L).length = m2 at *
        refine held_one 11 (by kernel_rfl) ?_
        simp only [pick, List.getD_cons_zero, List.getD_cons_succ]
        go_wp2_with fail
        refine ⟨H7.out, ?_⟩
        refine held_one 12 (by kernel_rfl) ?_
        simp only [pick, List.getD_cons_zero, List.getD_cons_succ]
        go_wp2_with fail
        refine ⟨H7.out, ?_⟩
        refine held_one 13 (by kernel_rfl) ?_
        simp only [pick, List.getD_cons_zero, List.getD_cons_succ]
        go_wp2_with fail
        refine ⟨H7.out, ?_⟩
        refine wpAnyH_done (by kernel_rfl) ?_ _
        go_wp2_with fail
        go_ret
        exact ⟨rfl, HB.out.1.trans (H7.out.mono HB.out.1.size)⟩
end Go.Proofs.Ytgainkgbodmciaa
/- Make, with what sources say. -/
namespace Go.Proofs.Ytgainkgbodmciaa
open Go.RowKit

theorem setCs_length (L M : List Cy) : (setCs L M).length = L.length := by
  unfold setCs
  induction M generalizing L with
  | nil => rfl
  | cons y M ih => rw [List.foldl_cons, ih]; unfold setOne; rw [List.length_set]
theorem Cys.far {w : World} {oa : Option Addr} {n c : Nat} {L : List Cy} (h : Cys w oa n c L) {q : Nat} (hq : w.heap.size ≤ q) : 0 < n → ∀ b o, oa = some ⟨b, o, none⟩ → b ≠ q := by
  intro hn b o e
  obtain ⟨b1, o1, e1, hr⟩ := h.sl.row hn
  rw [e] at e1
  have := hr.lt
  simp only [Option.some.injEq, Addr.mk.injEq, and_true] at e1
  omega
set_option maxRecDepth 100000 in
set_option maxHeartbeats 2000000 in
theorem make_said {w : World} {oa : Option Addr} {n c : Nat} {l : List If} (h : Ifs w oa n c l) (hg : Good l) {sa : Option Addr} {m sc : Nat} {Sd : List Cs} (hs : RCs.Sl w sa m sc Sd) (hin : ∀ x ∈ Sd, ∃ L, Cys w x.a x.n x.c L) : Calls Try.prog 8 #[.slice oa n c, .slice sa m sc] w fun e w' => ∃ hb cb xb S, e = .returned (.tuple #[.pointer (some ⟨hb, 0, none⟩), .pointer (some ⟨cb, 0, none⟩), .pointer (some ⟨xb, 0, none⟩), .bool true]) ∧ Finds w' (.pointer (some ⟨hb, 0, none⟩)) (hdOf l).F ∧ Gets w' (.pointer (some ⟨cb, 0, none⟩)) (CGet (hdOf l) S) ∧ Below w.heap.size w w' := by
  have HK := Lib.hid (hnew_ok h hg)
  have HI := Lib.hid h
  have HS := Lib.hid (And.intro hs hin)
  have HSL := Lib.hid hs.len
  have hmax := hs.max
  have hn256 : n ≤ 256 := by have h1 := hg.len; have h2 := h.sl.len; omega
  have HLN := Lib.hid h.sl.len
  clear h hg hs hin
  go_enter Try.func8, Try.ntmps8
  go_wp2_with fail
  refine (HK.out).mono ?_
  rintro e W1 ⟨hb, rfl, hh, hb1⟩
  have HH := Lib.hid (And.intro hh hb1)
  clear hh hb1 HK
  go_wp2_with fail
  refine (cnew_ok HH.out.1).mono ?_
  rintro e W2 ⟨cb, bm, rfl, hc⟩
  have HC := Lib.hid hc
  clear hc
  go_wp2_with fail
  refine (rcnew_any (HI.out.keep (bcall HH.out.2 (Nat.le_refl _) HC.out.bel)) (by omega)).mono ?_
  rintro e W3 ⟨xb, base, rfl, hx, hb3, hxle⟩
  obtain ⟨T0, hT0⟩ := HC.out.stamps
  obtain ⟨Sq0, At0, hS0⟩ := hx.stamps
  have hlc := hT0.lc
  have HX := Lib.hid (And.intro (hT0.keep hb3) (And.intro hS0 (bcall (bcall HH.out.2 (Nat.le_refl _) HC.out.bel) (Nat.le_refl _) hb3)))
  have hw1 : w.heap.size ≤ W1.heap.size := HH.out.2.size
  have HW := Lib.hid (And.intro hw1 (And.intro (Nat.lt_of_lt_of_le hlc.1 hxle) (Nat.lt_of_lt_of_le hlc.2 hxle)))
  have hlen0 : ((sortI l).map cy0).length = n := by rw [List.length_map, sortI_length]; exact HLN.out.symm
  have HL0 := Lib.hid hlen0
  clear hx hb3 hxle hT0 hS0 hlc hw1 hlen0 HC
  go_wp2_with fail
  go_loopw [13] (fun iv wr => ∃ (i : Nat) (S : Int → Option Cy) (T : Nat → Int × Int × Bool) (bs : Nat) (L : List Cy) (Sq At : Nat → Int), i ≤ m ∧ iv = .int .i64 i ∧ CapS W1 wr cb bm hb (hdOf l) S T ∧ RefS wr bs xb L Sq At ∧ L.length = n ∧ Below w.heap.size w wr) (fun iv _ => m - (intOf iv).toNat)
  case atStart => exact ⟨0, _, _, _, _, _, _, Nat.zero_le _, rfl, HX.out.1, HX.out.2.1, HL0.out, HX.out.2.2⟩
  case round =>
    clear HX T0 Sq0 At0 base HL0
    obtain ⟨i, S, T, bs, L, Sq, At, hi, rfl, hcap, href, hLn, hbw⟩ := hrel
    obtain ⟨w2, rfl⟩ : ∃ w2 : World, w2 = wr := ⟨_, rfl⟩
    by_cases hlt : i < m
    · have hil : ((i : Int) < (m : Int)) = True := by simp; omega
      have hw3 := wrapS hlt hmax
      have hmem : Sd.getD i default ∈ Sd := getD_mem (by rw [← HSL.out]; exact hlt)
      obtain ⟨M, hM⟩ := HS.out.2 _ hmem
      obtain ⟨b0, o0, rfl, hbb, hat⟩ := (HS.out.1.keep hbw).at hlt
      generalize Sd.getD i default = y at *
      have c0 := hat 0 (by decide)
      have c1 := hat 1 (by decide)
      have c2 := hat 2 (by decide)
      simp only [RCs, Nat.add_zero, List.getElem?_cons_zero, List.getElem?_cons_succ] at c0 c1 c2
      have hle1 : w.heap.size ≤ cb := by have := hcap.hc; have := HW.out.1; omega
      have hle2 : w.heap.size ≤ bm := by have := hcap.hm; have := HW.out.1; omega
      have hle3 : w.heap.size ≤ xb := by have := HW.out.2.1; omega
      have hx1 : xb ≠ cb := by have := HW.out.2.1; omega
      have hx2 : xb ≠ bm := by have := HW.out.2.2; omega
      have HT := Lib.hid (ctake_any (src := y.src) (seq := y.seq) hcap (hM.keep hbw) (fun hn b o e => ⟨hM.far hle1 hn b o e, hM.far hle2 hn b o e⟩) (i : Int))
      have H2 := Lib.hid (And.intro href (And.intro hLn (And.intro hbw (And.intro hM hbb))))
      have HE := Lib.hid (And.intro hle1 (And.intro hle2 (And.intro hle3 (And.intro hx1 hx2))))
      have HAt := Lib.hid hat
      clear hcap href hLn hbw hM hbb hle1 hle2 hle3 hx1 hx2 hmem hat
      go_wp2_with fail
      refine (HT.out).mono ?_
      rintro e w3 ⟨rfl, htk⟩
      have hbt := htk.but
      have hcap := htk.cap
      have href : RefS w3 bs xb L Sq At := H2.out.1.on fun k hk hor => hbt.block k hk (by
        have h1 := H2.out.1.lt
        have h2 := HE.out.2.2.2
        have h3 := HW.out
        simp only [List.mem_cons, List.not_mem_nil, or_false, not_or]
        omega)
      have hbw3 : Below w.heap.size w w3 := Below.step H2.out.2.2.1 H2.out.2.2.1.size hbt (by simp; exact ⟨HE.out.1, HE.out.2.1⟩)
      have hat3 := HAt.out.keep (hbt.block b0 H2.out.2.2.2.2 (by
        obtain ⟨b1, o1, e1, hr⟩ := HS.out.1.row (by omega)
        have h4 := hr.lt
        have h5 := HE.out
        simp only [Option.some.injEq, Addr.mk.injEq, and_true] at e1
        simp only [List.mem_cons, List.not_mem_nil, or_false, not_or]
        omega))
      clear c0 c1 c2
      have c0 := hat3 0 (by decide)
      have c1 := hat3 1 (by decide)
      have c2 := hat3 2 (by decide)
      simp only [RCs, Nat.add_zero, List.getElem?_cons_zero, List.getElem?_cons_succ] at c0 c1 c2
      have HT2 := Lib.hid (rtake_any (src := y.src) (seq := y.seq) href (H2.out.2.2.2.1.keep hbw3) (fun hn b o e => H2.out.2.2.2.1.far HE.out.2.2.1 hn b o e) (by rw [H2.out.2.1]; omega) (i : Int))
      generalize takeE (hdOf l) T y.src y.seq (i : Int) M = te at *
      generalize (if te = 0 then sayAll S M else S) = S2 at *
      generalize (if te = 0 then setT T y.src.toNat (y.seq, (i : Int), true) else T) = T2 at *
      have H3 := Lib.hid (And.intro hcap hbw3)
      clear hcap hbw3 href hbt hat3 htk HT HAt
      go_wp2_with fail
      refine (HT2.out).mono ?_
      rintro e w4 ⟨rfl, htk⟩
      have hbt := htk.but
      have hcap4 : CapS W1 w4 cb bm hb (hdOf l) S2 T2 := H3.out.1.but hbt (by simp; have := HW.out; have h2 := H3.out.1.hc; omega) (by simp; exact Ne.symm HE.out.2.2.2.1) (by simp; exact Ne.symm HE.out.2.2.2.2)
      have hbw4 : Below w.heap.size w w4 := Below.step H3.out.2 H3.out.2.size hbt (by simp; exact HE.out.2.2.1)
      have href4 : ∃ (bs' : Nat) (L' : List Cy) (Sq' At' : Nat → Int), RefS w4 bs' xb L' Sq' At' ∧ L'.length = n := by
        by_cases h0 : rtakeE L Sq y.src y.seq (i : Int) M = 0
        · obtain ⟨b', h'⟩ := htk.yes h0
          exact ⟨b', _, _, _, h', by rw [setCs_length]; exact H2.out.2.1⟩
        · exact ⟨_, _, _, _, htk.no h0, H2.out.2.1⟩
      have H4 := Lib.hid (And.intro hcap4 (And.intro href4 hbw4))
      clear hcap4 href4 hbw4 hbt htk HT2 c0 c1 c2
      generalize rtakeE L Sq y.src y.seq (i : Int) M = re at *
      go_wp2_with fail
      obtain ⟨bs', L', Sq', At', hr', hl'⟩ := H4.out.2.1
      exact ⟨⟨i + 1, S2, T2, bs', L', Sq', At', hlt, by first | rw [hw3] | rw [Int.natCast_succ], H4.out.1, hr', hl', H4.out.2.2⟩, by first | (rw [hw3]; exact mSucc hlt) | (rw [← Int.natCast_succ]; exact mSucc hlt)⟩
    · obtain rfl : m = i := by omega
      have hil : ((m : Int) < (m : Int)) = False := by simp
      have H4 := Lib.hid (And.intro hcap hbw)
      clear hcap href hbw hLn
      go_wp2_with fail
      refine bodyPost_ret (v := .tuple #[.pointer (some ⟨hb, 0, none⟩), .pointer (some ⟨cb, 0, none⟩), .pointer (some ⟨xb, 0, none⟩), .bool true]) (by simp [results, Try.results8, go_sem]) rfl ?_
      exact ⟨hb, cb, xb, S, rfl, H4.out.1.at.hops.finds, H4.out.1.at.gets, H4.out.2⟩
end Go.Proofs.Ytgainkgbodmciaa
/- PolicyOthers: the law's walk. -/
namespace Go.Proofs.Ytgainkgbodmciaa
open Go.RowKit

theorem rank_head {L : List Rt} {y : Rt} {r : List Rt} (h : rankOf L = y :: r) : y = L.getD (bestN L) default := by
  unfold rankOf at h
  cases L with
  | nil => simp [rank] at h
  | cons a s =>
    rw [List.length_cons] at h
    unfold rank at h
    rw [List.cons.injEq] at h
    exact h.1.symm
theorem det_best {lg : Int} {ds : List Int} {F : Int → Int → Option If} {G : Int → Option Cy} {L : List Rt} {c : Cd} (h : c ∈ detOf lg ds F G L) : allowB lg ds G c (L.getD (bestN L) default, optI F (L.getD (bestN L) default)) = true ∧ ∃ x ∈ L, c = (x, optI F x) := by
  unfold detOf at h
  cases hr : rankOf L with
  | nil => rw [hr] at h; cases h
  | cons y r =>
    rw [hr] at h
    dsimp only at h
    unfold dets at h
    obtain ⟨h1, h2⟩ := List.mem_filter.1 h
    obtain ⟨x, hx, rfl⟩ := List.mem_map.1 h1
    rw [← rank_head hr]
    exact ⟨h2, x, rankOf_mem (by rw [hr]; exact List.mem_cons_of_mem _ hx), rfl⟩
theorem det_less {lg : Int} {ds : List Int} {F : Int → Int → Option If} {G : Int → Option Cy} {L : List Rt} (h : L ≠ []) : (detOf lg ds F G L).length < L.length := by
  unfold detOf
  have hr := rankOf_length L
  cases e : rankOf L with
  | nil => rw [e] at hr; exact absurd (List.length_eq_zero_iff.1 hr.symm) h
  | cons y r =>
    dsimp only
    rw [e] at hr
    have := @dets_length lg ds F G y r
    simp only [List.length_cons] at hr
    omega
theorem allow_says {lg : Int} {ds : List Int} {G : Int → Option Cy} {x y : Rt} {m k : Int} (h : allowB lg ds G (x, m) (y, k) = true) : (x.a = y.a ∧ x.l = y.l ∧ (x.r ≠ y.r ∨ x.r = y.r ∧ x.i ≠ y.i)) ∧ m ≠ k ∧ ∃ v, G m = some v ∧ v.dr = false := by
  unfold allowB at h
  simp only [Bool.and_eq_true] at h
  obtain ⟨⟨⟨h1, -⟩, -⟩, h4⟩ := h
  unfold otherB sameK sameP at h1
  unfold openB at h4
  refine ⟨?_, ?_⟩
  · simp only [Bool.and_eq_true, decide_eq_true_eq, Bool.not_eq_true', Bool.and_eq_false_iff, decide_eq_false_iff_not] at h1
    obtain ⟨⟨ha, hl⟩, h3⟩ := h1
    refine ⟨ha, hl, ?_⟩
    by_cases hr : x.r = y.r
    · rcases h3 with (h3 | h3 | h3) | h3
      · exact absurd hr h3
      · exact absurd ha h3
      · exact absurd hl h3
      · exact .inr ⟨hr, h3⟩
    · exact .inl hr
  · cases hg : G m with
    | none => rw [hg] at h4; cases h4
    | some v =>
      rw [hg] at h4
      simp only [Bool.and_eq_true, Bool.not_eq_true', decide_eq_true_eq] at h4
      exact ⟨h4.2, v, rfl, h4.1⟩
set_option maxRecDepth 100000 in
set_option maxHeartbeats 4000000 in
theorem poth_law {w : World} {C : Array Value} {lg : Int} {im : Nat} {da : Option Addr} {dn dc : Nat} (H : CfA C lg im da dn dc) {ds : List Int} (hd : IntsAt w w.heap.size da dn ds) {oa : Option Addr} {n c : Nat} {l : List If} (hl : Ifs w oa n c l) {sa : Option Addr} {m sc : Nat} {Sd : List Cs} (hs : RCs.Sl w sa m sc Sd) (hsn : ∀ x ∈ Sd, x.n ≤ maxLen) (hin : ∀ x ∈ Sd, ∃ L, Cys w x.a x.n x.c L) {ra : Option Addr} {q rc : Nat} {L : List Rt} (h : Came w ra q rc L) (hnx : NxOk L) : Calls Try.prog 3 #[.agg C, .slice oa n c, .slice sa m sc, .slice ra q rc] w fun e w' => e = .returned (.bool true) ∧ Below w.heap.size w w' := by
  have hal := (Below.refl w.heap.size w).alloc (Nat.le_refl _) (.cells C 26)
  have h1 : (w.alloc (.cells C 26)).heap[w.heap.size]? = some (.cells C 26) := hnew _ _
  have HLg := Lib.hid (large20 H (hl.keep hal) (hs.keep hal) hsn (h.sl.keep hal) hal.size (fun x hx => (h.ok x hx).below hal))
  have HI := Lib.hid (And.intro hl (And.intro h (And.intro hnx (And.intro hd (And.intro hs hin)))))
  have HA := Lib.hid (And.intro hal h1)
  have HC := Lib.hid H
  clear hl h hnx hd hal h1 H hs hsn hin
  go_enter Try.func3, Try.ntmps3
  go_wp2_with (with_reducible refine halt_load 26 rfl ?_)
  refine Halted.go ?_
  generalize w.alloc (.cells C 26) = w0 at *
  refine load_whole rfl 26 _ rfl w.heap.size C rfl HA.out.2 Try.underlying26 rfl (by rw [HC.out.size]; kernel_rfl) ?_
  go_wp2_with fail
  refine (HLg.out).mono ?_
  rintro e w1 ⟨⟨b, rfl, hf⟩, hb1⟩
  have F1 := Lib.hid (And.intro hf (And.intro (bcall HA.out.1 (Nat.le_refl _) hb1) ((hb1.block _ (lt_of_blk HA.out.2)).trans HA.out.2)))
  clear hf hb1 HLg HA
  cases b with
  | true =>
    go_wp2_with fail
    refine (lives20 _).mono ?_
    rintro e w2 ⟨rfl, hb2⟩
    have B2 := Lib.hid (bcall F1.out.2.1 (Nat.le_refl _) hb2)
    clear hb2
    go_wp2_with fail
    go_ret
    exact ⟨rfl, B2.out⟩
  | false =>
    have HF := Lib.hid (F1.out.1 rfl)
    have HB := Lib.hid F1.out.2
    clear F1
    go_wp2_with fail
    refine (make_said (HI.out.1.keep HB.out.1) HF.out.good (HI.out.2.2.2.2.1.keep HB.out.1) (fun x hx => let ⟨M, hM⟩ := HI.out.2.2.2.2.2 x hx; ⟨M, hM.keep HB.out.1⟩)).mono ?_
    rintro e w2 ⟨hb, cb, xb, S, rfl, hF, hG, hb2⟩
    have HM := Lib.hid (And.intro hF (And.intro hG (And.intro (bcall HB.out.1 (Nat.le_refl _) hb2) ((hb2.block _ (lt_of_blk HB.out.2)).trans HB.out.2))))
    clear hF hG hb2 HB
    go_wp2_with fail
    refine (lives20 _).mono ?_
    rintro e w3 ⟨rfl, hb3⟩
    have HM := Lib.hid (And.intro (HM.out.1.keep hb3) (And.intro (HM.out.2.1.keep hb3) (And.intro (bcall HM.out.2.2.1 (Nat.le_refl _) hb3) ((hb3.block _ (lt_of_blk HM.out.2.2.2)).trans HM.out.2.2.2))))
    clear hb3
    generalize CGet (hdOf l) S = G at *
    have HN := Lib.hid (ins_of (Nat.le_refl _) HI.out.2.1.ok HF.out.small)
    have HQ := Lib.hid HI.out.2.1.sl.len
    have hqm := HI.out.2.1.low
    have hq0 : L = [] ∨ L ≠ [] := by cases L with | nil => exact .inl rfl | cons x r => exact .inr (by simp)
    rcases hq0 with rfl | hne
    · obtain rfl : q = 0 := HQ.out
      go_wp2_with fail
      refine (first_nil _ ra rc _).mono ?_
      rintro e w4 ⟨rfl, hb4⟩
      have hal := (Below.refl w4.heap.size w4).alloc (Nat.le_refl _) (.cells #[.int .i64 0, .int .u32 0, .int .i64 0, .int .i64 0, .int .i64 0, .slice none 0 0, .int .u32 0, .int .i64 0, .int .i64 0, .slice none 0 0, .int .i64 0] 46)
      have hbb := bcall hb4 (Nat.le_refl _) hal
      have HM2 := Lib.hid (And.intro (bcall HM.out.2.2.1 (Nat.le_refl _) hbb) (And.intro ((hbb.block _ (lt_of_blk HM.out.2.2.2)).trans HM.out.2.2.2) hbb))
      clear hb4 hal hbb
      go_wp2_with (with_reducible refine halt_load 26 rfl ?_)
      refine Halted.go ?_
      generalize w4.alloc (.cells #[.int .i64 0, .int .u32 0, .int .i64 0, .int .i64 0, .int .i64 0, .slice none 0 0, .int .u32 0, .int .i64 0, .int .i64 0, .slice none 0 0, .int .i64 0] 46) = w5 at *
      refine load_whole rfl 26 _ rfl w.heap.size C rfl HM2.out.2.1 Try.underlying26 rfl (by rw [HC.out.size]; kernel_rfl) ?_
      go_wp2_with fail
      refine (detours_any HC.out (B := w.heap.size) (HI.out.2.2.2.1.below HM2.out.1) (HM.out.1.keep HM2.out.2.2) (HM.out.2.1.keep HM2.out.2.2) (HI.out.2.1.sl.keep HM2.out.1) HI.out.2.1.nil (HN.out.below HM2.out.1) HI.out.2.2.1 (fun x _ => opt_ok HF.out.good x)).mono ?_
      rintro e w6 ⟨v, rfl, hown, hb6⟩
      rw [show detOf lg ds (hdOf l).F G [] = [] from rfl] at hown
      obtain ⟨a6, c6, rfl, hc61, hc62, -, -⟩ := hown.sl
      rw [List.length_nil]
      have HB6 := Lib.hid (bcall HM2.out.1 (Nat.le_refl _) hb6)
      clear hown hb6 hc61 hc62
      go_wp2_with fail
      go_ret
      exact ⟨rfl, HB6.out⟩
    · have HFs := Lib.hid (first_some HM.out.1 (HI.out.2.1.sl.keep HM.out.2.2.1) (HN.out.below HM.out.2.2.1) HI.out.2.2.1 hne)
      have hless : ∀ ds, ((detOf lg ds (hdOf l).F G L).length : Int) < (q : Int) := fun ds => by have := det_less (lg := lg) (ds := ds) (F := (hdOf l).F) (G := G) hne; have := HQ.out; omega
      have HLE := Lib.hid (hless ds)
      have hall : ∀ z ∈ detOf lg ds (hdOf l).F G L, allowB lg ds G z (L.getD (bestN L) default, optI (hdOf l).F (L.getD (bestN L) default)) = true ∧ IN.ok z.2 := fun z hz => by
        obtain ⟨h1, x, hx, rfl⟩ := det_best hz
        exact ⟨h1, opt_ok HF.out.good x⟩
      have h60 : (detOf lg ds (hdOf l).F G L).length ≤ maxLen := by have := hless ds; unfold maxLen; omega
      have HDet := Lib.hid (fun (W : World) (hW : Below w3.heap.size w3 W) => detours_any (w := W) HC.out (B := w.heap.size) (HI.out.2.2.2.1.below (HM.out.2.2.1.trans (hW.mono HM.out.2.2.1.size))) (HM.out.1.keep hW) (HM.out.2.1.keep hW) (HI.out.2.1.sl.keep (HM.out.2.2.1.trans (hW.mono HM.out.2.2.1.size))) HI.out.2.1.nil (HN.out.below (HM.out.2.2.1.trans (hW.mono HM.out.2.2.1.size))) HI.out.2.2.1 (fun x _ => opt_ok HF.out.good x))
      clear hless hne HN
      generalize detOf lg ds (hdOf l).F G L = D at *
      generalize L.getD (bestN L) default = y at *
      generalize optI (hdOf l).F y = k at *
      have hce : y.cand k = .agg #[.int .i64 y.r, .int .u32 y.a, .int .i64 y.l, .int .i64 y.i, .int .i64 y.o, .slice y.pa y.pn y.pc, .int .u32 y.nx, .int .i64 y.md, .int .i64 y.pf, .slice y.ca y.cn y.cc, .int .i64 k] := rfl
      rw [hce] at HFs
      have HAll := Lib.hid hall
      clear hce hall
      go_wp2_with fail
      refine (HFs.out).mono ?_
      rintro e w4 ⟨rfl, hb4⟩
      have hal := (Below.refl w4.heap.size w4).alloc (Nat.le_refl _) (.cells #[.int .i64 y.r, .int .u32 y.a, .int .i64 y.l, .int .i64 y.i, .int .i64 y.o, .slice y.pa y.pn y.pc, .int .u32 y.nx, .int .i64 y.md, .int .i64 y.pf, .slice y.ca y.cn y.cc, .int .i64 k] 46)
      have hob : (w4.alloc (.cells #[.int .i64 y.r, .int .u32 y.a, .int .i64 y.l, .int .i64 y.i, .int .i64 y.o, .slice y.pa y.pn y.pc, .int .u32 y.nx, .int .i64 y.md, .int .i64 y.pf, .slice y.ca y.cn y.cc, .int .i64 k] 46)).heap[w4.heap.size]? = some (.cells #[.int .i64 y.r, .int .u32 y.a, .int .i64 y.l, .int .i64 y.i, .int .i64 y.o, .slice y.pa y.pn y.pc, .int .u32 y.nx, .int .i64 y.md, .int .i64 y.pf, .slice y.ca y.cn y.cc, .int .i64 k] 46) := hnew _ _
      have hbb := bcall hb4 (Nat.le_refl _) hal
      have HM2 := Lib.hid (And.intro (bcall HM.out.2.2.1 (Nat.le_refl _) hbb) (And.intro ((hbb.block _ (lt_of_blk HM.out.2.2.2)).trans HM.out.2.2.2) (And.intro hbb (And.intro hob (HM.out.2.1.keep hbb)))))
      clear hb4 hal hbb hob HFs
      go_wp2_with (with_reducible refine halt_load 26 rfl ?_)
      refine Halted.go ?_
      generalize w4.alloc (.cells #[.int .i64 y.r, .int .u32 y.a, .int .i64 y.l, .int .i64 y.i, .int .i64 y.o, .slice y.pa y.pn y.pc, .int .u32 y.nx, .int .i64 y.md, .int .i64 y.pf, .slice y.ca y.cn y.cc, .int .i64 k] 46) = w5 at *
      generalize w4.heap.size = ob at *
      refine load_whole rfl 26 _ rfl w.heap.size C rfl HM2.out.2.1 Try.underlying26 rfl (by rw [HC.out.size]; kernel_rfl) ?_
      go_wp2_with fail
      refine (HDet.out w5 HM2.out.2.2.1).mono ?_
      rintro e w6 ⟨v, rfl, hown, hb6⟩
      obtain ⟨a6, c6, rfl, hc61, hc62, hsl, -⟩ := hown.sl
      have H6 := Lib.hid (And.intro (bcall HM2.out.1 (Nat.le_refl _) hb6) (And.intro ((hb6.block _ (lt_of_blk HM2.out.2.2.2.1)).trans HM2.out.2.2.2.1) (And.intro (HM2.out.2.2.2.2.keep hb6) hsl)))
      clear hown hb6 hc61 hc62 hsl HM2 HDet HM HI HF
      obtain ⟨N, hN⟩ : ∃ N, D.length = N := ⟨_, rfl⟩
      rw [hN] at h60 HLE H6 ⊢
      have HNn := Lib.hid hN
      clear hN
      go_wp2_with fail
      go_loopw [16] (fun iv wr => ∃ i : Nat, i ≤ N ∧ iv = .int .i64 i ∧ Below w6.heap.size w6 wr) (fun iv _ => N - (intOf iv).toNat)
      case atStart => exact ⟨0, Nat.zero_le _, rfl, Below.refl _ _⟩
      case round =>
        obtain ⟨i, hi, rfl, hbr⟩ := hrel
        obtain ⟨w7, rfl⟩ : ∃ w7 : World, w7 = wr := ⟨_, rfl⟩
        by_cases hlt : i < N
        · have hil : ((i : Int) < (N : Int)) = True := by simp; omega
          have hi0 : ((0 : Int) ≤ (i : Int)) = True := by simp
          have hw3 := wrapS hlt h60
          have hmem : D.getD i default ∈ D := getD_mem (by rw [HNn.out]; exact hlt)
          obtain ⟨hal1, hok⟩ := HAll.out _ hmem
          obtain ⟨b0, o0, rfl, hbb, hat⟩ := (H6.out.2.2.2).at hlt
          obtain ⟨⟨x, mm⟩, hxm⟩ : ∃ z, D.getD i default = z := ⟨_, rfl⟩
          rw [hxm] at hal1 hok hat
          obtain ⟨⟨hxa, hxl, hxr⟩, hmk, v, hgv, hdr⟩ := allow_says hal1
          have HAt := Lib.hid (And.intro hat hbb)
          have hat7 := hat.keep (hbr.block _ hbb)
          have q0 := hat7 0 (by decide)
          have q1 := hat7 1 (by decide)
          have q2 := hat7 2 (by decide)
          have q3 := hat7 3 (by decide)
          have q10 := hat7 10 (by decide)
          simp only [R46, cdCells, Rt.cells, Nat.add_zero, List.cons_append, List.nil_append, List.getElem?_cons_zero, List.getElem?_cons_succ] at q0 q1 q2 q3 q10
          have HG := Lib.hid (H6.out.2.2.1 w7 hbr mm hok)
          rw [hgv, show ((some v : Option Cy).getD Cy.z).v = .agg #[.int .i64 v.id, .int .i64 v.cp, .bool v.dr] from rfl, show (some v : Option Cy).isSome = true from rfl, hdr] at HG
          have HK := Lib.hid (And.intro hxa (And.intro hxl (And.intro hxr hmk)))
          have HBr := Lib.hid hbr
          clear hmem hal1 hok hat hbb hxm hxa hxl hxr hmk hgv hdr hat7 hbr
          go_wp2_with fail
          refine (HG.out).mono ?_
          rintro e w8 ⟨rfl, hb8⟩
          have hal := (Below.refl w8.heap.size w8).alloc (Nat.le_refl _) (.cells #[.int .i64 v.id, .int .i64 v.cp, .bool false] 52)
          have hvb : (w8.alloc (.cells #[.int .i64 v.id, .int .i64 v.cp, .bool false] 52)).heap[w8.heap.size]? = some (.cells #[.int .i64 v.id, .int .i64 v.cp, .bool false] 52) := hnew _ _
          have H8 := Lib.hid (And.intro (bcall (bcall HBr.out (Nat.le_refl _) hb8) (Nat.le_refl _) hal) hvb)
          clear hb8 hal hvb q0 q1 q2 q3 q10 HG HBr
          go_wp2_with fail
          generalize w8.alloc (.cells #[.int .i64 v.id, .int .i64 v.cp, .bool false] 52) = w9 at *
          generalize w8.heap.size = qv at *
          have hat7 := HAt.out.1.keep (H8.out.1.block _ HAt.out.2)
          have q0 := hat7 0 (by decide)
          have q1 := hat7 1 (by decide)
          have q2 := hat7 2 (by decide)
          have q3 := hat7 3 (by decide)
          have q10 := hat7 10 (by decide)
          simp only [R46, cdCells, Rt.cells, Nat.add_zero, List.cons_append, List.nil_append, List.getElem?_cons_zero, List.getElem?_cons_succ] at q0 q1 q2 q3 q10
          have hobb := (H8.out.1.block _ (lt_of_blk H6.out.2.1)).trans H6.out.2.1
          have o0' := cell_of (o := 0) hobb rfl
          have o1' := cell_of (o := 1) hobb rfl
          have o2' := cell_of (o := 2) hobb rfl
          have o3' := cell_of (o := 3) hobb rfl
          have o10' := cell_of (o := 10) hobb rfl
          have v2' := cell_of (o := 2) H8.out.2 rfl
          clear hat7 hobb
          obtain ⟨hxa, hxl, hxr, hmk⟩ := HK.out
          have nab : (x.a == y.a) = true := by simp [hxa]
          have nlb : (x.l == y.l) = true := by simp [hxl]
          have nat' : (x.a = y.a) = True := eq_true hxa
          have nlt : (x.l = y.l) = True := eq_true hxl
          have mkb : (mm == k) = false := by simp [hmk]
          have mkt : (mm = k) = False := eq_false hmk
          clear hxa hxl hmk
          rcases hxr with hr | ⟨hr, hid⟩
          · have nrb : (x.r == y.r) = false := by simp [hr]
            have nrt : (x.r = y.r) = False := eq_false hr
            clear hr
            go_wp2_with fail
            refine wp_region_quiet_tail (fun w' => w' = w9.drew) 27 (by kernel_rfl) (by kernel_rfl) rfl ?_
            simp only [List.take_succ_cons, List.take_zero, List.drop_succ_cons, List.drop_zero]
            iterate 27 ((with_reducible refine wpQuiet_step (fun K hK => ?_)); go_simp; first | ((with_reducible refine hK _ ?_); clear hK K) | (apply Exists.intro; (with_reducible refine ⟨fun w' hw' => ?_, hK _ ?_⟩); (subst hw'; first | (go_simp; first | exact rfl | exact ⟨rfl, rfl⟩) | exact rfl | exact ⟨rfl, rfl⟩); clear hK K))
            refine wpQuiet_nil ?_
            rintro _ rfl
            clear q0 q1 q2 q3 q10 o0' o1' o2' o3' o10' v2'
            go_wp2_with fail
            exact ⟨⟨i + 1, hlt, by first | rw [hw3] | rw [Int.natCast_succ], H8.out.1.drew⟩, by first | (rw [hw3]; exact mSucc hlt) | (rw [← Int.natCast_succ]; exact mSucc hlt)⟩
          · have nrb : (x.r == y.r) = true := by simp [hr]
            have nrt : (x.r = y.r) = True := eq_true hr
            have nib : (x.i == y.i) = false := by simp [hid]
            have nit : (x.i = y.i) = False := eq_false hid
            clear hr hid
            go_wp2_with fail
            refine wp_region_quiet_tail (fun w' => w' = w9.drew) 27 (by kernel_rfl) (by kernel_rfl) rfl ?_
            simp only [List.take_succ_cons, List.take_zero, List.drop_succ_cons, List.drop_zero]
            iterate 27 ((with_reducible refine wpQuiet_step (fun K hK => ?_)); go_simp; first | ((with_reducible refine hK _ ?_); clear hK K) | (apply Exists.intro; (with_reducible refine ⟨fun w' hw' => ?_, hK _ ?_⟩); (subst hw'; first | (go_simp; first | exact rfl | exact ⟨rfl, rfl⟩) | exact rfl | exact ⟨rfl, rfl⟩); clear hK K))
            refine wpQuiet_nil ?_
            rintro _ rfl
            clear q0 q1 q2 q3 q10 o0' o1' o2' o3' o10' v2'
            go_wp2_with fail
            exact ⟨⟨i + 1, hlt, by first | rw [hw3] | rw [Int.natCast_succ], H8.out.1.drew⟩, by first | (rw [hw3]; exact mSucc hlt) | (rw [← Int.natCast_succ]; exact mSucc hlt)⟩
        · obtain rfl : N = i := by omega
          have hil : ((N : Int) < (N : Int)) = False := by simp
          have HB := Lib.hid hbr
          have hlq : ((N : Int) < (q : Int)) = True := eq_true HLE.out
          clear hbr
          go_wp2_with fail
          go_ret
          exact ⟨rfl, H6.out.1.trans (HB.out.mono H6.out.1.size)⟩
end Go.Proofs.Ytgainkgbodmciaa
