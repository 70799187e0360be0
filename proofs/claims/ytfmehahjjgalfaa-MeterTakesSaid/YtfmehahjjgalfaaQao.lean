/- The reference's meter: Check. -/
import Derived.Test.YtfmehahjjgalfaaQan
import Derived.Test.YtfmehahjjgalfaaQaj
namespace Go.Proofs.Ytfmehahjjgalfaa.Me
open Go.RowKit

theorem chk_dup {L : List Ct} {k i : Nat} (hk : k < i) (hi : i < L.length) (h : (L.getD k default).p = (L.getD i default).p) : chkL L = false := by
  cases hc : chkL L with
  | false => rfl
  | true => exact absurd h (nodup_get.1 (chkL_nd hc) k i hk hi)
theorem chk_yes {L : List Ct} (h1 : L.all okC = true) (h2 : ∀ k i, k < i → i < L.length → (L.getD k default).p ≠ (L.getD i default).p) (h3 : L.length ≤ 1024) : chkL L = true := by
  unfold chkL
  rw [h1, decide_eq_true ((ixC_len L).2.2 (nodup_get.2 h2)), decide_eq_true h3]
  rfl
structure KeC (q1 q2 b o : Nat) (src seq : Int) (oa : Option Addr) (n c : Nat) (y z : Ct) (w : World) : Prop where
  rep : RpS q1 src seq oa n c w
  box : CtS q2 y w
  row : RCt.At w b o z
set_option maxRecDepth 100000 in
set_option maxHeartbeats 8000000 in
theorem rmcheck_main {w : World} {oa : Option Addr} {n c : Nat} {L : List Ct} (H : Cts w oa n c L) {src seq : Int} (hs : inS src = true) (hq : inM seq = true) (h4 : n ≤ 1024) : Calls Try.prog 46 #[.agg #[.int .i64 src, .int .i64 seq, .slice oa n c]] w fun e w' => e = .returned (.bool (chkL L)) ∧ Below w.heap.size w w' := by
  have hal := (Below.refl w.heap.size w).alloc (Nat.le_refl _) (.cells #[.int .i64 src, .int .i64 seq, .slice oa n c] 82)
  have hks : RpS w.heap.size src seq oa n c (w.alloc (.cells #[.int .i64 src, .int .i64 seq, .slice oa n c] 82)) := hnew _ _
  obtain ⟨z0, z1, z2⟩ := hks.cells
  have hs2 : 0 ≤ src ∧ src ≤ 15 := by unfold inS at hs; simpa using hs
  have hq2 := inM_iff.1 hq
  have a1 : (src < 0) = False := eq_false (by omega)
  have a2 : (15 < src) = False := eq_false (by omega)
  have a3 : (seq < 0) = False := eq_false (by omega)
  have a4 : (9007199254740991 < seq) = False := eq_false (by omega)
  have a5 : ((1024 : Int) < (n : Int)) = False := by simp; omega
  have hmax : n ≤ maxLen := H.sl.max
  have HS := Lib.hid (And.intro H (And.intro H.sl.len.symm h4))
  have F := Lib.hid (And.intro hal hks)
  obtain ⟨kr, hkr⟩ : ∃ kr, chkL L = kr := ⟨_, rfl⟩
  rw [hkr]
  have HK := Lib.hid hkr
  clear hal hks H hs hq hs2 hq2 h4 hkr
  go_enter Try.func46, Try.ntmps46
  go_wp2_with fail
  obtain ⟨W1, hW1⟩ : ∃ W, w.alloc (.cells #[.int .i64 src, .int .i64 seq, .slice oa n c] 82) = W := ⟨_, rfl⟩
  obtain ⟨q1, hq1⟩ : ∃ q, w.heap.size = q := ⟨_, rfl⟩
  have F1 := Lib.hid (show Below w.heap.size w W1 ∧ RpS q1 src seq oa n c W1 from hq1 ▸ hW1 ▸ F.out)
  rw [hW1]
  simp only [hq1]
  clear hW1 hq1 F z0 z1 z2 a1 a2 a3 a4 a5
  go_loopw [3] (fun iv wr => ∃ i : Nat, i ≤ n ∧ iv = .int .i64 i ∧ (L.take i).all okC = true ∧ (∀ a b, a < b → b < i → (L.getD a default).p ≠ (L.getD b default).p) ∧ RpS q1 src seq oa n c wr ∧ Below w.heap.size w wr) (fun iv _ => n - (intOf iv).toNat)
  case atStart => exact ⟨0, Nat.zero_le _, rfl, rfl, fun a b _ hb => absurd hb (Nat.not_lt_zero _), F1.out.2, F1.out.1⟩
  case round =>
    obtain ⟨i, hi, rfl, hall, hnd, hrp, hb⟩ := hrel
    obtain ⟨w2, rfl⟩ : ∃ w2 : World, w2 = wr := ⟨_, rfl⟩
    obtain ⟨z0, z1, z2⟩ := hrp.cells
    by_cases hlt : i < n
    · have hil : ((i : Int) < (n : Int)) = True := by simp; omega
      have hi0 : ((0 : Int) ≤ (i : Int)) = True := by simp
      have hw3 := wrapS hlt hmax
      have hgm : L.getD i default ∈ L := getD_mem (by rw [HS.out.2.1]; exact hlt)
      have ha := (HS.out.1.ok _ hgm).1
      have hal1 := all_succ (L := L) (i := i) (by rw [HS.out.2.1]; exact hlt)
      have hbad := chk_bad (L := L) (i := i) (by rw [HS.out.2.1]; exact hlt)
      obtain ⟨b, o, hbo, hrow⟩ := HS.out.1.sl.row (by omega)
      subst hbo
      have hat := (hrow.below hb).get i (by rw [HS.out.2.1]; exact hlt)
      rw [hall, Bool.true_and] at hal1
      obtain ⟨y, hy⟩ : ∃ y, L.getD i default = y := ⟨_, rfl⟩
      rw [hy] at ha hal1 hbad hat
      have y0 := hat 0 (by decide)
      have y1 := hat 1 (by decide)
      have y2 := hat 2 (by decide)
      simp only [RCt, Nat.add_zero, List.getElem?_cons_zero, List.getElem?_cons_succ] at y0 y1 y2
      have hal := (Below.refl w2.heap.size w2).alloc (Nat.le_refl _) (.cells #[.int .u32 (y.p.1 : Int), .int .i64 y.p.2, .int .i64 y.n] 128)
      have hxs : CtS w2.heap.size y (w2.alloc (.cells #[.int .u32 (y.p.1 : Int), .int .i64 y.p.2, .int .i64 y.n] 128)) := hnew _ _
      obtain ⟨x0, x1, x2⟩ := hxs.cells
      have F2 := Lib.hid (And.intro hxs (And.intro (hrp.keep hal) (bcall hb (Nat.le_refl _) hal)))
      have G := Lib.hid (And.intro hal1 (And.intro hbad (And.intro hnd (And.intro hy hrow))))
      have HCK := Lib.hid (rcheck_any y.p.1 y.p.2 ha)
      clear hgm ha hal1 hbad hrow hat hal hxs hb hall hnd hrp
      unfold pfx at HCK
      have hokc : okC y = (okP y.p.1 y.p.2 && inM y.n) := rfl
      have HOC := Lib.hid hokc
      clear hokc
      cases hp : okP y.p.1 y.p.2 with
      | false =>
        rw [hp] at HCK
        have HP := Lib.hid (show false = kr from by rw [← HK.out]; exact (G.out.2.1 (by rw [HOC.out, hp]; rfl)).symm)
        clear hp
        go_wp2_with fail
        refine (HCK.out _).mono ?_
        rintro e W3 ⟨rfl, hb⟩
        have F3 := Lib.hid (bcall F2.out.2.2 (Nat.le_refl _) hb)
        clear hb F2 y0 y1 y2 x0 x1 x2 HCK
        go_wp2_with fail
        go_ret
        exact ⟨ret_bool HP.out, F3.out⟩
      | true =>
        rw [hp] at HCK
        have HOC2 := Lib.hid (show okC y = inM y.n from by rw [HOC.out, hp]; rfl)
        clear hp
        go_wp2_with fail
        refine (HCK.out _).mono ?_
        rintro e W3 ⟨rfl, hb⟩
        obtain ⟨q2, hq2⟩ : ∃ q, w2.heap.size = q := ⟨_, rfl⟩
        have F3 := Lib.hid (show CtS q2 y W3 ∧ RpS q1 src seq (some ⟨b, o, none⟩) n c W3 ∧ Below w.heap.size w W3 from hq2 ▸ And.intro (F2.out.1.keep hb) (And.intro (F2.out.2.1.keep hb) (bcall F2.out.2.2 (Nat.le_refl _) hb)))
        rw [hq2]
        clear hq2 hb F2 y0 y1 y2 x0 x1 x2 HCK z0 z1 z2
        obtain ⟨x0, x1, x2⟩ := F3.out.1.cells
        by_cases hn0 : y.n < 0
        · have e1 := eq_true hn0
          have HP := Lib.hid (show false = kr from by rw [← HK.out]; exact (G.out.2.1 (by rw [HOC2.out]; unfold inM; simp; omega)).symm)
          clear hn0
          go_wp2_with fail
          go_ret
          exact ⟨ret_bool HP.out, F3.out.2.2⟩
        have e1 := eq_false hn0
        by_cases hn1 : 9007199254740991 < y.n
        · have e2 := eq_true hn1
          have HP := Lib.hid (show false = kr from by rw [← HK.out]; exact (G.out.2.1 (by rw [HOC2.out]; unfold inM; simp; omega)).symm)
          clear hn0 hn1
          go_wp2_with fail
          go_ret
          exact ⟨ret_bool HP.out, F3.out.2.2⟩
        have e2 := eq_false hn1
        have HALL := Lib.hid (show (L.take (i + 1)).all okC = true from by rw [G.out.1, HOC2.out]; exact inM_iff.2 ⟨by omega, by omega⟩)
        clear hn0 hn1
        go_wp2_with fail
        clear x0 x1 x2 e1 e2
        go_loopw [5] (fun kv wr => ∃ k : Nat, k ≤ i ∧ kv = .int .i64 k ∧ (∀ a, a < k → (L.getD a default).p ≠ y.p) ∧ CtS q2 y wr ∧ RpS q1 src seq (some ⟨b, o, none⟩) n c wr ∧ Below w.heap.size w wr) (fun kv _ => i - (intOf kv).toNat)
        case atStart => exact ⟨0, Nat.zero_le _, rfl, fun a ha => absurd ha (Nat.not_lt_zero _), F3.out.1, F3.out.2.1, F3.out.2.2⟩
        case round =>
          obtain ⟨k, hk, rfl, hno, hct, hrp, hb⟩ := hrel
          obtain ⟨w5, rfl⟩ : ∃ w5 : World, w5 = wr := ⟨_, rfl⟩
          by_cases hki : k < i
          · have hkt : ((k : Int) < (i : Int)) = True := by simp; omega
            have hkn : ((k : Int) < (n : Int)) = True := by simp; omega
            have hk0 : ((0 : Int) ≤ (k : Int)) = True := by simp
            have hw4 := wrapS hki (Nat.le_trans hi hmax)
            have hkl : k < L.length := by rw [HS.out.2.1]; omega
            have hat := (G.out.2.2.2.2.below hb).get k hkl
            have hblt : b < w5.heap.size := Nat.lt_of_lt_of_le G.out.2.2.2.2.lt hb.size
            obtain ⟨x, hx⟩ : ∃ x, L.getD k default = x := ⟨_, rfl⟩
            rw [hx] at hat
            have hd := (Below.refl w5.heap.size w5).drew
            have F5 := Lib.hid (And.intro (bcall hb (Nat.le_refl _) hd) (show KeC q1 q2 b (o + k * 3) src seq (some ⟨b, o, none⟩) n c y x w5.drew from ⟨hrp.keep hd, hct.keep hd, hat.keep (hd.block _ hblt)⟩))
            have HNO := Lib.hid (And.intro hno (And.intro hx hkl))
            clear hno hct hrp hb hat hblt hd hx hkl
            go_wp2_with fail
            refine wp_region_heldP (KeC q1 q2 b (o + k * 3) src seq (some ⟨b, o, none⟩) n c y x) (by kernel_rfl) ?_
            generalize w5.drew = V at *
            by_cases hpk : x.p = y.p
            · have e1 : ((x.p.1 : Nat) : Int) = (y.p.1 : Int) := by rw [hpk]
              have e2 : x.p.2 = y.p.2 := by rw [hpk]
              have HP := Lib.hid (show false = kr from by
                rw [← HK.out]
                exact (chk_dup hki (by rw [HS.out.2.1]; exact hlt) (by rw [HNO.out.2.1, G.out.2.2.2.1]; exact hpk)).symm)
              clear hpk
              refine held_reads [0, 1, 2, 3, 4, 5, 6, 7, 8] (g := 0) rfl (by kernel_rfl) F5.out.2 (fun _ _ d _ _ h => by cases d <;> exact h) ?_
              simp only [pick, List.getD_cons_zero, List.getD_cons_succ]
              ((with_reducible refine wpRead_step (fun K hK => ?_)); go_simp; first | ((with_reducible refine hK _ ?_); clear hK K) | (apply Exists.intro; (with_reducible refine ⟨fun w' hw' => ?_, hK _ ?_⟩); (first | exact rfl | exact ⟨rfl, rfl⟩); clear hK K))
              ((with_reducible refine wpRead_step (fun K hK => ?_)); go_simp; first | ((with_reducible refine hK _ ?_); clear hK K) | (apply Exists.intro; (with_reducible refine ⟨fun w' hw' => ?_, hK _ ?_⟩); ((obtain ⟨f0, f1, f2⟩ := hw'.rep.cells; obtain ⟨f3, f4, f5⟩ := hw'.box.cells; have f6 := hw'.row 0 (by decide); have f7 := hw'.row 1 (by decide); simp only [RCt, Nat.add_zero, List.getElem?_cons_zero, List.getElem?_cons_succ] at f6 f7; go_simp; first | exact rfl | exact ⟨rfl, rfl⟩)); clear hK K))
              ((with_reducible refine wpRead_step (fun K hK => ?_)); go_simp; first | ((with_reducible refine hK _ ?_); clear hK K) | (apply Exists.intro; (with_reducible refine ⟨fun w' hw' => ?_, hK _ ?_⟩); (first | exact rfl | exact ⟨rfl, rfl⟩); clear hK K))
              ((with_reducible refine wpRead_step (fun K hK => ?_)); go_simp; first | ((with_reducible refine hK _ ?_); clear hK K) | (apply Exists.intro; (with_reducible refine ⟨fun w' hw' => ?_, hK _ ?_⟩); (first | exact rfl | exact ⟨rfl, rfl⟩); clear hK K))
              ((with_reducible refine wpRead_step (fun K hK => ?_)); go_simp; first | ((with_reducible refine hK _ ?_); clear hK K) | (apply Exists.intro; (with_reducible refine ⟨fun w' hw' => ?_, hK _ ?_⟩); (first | exact rfl | exact ⟨rfl, rfl⟩); clear hK K))
              ((with_reducible refine wpRead_step (fun K hK => ?_)); go_simp; first | ((with_reducible refine hK _ ?_); clear hK K) | (apply Exists.intro; (with_reducible refine ⟨fun w' hw' => ?_, hK _ ?_⟩); ((obtain ⟨f0, f1, f2⟩ := hw'.rep.cells; obtain ⟨f3, f4, f5⟩ := hw'.box.cells; have f6 := hw'.row 0 (by decide); have f7 := hw'.row 1 (by decide); simp only [RCt, Nat.add_zero, List.getElem?_cons_zero, List.getElem?_cons_succ] at f6 f7; go_simp; first | exact rfl | exact ⟨rfl, rfl⟩)); clear hK K))
              ((with_reducible refine wpRead_step (fun K hK => ?_)); go_simp; first | ((with_reducible refine hK _ ?_); clear hK K) | (apply Exists.intro; (with_reducible refine ⟨fun w' hw' => ?_, hK _ ?_⟩); (first | exact rfl | exact ⟨rfl, rfl⟩); clear hK K))
              ((with_reducible refine wpRead_step (fun K hK => ?_)); go_simp; first | ((with_reducible refine hK _ ?_); clear hK K) | (apply Exists.intro; (with_reducible refine ⟨fun w' hw' => ?_, hK _ ?_⟩); ((obtain ⟨f0, f1, f2⟩ := hw'.rep.cells; obtain ⟨f3, f4, f5⟩ := hw'.box.cells; have f6 := hw'.row 0 (by decide); have f7 := hw'.row 1 (by decide); simp only [RCt, Nat.add_zero, List.getElem?_cons_zero, List.getElem?_cons_succ] at f6 f7; go_simp; first | exact rfl | exact ⟨rfl, rfl⟩)); clear hK K))
              ((with_reducible refine wpRead_step (fun K hK => ?_)); go_simp; first | ((with_reducible refine hK _ ?_); clear hK K) | (apply Exists.intro; (with_reducible refine ⟨fun w' hw' => ?_, hK _ ?_⟩); (first | exact rfl | exact ⟨rfl, rfl⟩); clear hK K))
              with_reducible refine wpRead_nil ?_
              refine wpAnyH_done (by kernel_rfl) ?_ _
              go_wp2_with fail
              go_ret
              exact ⟨ret_bool HP.out, F5.out.1⟩
            · have HN2 := Lib.hid (show ∀ a, a < k + 1 → (L.getD a default).p ≠ y.p from fun a ha => by
                by_cases e : a = k
                · rw [e, HNO.out.2.1]; exact hpk
                · exact HNO.out.1 a (by omega))
              by_cases hae : x.p.1 = y.p.1
              · have e1 : ((x.p.1 : Nat) : Int) = (y.p.1 : Int) := by rw [hae]
                have e2 : (x.p.2 == y.p.2) = false := by simpa using fun h => hpk (Prod.ext hae h)
                clear hpk hae
                refine held_reads [0, 1, 2, 3, 4, 5, 6, 7, 8] (g := 0) rfl (by kernel_rfl) F5.out.2 (fun _ _ d _ _ h => by cases d <;> exact h) ?_
                simp only [pick, List.getD_cons_zero, List.getD_cons_succ]
                ((with_reducible refine wpRead_step (fun K hK => ?_)); go_simp; first | ((with_reducible refine hK _ ?_); clear hK K) | (apply Exists.intro; (with_reducible refine ⟨fun w' hw' => ?_, hK _ ?_⟩); (first | exact rfl | exact ⟨rfl, rfl⟩); clear hK K))
                ((with_reducible refine wpRead_step (fun K hK => ?_)); go_simp; first | ((with_reducible refine hK _ ?_); clear hK K) | (apply Exists.intro; (with_reducible refine ⟨fun w' hw' => ?_, hK _ ?_⟩); ((obtain ⟨f0, f1, f2⟩ := hw'.rep.cells; obtain ⟨f3, f4, f5⟩ := hw'.box.cells; have f6 := hw'.row 0 (by decide); have f7 := hw'.row 1 (by decide); simp only [RCt, Nat.add_zero, List.getElem?_cons_zero, List.getElem?_cons_succ] at f6 f7; go_simp; first | exact rfl | exact ⟨rfl, rfl⟩)); clear hK K))
                ((with_reducible refine wpRead_step (fun K hK => ?_)); go_simp; first | ((with_reducible refine hK _ ?_); clear hK K) | (apply Exists.intro; (with_reducible refine ⟨fun w' hw' => ?_, hK _ ?_⟩); (first | exact rfl | exact ⟨rfl, rfl⟩); clear hK K))
                ((with_reducible refine wpRead_step (fun K hK => ?_)); go_simp; first | ((with_reducible refine hK _ ?_); clear hK K) | (apply Exists.intro; (with_reducible refine ⟨fun w' hw' => ?_, hK _ ?_⟩); (first | exact rfl | exact ⟨rfl, rfl⟩); clear hK K))
                ((with_reducible refine wpRead_step (fun K hK => ?_)); go_simp; first | ((with_reducible refine hK _ ?_); clear hK K) | (apply Exists.intro; (with_reducible refine ⟨fun w' hw' => ?_, hK _ ?_⟩); (first | exact rfl | exact ⟨rfl, rfl⟩); clear hK K))
                ((with_reducible refine wpRead_step (fun K hK => ?_)); go_simp; first | ((with_reducible refine hK _ ?_); clear hK K) | (apply Exists.intro; (with_reducible refine ⟨fun w' hw' => ?_, hK _ ?_⟩); ((obtain ⟨f0, f1, f2⟩ := hw'.rep.cells; obtain ⟨f3, f4, f5⟩ := hw'.box.cells; have f6 := hw'.row 0 (by decide); have f7 := hw'.row 1 (by decide); simp only [RCt, Nat.add_zero, List.getElem?_cons_zero, List.getElem?_cons_succ] at f6 f7; go_simp; first | exact rfl | exact ⟨rfl, rfl⟩)); clear hK K))
                ((with_reducible refine wpRead_step (fun K hK => ?_)); go_simp; first | ((with_reducible refine hK _ ?_); clear hK K) | (apply Exists.intro; (with_reducible refine ⟨fun w' hw' => ?_, hK _ ?_⟩); (first | exact rfl | exact ⟨rfl, rfl⟩); clear hK K))
                ((with_reducible refine wpRead_step (fun K hK => ?_)); go_simp; first | ((with_reducible refine hK _ ?_); clear hK K) | (apply Exists.intro; (with_reducible refine ⟨fun w' hw' => ?_, hK _ ?_⟩); ((obtain ⟨f0, f1, f2⟩ := hw'.rep.cells; obtain ⟨f3, f4, f5⟩ := hw'.box.cells; have f6 := hw'.row 0 (by decide); have f7 := hw'.row 1 (by decide); simp only [RCt, Nat.add_zero, List.getElem?_cons_zero, List.getElem?_cons_succ] at f6 f7; go_simp; first | exact rfl | exact ⟨rfl, rfl⟩)); clear hK K))
                ((with_reducible refine wpRead_step (fun K hK => ?_)); go_simp; first | ((with_reducible refine hK _ ?_); clear hK K) | (apply Exists.intro; (with_reducible refine ⟨fun w' hw' => ?_, hK _ ?_⟩); (first | exact rfl | exact ⟨rfl, rfl⟩); clear hK K))
                with_reducible refine wpRead_nil ?_
                refine wpAnyH_done (by kernel_rfl) ?_ _
                go_wp2_with fail
                exact ⟨⟨k + 1, hki, by first | rw [hw4] | rw [Int.natCast_succ], HN2.out, F5.out.2.box, F5.out.2.rep, F5.out.1⟩, by first | (rw [hw4]; exact mSucc hki) | (rw [← Int.natCast_succ]; exact mSucc hki)⟩
              · have e1 : (((x.p.1 : Nat) : Int) == (y.p.1 : Int)) = false := by simpa using fun h : ((x.p.1 : Nat) : Int) = (y.p.1 : Int) => hae (by omega)
                clear hpk hae
                refine held_reads [0, 1, 2, 3, 4, 5, 6, 7, 8] (g := 0) rfl (by kernel_rfl) F5.out.2 (fun _ _ d _ _ h => by cases d <;> exact h) ?_
                simp only [pick, List.getD_cons_zero, List.getD_cons_succ]
                ((with_reducible refine wpRead_step (fun K hK => ?_)); go_simp; first | ((with_reducible refine hK _ ?_); clear hK K) | (apply Exists.intro; (with_reducible refine ⟨fun w' hw' => ?_, hK _ ?_⟩); (first | exact rfl | exact ⟨rfl, rfl⟩); clear hK K))
                ((with_reducible refine wpRead_step (fun K hK => ?_)); go_simp; first | ((with_reducible refine hK _ ?_); clear hK K) | (apply Exists.intro; (with_reducible refine ⟨fun w' hw' => ?_, hK _ ?_⟩); ((obtain ⟨f0, f1, f2⟩ := hw'.rep.cells; obtain ⟨f3, f4, f5⟩ := hw'.box.cells; have f6 := hw'.row 0 (by decide); have f7 := hw'.row 1 (by decide); simp only [RCt, Nat.add_zero, List.getElem?_cons_zero, List.getElem?_cons_succ] at f6 f7; go_simp; first | exact rfl | exact ⟨rfl, rfl⟩)); clear hK K))
                ((with_reducible refine wpRead_step (fun K hK => ?_)); go_simp; first | ((with_reducible refine hK _ ?_); clear hK K) | (apply Exists.intro; (with_reducible refine ⟨fun w' hw' => ?_, hK _ ?_⟩); (first | exact rfl | exact ⟨rfl, rfl⟩); clear hK K))
                ((with_reducible refine wpRead_step (fun K hK => ?_)); go_simp; first | ((with_reducible refine hK _ ?_); clear hK K) | (apply Exists.intro; (with_reducible refine ⟨fun w' hw' => ?_, hK _ ?_⟩); (first | exact rfl | exact ⟨rfl, rfl⟩); clear hK K))
                ((with_reducible refine wpRead_step (fun K hK => ?_)); go_simp; first | ((with_reducible refine hK _ ?_); clear hK K) | (apply Exists.intro; (with_reducible refine ⟨fun w' hw' => ?_, hK _ ?_⟩); (first | exact rfl | exact ⟨rfl, rfl⟩); clear hK K))
                ((with_reducible refine wpRead_step (fun K hK => ?_)); go_simp; first | ((with_reducible refine hK _ ?_); clear hK K) | (apply Exists.intro; (with_reducible refine ⟨fun w' hw' => ?_, hK _ ?_⟩); ((obtain ⟨f0, f1, f2⟩ := hw'.rep.cells; obtain ⟨f3, f4, f5⟩ := hw'.box.cells; have f6 := hw'.row 0 (by decide); have f7 := hw'.row 1 (by decide); simp only [RCt, Nat.add_zero, List.getElem?_cons_zero, List.getElem?_cons_succ] at f6 f7; go_simp; first | exact rfl | exact ⟨rfl, rfl⟩)); clear hK K))
                ((with_reducible refine wpRead_step (fun K hK => ?_)); go_simp; first | ((with_reducible refine hK _ ?_); clear hK K) | (apply Exists.intro; (with_reducible refine ⟨fun w' hw' => ?_, hK _ ?_⟩); (first | exact rfl | exact ⟨rfl, rfl⟩); clear hK K))
                ((with_reducible refine wpRead_step (fun K hK => ?_)); go_simp; first | ((with_reducible refine hK _ ?_); clear hK K) | (apply Exists.intro; (with_reducible refine ⟨fun w' hw' => ?_, hK _ ?_⟩); ((obtain ⟨f0, f1, f2⟩ := hw'.rep.cells; obtain ⟨f3, f4, f5⟩ := hw'.box.cells; have f6 := hw'.row 0 (by decide); have f7 := hw'.row 1 (by decide); simp only [RCt, Nat.add_zero, List.getElem?_cons_zero, List.getElem?_cons_succ] at f6 f7; go_simp; first | exact rfl | exact ⟨rfl, rfl⟩)); clear hK K))
                ((with_reducible refine wpRead_step (fun K hK => ?_)); go_simp; first | ((with_reducible refine hK _ ?_); clear hK K) | (apply Exists.intro; (with_reducible refine ⟨fun w' hw' => ?_, hK _ ?_⟩); (first | exact rfl | exact ⟨rfl, rfl⟩); clear hK K))
                with_reducible refine wpRead_nil ?_
                refine wpAnyH_done (by kernel_rfl) ?_ _
                go_wp2_with fail
                exact ⟨⟨k + 1, hki, by first | rw [hw4] | rw [Int.natCast_succ], HN2.out, F5.out.2.box, F5.out.2.rep, F5.out.1⟩, by first | (rw [hw4]; exact mSucc hki) | (rw [← Int.natCast_succ]; exact mSucc hki)⟩
          · obtain rfl : k = i := by omega
            have hkt : ((k : Int) < (k : Int)) = False := by simp
            have G2 := Lib.hid (And.intro HALL.out (And.intro (show ∀ a b, a < b → b < k + 1 → (L.getD a default).p ≠ (L.getD b default).p from fun a b' hab hb' => by
              by_cases e : b' = k
              · subst e; rw [G.out.2.2.2.1]; exact hno a hab
              · exact G.out.2.2.1 a b' hab (by omega)) (And.intro hrp hb)))
            clear hno hct hrp hb
            go_wp2_with fail
            exact ⟨⟨k + 1, hlt, by first | rw [hw3] | rw [Int.natCast_succ], G2.out⟩, by first | (rw [hw3]; exact mSucc hlt) | (rw [← Int.natCast_succ]; exact mSucc hlt)⟩
    · obtain rfl : n = i := by omega
      have hil : ((n : Int) < (n : Int)) = False := by simp
      rw [List.take_of_length_le (by rw [HS.out.2.1]; exact Nat.le_refl _)] at hall
      have HR := Lib.hid (show true = kr from by rw [← HK.out]; exact (chk_yes hall (fun a b' hab hb' => hnd a b' hab (by rw [← HS.out.2.1]; exact hb')) (by rw [HS.out.2.1]; exact HS.out.2.2)).symm)
      have G := Lib.hid hb
      clear hb hall hnd hrp
      go_wp2_with fail
      go_ret
      exact ⟨ret_bool HR.out, G.out⟩
set_option maxRecDepth 100000 in
theorem rmcheck_any {w : World} {oa : Option Addr} {n c : Nat} {L : List Ct} (H : Cts w oa n c L) (src seq : Int) : Calls Try.prog 46 #[.agg #[.int .i64 src, .int .i64 seq, .slice oa n c]] w fun e w' => e = .returned (.bool (chkR src seq L)) ∧ Below w.heap.size w w' := by
  by_cases h : (inS src = true ∧ inM seq = true) ∧ n ≤ 1024
  · have := rmcheck_main H h.1.1 h.1.2 h.2
    rwa [show chkR src seq L = chkL L from by unfold chkR; rw [h.1.1, h.1.2]; simp]
  have hf : chkR src seq L = false := by
    cases hc : chkR src seq L with
    | false => rfl
    | true =>
      have h2 := hc
      unfold chkR at h2
      rw [Bool.and_eq_true, Bool.and_eq_true] at h2
      exact absurd ⟨h2.2, by rw [H.sl.len]; exact chkL_len h2.1⟩ h
  rw [hf]
  have hw : (src < 0) = True ∨ ((src < 0) = False ∧ (15 < src) = True) ∨ ((src < 0) = False ∧ (15 < src) = False ∧ (seq < 0) = True) ∨ ((src < 0) = False ∧ (15 < src) = False ∧ (seq < 0) = False ∧ (9007199254740991 < seq) = True) ∨ ((src < 0) = False ∧ (15 < src) = False ∧ (seq < 0) = False ∧ (9007199254740991 < seq) = False ∧ ((1024 : Int) < (n : Int)) = True) := by
    by_cases h1 : src < 0
    · exact .inl (eq_true h1)
    by_cases h2 : 15 < src
    · exact .inr (.inl ⟨eq_false h1, eq_true h2⟩)
    by_cases h3 : seq < 0
    · exact .inr (.inr (.inl ⟨eq_false h1, eq_false h2, eq_true h3⟩))
    by_cases h4 : 9007199254740991 < seq
    · exact .inr (.inr (.inr (.inl ⟨eq_false h1, eq_false h2, eq_false h3, eq_true h4⟩)))
    · refine .inr (.inr (.inr (.inr ⟨eq_false h1, eq_false h2, eq_false h3, eq_false h4, eq_true ?_⟩)))
      have h5 : inS src = true := by unfold inS; simp; omega
      have h6 : inM seq = true := inM_iff.2 ⟨by omega, by omega⟩
      have h7 : ¬ n ≤ 1024 := fun h8 => h ⟨⟨h5, h6⟩, h8⟩
      omega
  have F := Lib.hid ((Below.refl w.heap.size w).alloc (Nat.le_refl _) (.cells #[.int .i64 src, .int .i64 seq, .slice oa n c] 82))
  have hks : RpS w.heap.size src seq oa n c (w.alloc (.cells #[.int .i64 src, .int .i64 seq, .slice oa n c] 82)) := hnew _ _
  obtain ⟨z0, z1, z2⟩ := hks.cells
  clear hks h hf H
  rcases hw with h1 | ⟨h1, h2⟩ | ⟨h1, h2, h3⟩ | ⟨h1, h2, h3, h4⟩ | ⟨h1, h2, h3, h4, h5⟩
  all_goals
    go_enter Try.func46, Try.ntmps46
    go_wp2_with fail
    go_ret
    exact ⟨rfl, F.out⟩
end Go.Proofs.Ytfmehahjjgalfaa.Me
/- The reference's meter: Stamp; a part of a block stored. -/
namespace Go.Proofs.Ytfmehahjjgalfaa.Me
open Go.RowKit

section
variable {P : Program} {ops : Array Oper} {rest : List Oper} {o : Oper} {a : Act} {Q : Exit → Act → World → Prop} {w : World}
theorem store_mid (hgd : o.guard = none) (ty : TypeId) (x y : Operand) (ho : o.op = .store ty x y) (b off : Nat) (v : Value) (hx : a.eval x = .pointer (some ⟨b, off, none⟩)) (hy : a.eval y = v)
    {cur : Array Value} {T : TypeId} (hb : w.heap[b]? = some (.cells cur T (0, 0))) (hs : off + v.cells.size ≤ cur.size) (hi : (P.info? ty).map (·.size) = some v.cells.size) (h1 : v.cells.all (·.oneCell') = true)
    (h : ∀ w1 cur', w1.heap[b]? = some (.cells cur' T (0, 0)) → cur'.size = cur.size → (∀ q, cur'[q]? = if off ≤ q ∧ q < off + v.cells.size then v.cells[q - off]? else cur[q]?) → SetB w w1 b (.cells cur' T (0, 0)) → wpList P ops Q rest (a.put o.dst undef) w1) : wpList P ops Q (o :: rest) a w :=
  wpList_plain hgd fun K hK => by
    obtain ⟨w1, cur', e1, e2, e3, e4, e5⟩ := Rep.run_storeCells' (P := P) b off T v.cells.toList 0 w cur hb (fun u hu => (Array.all_eq_true_iff_forall_mem.1 h1) u (by simpa using hu)) (by simpa using hs)
    have hk := hK _ _ (h w1 cur' e2 e3 (fun q => by have := e4 q; simpa using this) e5)
    have hr : (Instr.storeAt ty (.pointer (some ⟨b, off, none⟩)) v).run P w = .ok () w1 := by
      cases hq : P.info? ty with
      | none => simp [hq] at hi
      | some i =>
        have hs2 : v.cells.size = i.size := by simp [hq] at hi; omega
        simp only [Instr.storeAt, Instr.sureAddr, Sem.run_bind, Sem.run_pure, Result.andThen_ok]
        simp [storeVar, sizeOf, typeInfo, hq, hs2, e1]
    unfold Oper.wp execOp
    simp only [ho, hx, hy, Sem.run_bind, hr, Sem.run_pure, Result.andThen_ok]
    exact hk
end
theorem isN_zero {s : Src} (_hok : s.ok) : isN s = 0 ↔ s.last = none := by
  unfold isN
  cases hl : s.last with
  | none => simp
  | some r => cases s.ahead <;> simp
set_option maxRecDepth 100000 in
theorem rstamp_any {w0 w : World} {x : Nat} {X : Nat → Src} (H : RMet w0 w x X) (s : Int) : Calls Try.prog 51 #[.pointer (some ⟨x, 0, none⟩), .int .i64 s] w fun e w' => e = .returned (.tuple #[.int .i64 (stampV X s), .bool (stampB X s)]) ∧ w' = w := by
  obtain ⟨v, hv⟩ : ∃ v, stampV X s = v := ⟨_, rfl⟩
  obtain ⟨u, hu⟩ : ∃ u, stampB X s = u := ⟨_, rfl⟩
  rw [hv, hu]
  have HV := Lib.hid (And.intro hv hu)
  clear hv hu
  by_cases hs : 0 ≤ s ∧ s ≤ 15
  · have hin : inS s = true := by unfold inS; simp; exact hs
    obtain ⟨i, rfl⟩ : ∃ i : Nat, s = (i : Int) := ⟨s.toNat, by omega⟩
    have hi : i < 16 := by omega
    have hi0 : ((0 : Int) ≤ (i : Int)) = True := by simp
    have hi1 : ((i : Int) < 16) = True := by simp; omega
    have hi2 : ((i : Int) < 0) = False := by simp
    have hi3 : ((15 : Int) < (i : Int)) = False := by simp; omega
    obtain ⟨y, hyc, hyr⟩ := H.at hi
    have z0 := hyc 0 (by decide)
    have z4 := hyc 4 (by decide)
    simp only [lsC, Nat.add_zero, List.getElem?_cons_zero, List.getElem?_cons_succ] at z0 z4
    rw [hyr.is] at z0
    cases hl : (X i).last with
    | none =>
      rw [(isN_zero (H.ok i hi)).2 hl] at z0
      have HR := Lib.hid (show 0 = v ∧ false = u from ⟨by rw [← HV.out.1]; unfold stampV; rw [hin, if_pos rfl, Int.toNat_natCast, hl], by rw [← HV.out.2]; unfold stampB; rw [hin, Int.toNat_natCast, hl]; rfl⟩)
      clear hs hin hyc hyr H hl hi
      go_enter Try.func51, Try.ntmps51
      go_wp2_with fail
      go_ret2
      exact ⟨ret_nb HR.out.1 HR.out.2, rfl⟩
    | some r =>
      have hz : (isN (X i) == 0) = false := by
        have : ¬ isN (X i) = 0 := fun e => by rw [(isN_zero (H.ok i hi)).1 e] at hl; cases hl
        simpa using this
      rw [(hyr.l1 r hl).2.1] at z4
      have HR := Lib.hid (show r.at' = v ∧ true = u from ⟨by rw [← HV.out.1]; unfold stampV; rw [hin, if_pos rfl, Int.toNat_natCast, hl], by rw [← HV.out.2]; unfold stampB; rw [hin, Int.toNat_natCast, hl]; rfl⟩)
      clear hs hin hyc hyr H hl hi
      generalize isN (X i) = iv at *
      go_enter Try.func51, Try.ntmps51
      go_wp2_with fail
      go_ret2
      exact ⟨ret_nb HR.out.1 HR.out.2, rfl⟩
  · have hin : inS s = false := by unfold inS; simp; omega
    have HR := Lib.hid (show 0 = v ∧ false = u from ⟨by rw [← HV.out.1]; unfold stampV; rw [hin]; rfl, by rw [← HV.out.2]; unfold stampB; rw [hin]; rfl⟩)
    have hw : (s < 0) = True ∨ ((s < 0) = False ∧ (15 < s) = True) := by
      by_cases h1 : s < 0
      · exact .inl (eq_true h1)
      · exact .inr ⟨eq_false h1, eq_true (by omega)⟩
    clear hs hin H
    rcases hw with h1 | ⟨h1, h2⟩
    all_goals
      go_enter Try.func51, Try.ntmps51
      go_wp2_with fail
      go_ret2
      exact ⟨ret_nb HR.out.1 HR.out.2, rfl⟩
theorem len_cur {w0 : World} {y : Ls} {s : Src} (h : LsRel w0 y s) : y.s.n = lenO s := by
  rw [h.cur.sl.len]
  unfold lenO
  cases hl : s.last with
  | none => rw [h.l0 hl]; rfl
  | some r => rw [(h.l1 r hl).2.2]
/-- what a source's cells are behind a report was taken -/
def newL (src seq : Int) (q : SlV Ct) (now : Int) (y : Ls) : Ls := if 0 < y.is then ⟨2, src, seq, q, now, y.src, y.seq, y.s, y.at'⟩ else ⟨1, src, seq, q, now, 0, 0, ⟨none, 0, 0, []⟩, 0⟩
theorem isN_pos {s : Src} (_hok : s.ok) : 0 < isN s ↔ s.last ≠ none := by
  unfold isN
  cases hl : s.last with
  | none => simp
  | some r => cases s.ahead <;> simp
theorem newL_rel {w0 : World} {y : Ls} {s : Src} (hok : s.ok) (h : LsRel w0 y s) {q : SlV Ct} (hq : Cts w0 q.a q.n q.c q.l) (src seq now : Int) : LsRel w0 (newL src seq q now y) ⟨some ⟨seq, now, q.l⟩, s.last⟩ := by
  unfold newL
  by_cases hp : 0 < y.is
  · rw [if_pos hp]
    have hp2 := hp
    rw [h.is, isN_pos hok] at hp2
    cases hl : s.last with
    | none => exact absurd hl hp2
    | some r =>
      obtain ⟨h1, h2, h3⟩ := h.l1 r hl
      exact ⟨rfl, hq, h.cur, fun e => (by cases e), fun r' e => (by cases e; exact ⟨rfl, rfl, rfl⟩), fun r' e => (by cases e; exact ⟨h2, h3⟩)⟩
  · rw [if_neg hp]
    have hp2 := hp
    rw [h.is, isN_pos hok] at hp2
    have hl : s.last = none := Classical.byContradiction hp2
    rw [hl]
    exact ⟨rfl, hq, ⟨Rep.sl_nil, fun z hz => (by cases hz)⟩, fun e => (by cases e), fun r' e => (by cases e; exact ⟨rfl, rfl, rfl⟩), fun r' e => (by cases e)⟩
structure RTake (w0 w w' : World) (x : Nat) (X : Nat → Src) : Prop where
  met : RMet w0 w' x X
  but : But w w' [x]
theorem RMet.put {w0 w w' : World} {x : Nat} {X : Nat → Src} (H : RMet w0 w x X) {i : Nat} (hi : i < 16) {y : Ls} {s : Src} (hr : LsRel w0 y s) (hs : s.ok) {A A' : Array Value} (hA : w.heap[x]? = some (.cells A 87)) (hsz : A'.size = A.size) (hA' : w'.heap[x]? = some (.cells A' 87)) (hg : ∀ q, A'[q]? = if i * 9 ≤ q ∧ q < i * 9 + 9 then (lsC y).toArray[q - i * 9]? else A[q]?) : RMet w0 w' x (fun j => if j = i then s else X j) := by
  obtain ⟨B, h1, h2, h3⟩ := H.out
  rw [hA] at h2
  cases h2
  refine ⟨⟨A', by rw [hsz, h1], hA', fun j hj => ?_⟩, fun j hj => ?_⟩
  · by_cases e : j = i
    · subst e
      refine ⟨y, fun k hk => ?_, by simp only; exact hr⟩
      rw [hg, if_pos (by omega), show j * 9 + k - j * 9 = k from by omega]
      simp
    · obtain ⟨y', h4, h5⟩ := h3 j hj
      refine ⟨y', fun k hk => ?_, by simp only [if_neg e]; exact h5⟩
      rw [hg, if_neg (by omega)]
      exact h4 k hk
  · by_cases e : j = i
    · subst e; simp only; exact hs
    · simp only [if_neg e]; exact H.ok j hj
end Go.Proofs.Ytfmehahjjgalfaa.Me
/- The reference's Demands: the plain law of its insertions. -/
namespace Go.Proofs.Ytfmehahjjgalfaa.Me
open Go.RowKit

def PIn (X : Nat → Src) (i j : Nat) (k : PK) : Prop := InL X i k ∨ ∃ r, (X i).last = some r ∧ k ∈ (r.cs.take j).map Ct.p
structure DemQ (X : Nat → Src) (i j : Nat) (out : List Ct) : Prop where
  ord : Kl.Ordered ltC out
  val : ∀ x ∈ out, 0 < x.n ∧ x.n = demI X x.p 16
  has : ∀ k, PIn X i j k → 0 < demI X k 16 → k ∈ out.map Ct.p
  len : out.length ≤ i * 1024 + j
theorem DemQ.zero (X : Nat → Src) : DemQ X 0 0 [] := ⟨List.Pairwise.nil, fun x h => (by cases h), fun k h _ => h.elim (fun h => absurd h InL.none) (fun ⟨r, _, h⟩ => (by simp at h)), Nat.zero_le _⟩
theorem PIn.succ {X : Nat → Src} {i j : Nat} {r : Rp} (hl : (X i).last = some r) (hj : j < r.cs.length) {k : PK} (h : PIn X i (j + 1) k) : PIn X i j k ∨ k = (r.cs.getD j default).p := by
  rcases h with h | ⟨r', h1, h2⟩
  · exact .inl (.inl h)
  · rw [hl] at h1
    cases h1
    rw [List.take_succ_eq_append_getElem hj, List.map_append, List.mem_append] at h2
    rcases h2 with h2 | h2
    · exact .inl (.inr ⟨r, hl, h2⟩)
    · right
      simp at h2
      rw [h2]
      simp [List.getD_eq_getElem?_getD, hj]
set_option maxRecDepth 10000 in
theorem DemQ.skip {X : Nat → Src} {i j : Nat} {out : List Ct} (h : DemQ X i j out) {r : Rp} (hl : (X i).last = some r) (hj : j < r.cs.length) (hs : demI X (r.cs.getD j default).p 16 = 0 ∨ (r.cs.getD j default).p ∈ out.map Ct.p) : DemQ X i (j + 1) out := by
  refine ⟨h.ord, h.val, fun k hk hp => ?_, Nat.le_succ_of_le h.len⟩
  rcases hk.succ hl hj with hk | hk
  · exact h.has k hk hp
  · subst hk
    rcases hs with hs | hs
    · rw [hs] at hp; exact absurd hp (by decide)
    · exact hs
theorem ins_ord {out : List Ct} (ho : Kl.Ordered ltC out) {k : Nat} (hk : k ≤ out.length) {x : Ct} (h1 : ∀ j, j < k → ltK (out.getD j default).p x.p = true) (h2 : k < out.length → ltK x.p (out.getD k default).p = true) : Kl.Ordered ltC (out.take k ++ [x] ++ out.drop k) := by
  have hsplit := List.take_append_drop k out
  have ho2 := ho
  unfold Kl.Ordered at *
  rw [← hsplit, List.pairwise_append] at ho2
  obtain ⟨p1, p2, p3⟩ := ho2
  have ht : ∀ a ∈ out.take k, ltC a x = true := fun a ha => by
    obtain ⟨j, hj, rfl⟩ := List.getElem_of_mem ha
    have hj2 : j < k := by rw [List.length_take] at hj; omega
    have := h1 j hj2
    rw [List.getD_eq_getElem?_getD, List.getElem?_eq_getElem (by omega), Option.getD_some] at this
    rw [List.getElem_take]
    exact this
  have hd : ∀ b ∈ out.drop k, ltC x b = true := fun b hb => by
    have hkl : k < out.length := by
      rcases Nat.lt_or_ge k out.length with h | h
      · exact h
      · rw [List.drop_eq_nil_of_le h] at hb; cases hb
    have h3 := h2 hkl
    rw [List.getD_eq_getElem?_getD, List.getElem?_eq_getElem hkl, Option.getD_some] at h3
    rw [List.drop_eq_getElem_cons hkl] at hb p2
    rcases List.mem_cons.1 hb with rfl | hb
    · exact h3
    · exact ltK_trans h3 ((List.pairwise_cons.1 p2).1 b hb)
  rw [List.append_assoc, List.pairwise_append]
  refine ⟨p1, ?_, fun a ha b hb => ?_⟩
  · rw [List.singleton_append, List.pairwise_cons]
    exact ⟨hd, p2⟩
  · rw [List.singleton_append] at hb
    rcases List.mem_cons.1 hb with rfl | hb
    · exact ht a ha
    · exact p3 a ha b hb
theorem ins_mem {out : List Ct} {k : Nat} {x y : Ct} : y ∈ out.take k ++ [x] ++ out.drop k ↔ y = x ∨ y ∈ out := by
  have hsplit := List.take_append_drop k out
  constructor
  · intro h
    rcases List.mem_append.1 h with h | h
    · rcases List.mem_append.1 h with h | h
      · exact .inr (List.mem_of_mem_take h)
      · exact .inl (List.mem_singleton.1 h)
    · exact .inr (List.mem_of_mem_drop h)
  · rintro (rfl | h)
    · exact List.mem_append.2 (.inl (List.mem_append.2 (.inr (List.mem_singleton.2 rfl))))
    · rw [← hsplit] at h
      rcases List.mem_append.1 h with h | h
      · exact List.mem_append.2 (.inl (List.mem_append.2 (.inl h)))
      · exact List.mem_append.2 (.inr h)
set_option maxRecDepth 10000 in
theorem DemQ.ins {X : Nat → Src} {i j : Nat} {out : List Ct} (h : DemQ X i j out) {r : Rp} (hl : (X i).last = some r) (hj : j < r.cs.length) {k : Nat} (hk : k ≤ out.length) {p : PK} (hp : (r.cs.getD j default).p = p) (h0 : 0 < demI X p 16) (h1 : ∀ j, j < k → ltK (out.getD j default).p p = true) (h2 : k < out.length → ltK p (out.getD k default).p = true) : DemQ X i (j + 1) (out.take k ++ [⟨p, demI X p 16⟩] ++ out.drop k) := by
  refine ⟨ins_ord h.ord hk h1 h2, fun x hx => ?_, fun q hq hpos => ?_, ?_⟩
  · rcases ins_mem.1 hx with rfl | hx
    · exact ⟨h0, rfl⟩
    · exact h.val x hx
  · rcases hq.succ hl hj with hq | hq
    · obtain ⟨x, hx, he⟩ := List.mem_map.1 (h.has q hq hpos)
      exact List.mem_map.2 ⟨x, ins_mem.2 (.inr hx), he⟩
    · exact List.mem_map.2 ⟨⟨p, demI X p 16⟩, ins_mem.2 (.inl rfl), by rw [hq, hp]⟩
  · have := h.len
    rw [List.length_append, List.length_append, List.length_take, List.length_drop, List.length_singleton]
    generalize i * 1024 = z at *
    omega
set_option maxRecDepth 10000 in
theorem DemQ.next {X : Nat → Src} {i : Nat} (hok : (X i).ok) {out : List Ct} (h : DemQ X i (lenO (X i)) out) : DemQ X (i + 1) 0 out := by
  refine ⟨h.ord, h.val, fun k hk hp => h.has k ?_ hp, ?_⟩
  · rcases hk with hk | ⟨r, _, hk⟩
    · rcases InL.succ.1 hk with hk | ⟨r, h1, h2⟩
      · exact .inl hk
      · refine .inr ⟨r, h1, ?_⟩
        have : lenO (X i) = r.cs.length := by unfold lenO; rw [h1]
        rw [this, List.take_length]
        exact h2
    · simp at hk
  · have h1 := h.len
    have h2 := lenO_le hok
    rw [Nat.add_zero, Nat.succ_mul]
    exact Nat.le_trans h1 (Nat.add_le_add_left h2 _)
theorem DemQ.dem {X : Nat → Src} (hok : ∀ i, i < 16 → (X i).ok) {out : List Ct} (h : DemQ X 16 0 out) : Dem X out := by
  refine ⟨h.ord, fun x => ⟨fun hx => h.val x hx, fun ⟨h1, h2⟩ => ?_⟩⟩
  have h3 : InL X 16 x.p := Classical.byContradiction fun hc => by
    have h4 := demI_no hok (Nat.le_refl 16) hc
    rw [h4] at h2
    rw [h2] at h1
    exact absurd h1 (by decide)
  rw [h2] at h1
  obtain ⟨y, hy, he⟩ := List.mem_map.1 (h.has x.p (.inl h3) h1)
  have h5 := (h.val y hy).2
  rw [he, ← h2] at h5
  have : y = x := by cases x; cases y; simp_all
  exact this ▸ hy
end Go.Proofs.Ytfmehahjjgalfaa.Me
/- A slice cut to its first k, with room for no more. -/
namespace Go.Proofs.Ytfmehahjjgalfaa
namespace Rep
open Go.RowKit
variable {P : Program} {α : Type} [Inhabited α] {R : Rep α}
theorem cut_kk {t : TypeId} {bytes : Nat} (hT : Ty P t R bytes) {w : World} {a : Option Addr} {n c : Nat} {L : List α} (hs : R.Sl w a n c L) (hnc : n ≤ c) {i : Nat} (hi : i ≤ n) :
    ∃ sa, (∀ W, (Instr.sliceAt t (.slice a n c) none (some (.int .i64 (i : Int))) (some (.int .i64 (i : Int)))).run P W = .ok (.slice sa i i) W) ∧ (∀ W, (Instr.slice t (.slice a n c) none (some (.int .i64 (i : Int))) (some (.int .i64 (i : Int)))).run P W = .ok (.slice sa i i) W) ∧
      R.Sl w sa i i (L.take i) := by
  have h2 : ∀ W, (Instr.slice t (.slice a n c) none (some (.int .i64 (i : Int))) (some (.int .i64 (i : Int)))).run P W = .ok (.slice (cutAddr a 0 i R.k) i i) W := fun W => by
    rw [run_slice_hm W t a n c hT.elem' .i64 .i64 (i : Int) (i : Int) (by omega) (by omega) (by omega), hT.size W]
    simp only [Result.andThen, sliced, Int.toNat_natCast, cutAddr, Nat.sub_zero]
  refine ⟨cutAddr a 0 i R.k, fun W => ?_, h2, ⟨by rw [List.length_take, ← hs.len]; omega, by have := hs.max; omega, fun h0 => ?_⟩⟩
  · rw [run_sliceAt_slice W t _ _ _ _ hT.elem']; exact h2 W
  · obtain ⟨b, o, e, hr⟩ := hs.row (by omega)
    obtain ⟨o', e', ho'⟩ := cutAddr_some (b := b) (o := o) (l := 0) (m := i) (k := R.k)
    rw [e, e']
    refine ⟨b, o', rfl, ?_⟩
    rw [ho' (by omega), Nat.zero_mul, Nat.add_zero]
    exact hr.take i
end Rep
end Go.Proofs.Ytfmehahjjgalfaa
