/- Which lists of routes are the same, as the reference tells. -/
import Derived.Test.YtadoflcomienoaaGreatZat
namespace Go.Proofs.YtadoflcomienoaaGreat
open Go.RowKit

theorem at_rangeK {W : World} {b o : Nat} {z : RtV} (h : RRt.At W b o z) : W.rangeAt b o (#[.int .i64 z.r, .int .u32 (z.k.1 : Int), .int .i64 z.k.2, .int .i64 z.i] : Array Value).toList := by
  intro j v hv
  have hj : j < 4 := (List.getElem?_eq_some_iff.1 hv).1
  refine (h j (show j < 10 by omega)).trans ?_
  rw [← hv]
  match j, hj with
  | 0, _ => rfl
  | 1, _ => rfl
  | 2, _ => rfl
  | 3, _ => rfl
theorem at_rangeA {W : World} {b o : Nat} {z : RtV} (h : RRt.At W b o z) : W.rangeAt b (o + 4) (#[.int .i64 z.a.o, .slice z.a.p.a z.a.p.n z.a.p.c, .int .u32 z.a.nx, .int .i64 z.a.md, .int .i64 z.a.pf, .slice z.a.c.a z.a.c.n z.a.c.c] : Array Value).toList := by
  intro j v hv
  have hj : j < 6 := (List.getElem?_eq_some_iff.1 hv).1
  have h1 := h (4 + j) (show 4 + j < 10 by omega)
  rw [← Nat.add_assoc] at h1
  refine h1.trans ?_
  rw [← hv]
  match j, hj with
  | 0, _ => rfl
  | 1, _ => rfl
  | 2, _ => rfl
  | 3, _ => rfl
  | 4, _ => rfl
  | 5, _ => rfl
structure TwoR2 (b0 o0 b1 o1 : Nat) (x y : RtV) (W : World) : Prop where
  l : RRt.At W b0 o0 x
  r : RRt.At W b1 o1 y
theorem TwoR2.keep {b0 o0 b1 o1 : Nat} {x y : RtV} {W W' : World} (h : TwoR2 b0 o0 b1 o1 x y W) (hb : Below W.heap.size W W') : TwoR2 b0 o0 b1 o1 x y W' :=
  ⟨fun j hj => (hb.cell (World.block_lt_of_cell? _ _ (by rw [h.l j hj, List.getElem?_eq_getElem (by rw [RRt.len]; exact hj)]))).trans (h.l j hj), fun j hj => (hb.cell (World.block_lt_of_cell? _ _ (by rw [h.r j hj, List.getElem?_eq_getElem (by rw [RRt.len]; exact hj)]))).trans (h.r j hj)⟩
set_option maxRecDepth 100000 in
set_option maxHeartbeats 8000000 in
theorem srsame_any {w : World} {oa ob : Option Addr} {n c m d : Nat} {L M : List RtV} (h : SlOk RRt RtOk w ⟨oa, n, c, L⟩) (k : SlOk RRt RtOk w ⟨ob, m, d, M⟩) : Calls Tryz.prog 33 #[.slice oa n c, .slice ob m d] w fun e w' => e = .returned (.bool (decide (L.map RtV.rt = M.map RtV.rt))) ∧ Below w.heap.size w w' := by
  by_cases hnm : n = m
  · subst hnm
    have HL := Lib.hid (show n = L.length from h.sl.len)
    have HM := Lib.hid (show n = M.length from k.sl.len)
    have hmax : n ≤ maxLen := h.sl.max
    have F := Lib.hid (And.intro h k)
    obtain ⟨v, hv⟩ : ∃ v, decide (L.map RtV.rt = M.map RtV.rt) = v := ⟨_, rfl⟩
    rw [hv]
    have HV := Lib.hid hv
    have e0 : ((n : Int) == (n : Int)) = true := by simp
    clear h k hv
    go_enter Tryz.func33, Tryz.ntmps33
    go_wp2_with fail
    go_loopw [5] (fun iv wr => ∃ i : Nat, i ≤ n ∧ iv = .int .i64 i ∧ (∀ j, j < i → (L.map RtV.rt).getD j default = (M.map RtV.rt).getD j default) ∧ Below w.heap.size w wr) (fun iv _ => n - (intOf iv).toNat)
    case atStart => exact ⟨0, Nat.zero_le _, rfl, fun j hj => absurd hj (Nat.not_lt_zero _), Below.refl _ _⟩
    case round =>
      obtain ⟨i, hi, rfl, hall, hb⟩ := hrel
      obtain ⟨w2, rfl⟩ : ∃ w2 : World, w2 = wr := ⟨_, rfl⟩
      by_cases hlt : i < n
      · have hil : ((i : Int) < (n : Int)) = True := by simp; omega
        have hi0 : ((0 : Int) ≤ (i : Int)) = True := by simp
        have hw3 := wrapS hlt hmax
        obtain ⟨b0, o0, ea, hbb, hat⟩ := (F.out.1.keep hb fun _ _ h => h.keep hb).sl.at hlt
        obtain ⟨b1, o1, eb, hbb1, hat1⟩ := (F.out.2.keep hb fun _ _ h => h.keep hb).sl.at hlt
        dsimp only at ea eb hat hat1
        subst ea
        subst eb
        obtain ⟨x, hx⟩ : ∃ x, L.getD i default = x := ⟨_, rfl⟩
        obtain ⟨y, hy⟩ : ∃ y, M.getD i default = y := ⟨_, rfl⟩
        rw [hx] at hat
        rw [hy] at hat1
        have hd := (Below.refl w2.heap.size w2).drew
        have hbd := bcall hb (Nat.le_refl _) hd
        have hxo : AtOk w2.drew x.a := by rw [← hx]; exact (F.out.1.all _ (getD_mem (by rw [← HL.out]; exact hlt))).a.keep hbd
        have hyo : AtOk w2.drew y.a := by rw [← hy]; exact (F.out.2.all _ (getD_mem (by rw [← HM.out]; exact hlt))).a.keep hbd
        have hxr : (L.map RtV.rt).getD i default = x.rt := by rw [getD_map_rt (by rw [← HL.out]; exact hlt), hx]
        have hyr : (M.map RtV.rt).getD i default = y.rt := by rw [getD_map_rt (by rw [← HM.out]; exact hlt), hy]
        have HC := rasame_any hxo hyo
        have hq := @rt_eq x y
        obtain ⟨bv, hbv⟩ : ∃ b, decide (x.rt = y.rt) = b := ⟨_, rfl⟩
        rw [hbv] at hq
        obtain ⟨b1', e1⟩ : ∃ b, (x.r == y.r) = b := ⟨_, rfl⟩
        obtain ⟨b2', e2⟩ : ∃ b, ((x.k.1 : Int) == (y.k.1 : Int)) = b := ⟨_, rfl⟩
        obtain ⟨b3', e3⟩ : ∃ b, (x.k.2 == y.k.2) = b := ⟨_, rfl⟩
        obtain ⟨b4', e4⟩ : ∃ b, (x.i == y.i) = b := ⟨_, rfl⟩
        obtain ⟨b5', hb5⟩ : ∃ b, decide (x.a.at = y.a.at) = b := ⟨_, rfl⟩
        rw [e1, e2, e3, e4, hb5] at hq
        rw [hb5] at HC
        unfold AtV.v at HC
        have HC := Lib.hid HC
        have HBV := Lib.hid (And.intro hbv hq)
        have K := Lib.hid (And.intro (show TwoR2 b0 (o0 + i * 10) b1 (o1 + i * 10) x y w2.drew from ⟨hat, hat1⟩) (And.intro hbd (And.intro hall (And.intro hxr hyr))))
        have hcase : b1' = false ∨ (b1' = true ∧ b2' = false) ∨ (b1' = true ∧ b2' = true ∧ b3' = false) ∨ (b1' = true ∧ b2' = true ∧ b3' = true ∧ b4' = false) ∨ (b1' = true ∧ b2' = true ∧ b3' = true ∧ b4' = true) := by
          cases b1' <;> cases b2' <;> cases b3' <;> cases b4' <;> simp
        clear hb hat hat1 hall hx hy hd hbb hbb1 hbd hxo hyo hxr hyr hq hbv hb5
        rcases hcase with rfl | ⟨rfl, rfl⟩ | ⟨rfl, rfl, rfl⟩ | ⟨rfl, rfl, rfl, rfl⟩ | ⟨rfl, rfl, rfl, rfl⟩
        rotate_right 1
        · go_wp2_with fail
          refine wp_region_heldP (TwoR2 b0 (o0 + i * 10) b1 (o1 + i * 10) x y) (by kernel_rfl) ?_
          generalize w2.drew = V at *
          refine held_reads [0, 1, 2, 3, 4, 5, 6, 7, 8, 9, 10, 11, 12, 13, 14, 15, 16, 17, 18, 19, 20, 21] (g := 3) rfl (by kernel_rfl) K.out.1 (fun _ _ d _ _ h => by cases d <;> exact h) ?_
          simp only [pick, List.getD_cons_zero, List.getD_cons_succ]
          iterate 4 ((with_reducible refine wpRead_step (fun K hK => ?_)); go_simp; first | (rw [if_neg (by decide)]; (with_reducible refine hK _ ?_); clear hK K) | ((with_reducible refine hK _ ?_); clear hK K) | (apply Exists.intro; (with_reducible refine ⟨fun w' hw' => ?_, hK _ ?_⟩); ((go_simp; first | exact rfl | exact ⟨rfl, rfl⟩)); clear hK K))
          with_reducible refine wpRead_yes ?_ ?_
          rotate_left
          rfl
          intro K hK
          refine read_load 62 _ rfl b0 (o0 + i * 10) #[.int .i64 x.r, .int .u32 (x.k.1 : Int), .int .i64 x.k.2, .int .i64 x.i] rfl (fun w' hw' => at_rangeK hw'.l) Tryz.underlying62 rfl (by kernel_rfl) (hK _ ?_)
          clear hK K
          iterate 4 ((with_reducible refine wpRead_step (fun K hK => ?_)); go_simp; first | (rw [if_neg (by decide)]; (with_reducible refine hK _ ?_); clear hK K) | ((with_reducible refine hK _ ?_); clear hK K) | (apply Exists.intro; (with_reducible refine ⟨fun w' hw' => ?_, hK _ ?_⟩); ((go_simp; first | exact rfl | exact ⟨rfl, rfl⟩)); clear hK K))
          with_reducible refine wpRead_yes ?_ ?_
          rotate_left
          rfl
          intro K hK
          refine read_load 62 _ rfl b1 (o1 + i * 10) #[.int .i64 y.r, .int .u32 (y.k.1 : Int), .int .i64 y.k.2, .int .i64 y.i] rfl (fun w' hw' => at_rangeK hw'.r) Tryz.underlying62 rfl (by kernel_rfl) (hK _ ?_)
          clear hK K
          iterate 6 ((with_reducible refine wpRead_step (fun K hK => ?_)); go_simp; first | (rw [if_neg (by decide)]; (with_reducible refine hK _ ?_); clear hK K) | ((with_reducible refine hK _ ?_); clear hK K) | (apply Exists.intro; (with_reducible refine ⟨fun w' hw' => ?_, hK _ ?_⟩); ((go_simp; first | exact rfl | exact ⟨rfl, rfl⟩)); clear hK K))
          with_reducible refine wpRead_yes ?_ ?_
          rotate_left
          rfl
          intro K hK
          refine read_load 40 _ rfl b0 (o0 + i * 10 + 4) #[.int .i64 x.a.o, .slice x.a.p.a x.a.p.n x.a.p.c, .int .u32 x.a.nx, .int .i64 x.a.md, .int .i64 x.a.pf, .slice x.a.c.a x.a.c.n x.a.c.c] rfl (fun w' hw' => at_rangeA hw'.l) Tryz.underlying40 rfl (by kernel_rfl) (hK _ ?_)
          clear hK K
          iterate 4 ((with_reducible refine wpRead_step (fun K hK => ?_)); go_simp; first | (rw [if_neg (by decide)]; (with_reducible refine hK _ ?_); clear hK K) | ((with_reducible refine hK _ ?_); clear hK K) | (apply Exists.intro; (with_reducible refine ⟨fun w' hw' => ?_, hK _ ?_⟩); ((go_simp; first | exact rfl | exact ⟨rfl, rfl⟩)); clear hK K))
          with_reducible refine wpRead_yes ?_ ?_
          rotate_left
          rfl
          intro K hK
          refine read_load 40 _ rfl b1 (o1 + i * 10 + 4) #[.int .i64 y.a.o, .slice y.a.p.a y.a.p.n y.a.p.c, .int .u32 y.a.nx, .int .i64 y.a.md, .int .i64 y.a.pf, .slice y.a.c.a y.a.c.n y.a.c.c] rfl (fun w' hw' => at_rangeA hw'.r) Tryz.underlying40 rfl (by kernel_rfl) (hK _ ?_)
          clear hK K
          with_reducible refine wpRead_nil ?_
          refine held_one 22 (by kernel_rfl) ?_
          simp only [pick, List.getD_cons_zero, List.getD_cons_succ]
          go_wp2_with fail
          refine (HC.out).mono ?_
          rintro e w5 ⟨rfl, hb5⟩
          have K5 := Lib.hid (And.intro (K.out.1.keep hb5) (bcall K.out.2.1 (Nat.le_refl _) hb5))
          clear hb5 HC
          go_wp2_with fail
          refine ⟨K5.out.1, ?_⟩
          cases b5' with
          | true =>
            refine held_reads [23, 24] (g := 0) rfl (by kernel_rfl) K5.out.1 (fun _ _ d _ _ h => by cases d <;> exact h) ?_
            simp only [pick, List.getD_cons_zero, List.getD_cons_succ]
            iterate 2 ((with_reducible refine wpRead_step (fun K hK => ?_)); go_simp; first | (rw [if_neg (by decide)]; (with_reducible refine hK _ ?_); clear hK K) | ((with_reducible refine hK _ ?_); clear hK K) | (apply Exists.intro; (with_reducible refine ⟨fun w' hw' => ?_, hK _ ?_⟩); ((go_simp; first | exact rfl | exact ⟨rfl, rfl⟩)); clear hK K))
            with_reducible refine wpRead_nil ?_
            refine wpAnyH_done (by kernel_rfl) ?_ _
            go_wp2_with fail
            exact ⟨⟨i + 1, hlt, by first | rw [hw3] | rw [Int.natCast_succ], fun j hj => (Nat.lt_succ_iff_lt_or_eq.1 hj).elim (K.out.2.2.1 j) (fun e => by rw [e, K.out.2.2.2.1, K.out.2.2.2.2]; exact of_decide_eq_true (HBV.out.1.trans HBV.out.2)), K5.out.2⟩, by first | (rw [hw3]; exact mSucc hlt) | (rw [← Int.natCast_succ]; exact mSucc hlt)⟩
          | false =>
            refine held_reads [23, 24] (g := 0) rfl (by kernel_rfl) K5.out.1 (fun _ _ d _ _ h => by cases d <;> exact h) ?_
            simp only [pick, List.getD_cons_zero, List.getD_cons_succ]
            iterate 2 ((with_reducible refine wpRead_step (fun K hK => ?_)); go_simp; first | (rw [if_neg (by decide)]; (with_reducible refine hK _ ?_); clear hK K) | ((with_reducible refine hK _ ?_); clear hK K) | (apply Exists.intro; (with_reducible refine ⟨fun w' hw' => ?_, hK _ ?_⟩); ((go_simp; first | exact rfl | exact ⟨rfl, rfl⟩)); clear hK K))
            with_reducible refine wpRead_nil ?_
            refine wpAnyH_done (by kernel_rfl) ?_ _
            go_wp2_with fail
            go_ret
            exact ⟨ret_bool (by
              rw [← HV.out]
              refine (decide_eq_false fun h => of_decide_eq_false (HBV.out.1.trans HBV.out.2) ?_).symm
              rw [← K.out.2.2.2.1, ← K.out.2.2.2.2, h]), K5.out.2⟩
        all_goals
          go_wp2_with fail
          refine wp_region_heldP (TwoR2 b0 (o0 + i * 10) b1 (o1 + i * 10) x y) (by kernel_rfl) ?_
          generalize w2.drew = V at *
          refine held_reads [0, 1, 2, 3, 4, 5, 6, 7, 8, 9, 10, 11, 12, 13, 14, 15, 16, 17, 18, 19, 20, 21, 22, 23, 24] (g := 0) rfl (by kernel_rfl) K.out.1 (fun _ _ d _ _ h => by cases d <;> exact h) ?_
          simp only [pick, List.getD_cons_zero, List.getD_cons_succ]
          iterate 4 ((with_reducible refine wpRead_step (fun K hK => ?_)); go_simp; first | (rw [if_neg (by decide)]; (with_reducible refine hK _ ?_); clear hK K) | ((with_reducible refine hK _ ?_); clear hK K) | (apply Exists.intro; (with_reducible refine ⟨fun w' hw' => ?_, hK _ ?_⟩); ((go_simp; first | exact rfl | exact ⟨rfl, rfl⟩)); clear hK K))
          with_reducible refine wpRead_yes ?_ ?_
          rotate_left
          rfl
          intro K hK
          refine read_load 62 _ rfl b0 (o0 + i * 10) #[.int .i64 x.r, .int .u32 (x.k.1 : Int), .int .i64 x.k.2, .int .i64 x.i] rfl (fun w' hw' => at_rangeK hw'.l) Tryz.underlying62 rfl (by kernel_rfl) (hK _ ?_)
          clear hK K
          iterate 4 ((with_reducible refine wpRead_step (fun K hK => ?_)); go_simp; first | (rw [if_neg (by decide)]; (with_reducible refine hK _ ?_); clear hK K) | ((with_reducible refine hK _ ?_); clear hK K) | (apply Exists.intro; (with_reducible refine ⟨fun w' hw' => ?_, hK _ ?_⟩); ((go_simp; first | exact rfl | exact ⟨rfl, rfl⟩)); clear hK K))
          with_reducible refine wpRead_yes ?_ ?_
          rotate_left
          rfl
          intro K hK
          refine read_load 62 _ rfl b1 (o1 + i * 10) #[.int .i64 y.r, .int .u32 (y.k.1 : Int), .int .i64 y.k.2, .int .i64 y.i] rfl (fun w' hw' => at_rangeK hw'.r) Tryz.underlying62 rfl (by kernel_rfl) (hK _ ?_)
          clear hK K
          iterate 15 ((with_reducible refine wpRead_step (fun K hK => ?_)); go_simp; first | (rw [if_neg (by decide)]; (with_reducible refine hK _ ?_); clear hK K) | ((with_reducible refine hK _ ?_); clear hK K) | (apply Exists.intro; (with_reducible refine ⟨fun w' hw' => ?_, hK _ ?_⟩); ((go_simp; first | exact rfl | exact ⟨rfl, rfl⟩)); clear hK K))
          with_reducible refine wpRead_nil ?_
          refine wpAnyH_done (by kernel_rfl) ?_ _
          go_wp2_with fail
          go_ret
          exact ⟨ret_bool (by
            rw [← HV.out]
            refine (decide_eq_false fun h => of_decide_eq_false (HBV.out.1.trans HBV.out.2) ?_).symm
            rw [← K.out.2.2.2.1, ← K.out.2.2.2.2, h]), K.out.2.1⟩
      · obtain rfl : n = i := by omega
        have hil : ((n : Int) < (n : Int)) = False := by simp
        have HB := Lib.hid (And.intro hb hall)
        clear hb hall
        go_wp2_with fail
        go_ret
        exact ⟨ret_bool (by rw [← HV.out]; exact (decide_eq_true (getD_ext (by rw [List.length_map, List.length_map]; exact HL.out.symm.trans HM.out) fun j hj => HB.out.2 j (by rw [HL.out]; simpa using hj))).symm), HB.out.1⟩
  · have e1 : ((n : Int) == (m : Int)) = false := by simpa using fun e : (n : Int) = m => hnm (by omega)
    have HV := Lib.hid (show decide (L.map RtV.rt = M.map RtV.rt) = false from decide_eq_false fun e => hnm (by
      have h1 : n = L.length := h.sl.len
      have h2 : m = M.length := k.sl.len
      have := congrArg List.length e
      rw [List.length_map, List.length_map] at this
      omega))
    generalize decide (L.map RtV.rt = M.map RtV.rt) = v at *
    clear h k hnm
    go_enter Tryz.func33, Tryz.ntmps33
    go_wp2_with fail
    go_ret
    exact ⟨ret_bool HV.out.symm, Below.refl _ _⟩
end Go.Proofs.YtadoflcomienoaaGreat

