/- Which attributes are the same, as the program tells. -/
import Derived.Test.YtadoflcomienoaaGreatZae
namespace Go.Proofs.YtadoflcomienoaaGreat
open Go.RowKit

theorem getD_map {α β : Type} [Inhabited α] [Inhabited β] {f : α → β} {L : List α} {i : Nat} (h : i < L.length) : (L.map f).getD i default = f (L.getD i default) := by
  simp [List.getD_eq_getElem?_getD, h]
set_option maxRecDepth 100000 in
theorem sameSg_any {w : World} {x y : SgV} (hx : SgOk w x) (hy : SgOk w y) : Calls Tryz.prog 96 #[x.v, y.v] w fun e w' => e = .returned (.bool (decide (x.sg = y.sg))) ∧ Below w.heap.size w w' := by
  have hb0 := ((Below.refl w.heap.size w).alloc (Nat.le_refl _) (.cells #[.bool x.set, .slice x.s.a x.s.n x.s.c] 134)).alloc (by simp) (.cells #[.bool y.set, .slice y.s.a y.s.n y.s.c] 134)
  have hX : BxS w.heap.size x ((w.alloc (.cells #[.bool x.set, .slice x.s.a x.s.n x.s.c] 134)).alloc (.cells #[.bool y.set, .slice y.s.a y.s.n y.s.c] 134)) := hold (hnew _ _)
  have hY : BxS (w.heap.size + 1) y ((w.alloc (.cells #[.bool x.set, .slice x.s.a x.s.n x.s.c] 134)).alloc (.cells #[.bool y.set, .slice y.s.a y.s.n y.s.c] 134)) := hnewAt (by simp)
  have hx' := hx.keep hb0
  have hy' := hy.keep hb0
  have HK := Lib.hid (equalI_any (c := x.s.c) (d := y.s.c) hx'.sl hy'.sl)
  obtain ⟨c0, c1⟩ := hX.cells
  obtain ⟨d0, d1⟩ := hY.cells
  have F0 := Lib.hid hb0
  obtain ⟨xs, x⟩ := x
  obtain ⟨ys, y⟩ := y
  obtain ⟨v, hv⟩ : ∃ v, decide ((⟨xs, x⟩ : SgV).sg = (⟨ys, y⟩ : SgV).sg) = v := ⟨_, rfl⟩
  rw [hv]
  have HV := Lib.hid (show v = (xs == ys && decide (x.l = y.l)) from by
    rw [← hv]
    unfold SgV.sg
    rw [Bool.eq_iff_iff]
    simp)
  unfold SgV.v
  dsimp only at *
  clear hv hb0 hX hY hx' hy' hx hy
  generalize decide (x.l = y.l) = dv at *
  cases xs <;> cases ys
  all_goals
    first
    | go_enter Tryz.func96, Tryz.ntmps96
      go_wp2_with fail
      go_ret
      exact ⟨ret_bool (by rw [HV.out]; rfl), F0.out⟩
    | go_enter Tryz.func96, Tryz.ntmps96
      go_wp2_with fail
      refine (HK.out).mono ?_
      rintro e w1 ⟨rfl, hb⟩
      have F1 := Lib.hid (bcall F0.out (Nat.le_refl _) hb)
      clear hb c0 c1 d0 d1 F0
      go_wp2_with fail
      go_ret
      exact ⟨ret_bool (by rw [HV.out]; rfl), F1.out⟩
set_option maxRecDepth 100000 in
set_option maxHeartbeats 2000000 in
theorem equalS_any {w : World} {oa ob : Option Addr} {n c m d : Nat} {L M : List SgV} (h : RSg.Sl w oa n c L) (k : RSg.Sl w ob m d M) (ho : ∀ x ∈ L, SgOk w x) (ko : ∀ x ∈ M, SgOk w x) : Calls Tryz.prog 95 #[.slice oa n c, .slice ob m d, .func (.func 96) #[] #[]] w fun e w' => e = .returned (.bool (decide (L.map SgV.sg = M.map SgV.sg))) ∧ Below w.heap.size w w' := by
  by_cases hnm : n = m
  · subst hnm
    have HL := Lib.hid h.len
    have HM := Lib.hid k.len
    have hmax := h.max
    have F := Lib.hid (And.intro h (And.intro k (And.intro ho ko)))
    obtain ⟨v, hv⟩ : ∃ v, decide (L.map SgV.sg = M.map SgV.sg) = v := ⟨_, rfl⟩
    rw [hv]
    have HV := Lib.hid hv
    have e0 : ((n : Int) == (n : Int)) = true := by simp
    clear h k hv ho ko
    go_enter Tryz.func95, Tryz.ntmps95
    go_wp2_with fail
    go_loopw [17] (fun iv wr => ∃ i : Nat, i ≤ n ∧ iv = .int .i64 i ∧ (∀ j, j < i → (L.getD j default).sg = (M.getD j default).sg) ∧ Below w.heap.size w wr) (fun iv _ => n - (intOf iv).toNat)
    case atStart => exact ⟨0, Nat.zero_le _, rfl, fun j hj => absurd hj (Nat.not_lt_zero _), Below.refl _ _⟩
    case round =>
      obtain ⟨i, hi, rfl, hall, hb⟩ := hrel
      obtain ⟨w2, rfl⟩ : ∃ w2 : World, w2 = wr := ⟨_, rfl⟩
      by_cases hlt : i < n
      · have hil : ((i : Int) < (n : Int)) = True := by simp; omega
        have hi0 : ((0 : Int) ≤ (i : Int)) = True := by simp
        have hw3 := wrapS hlt hmax
        obtain ⟨b0, o0, rfl, hbb, hat⟩ := (F.out.1.keep hb).at hlt
        obtain ⟨b1, o1, rfl, hbb1, hat1⟩ := (F.out.2.1.keep hb).at hlt
        have hx0 := (F.out.2.2.1 _ (getD_mem (M := L) (i := i) (by rw [← HL.out]; exact hlt))).keep hb
        have hy0 := (F.out.2.2.2 _ (getD_mem (M := M) (i := i) (by rw [← HM.out]; exact hlt))).keep hb
        obtain ⟨x, hx⟩ : ∃ x, L.getD i default = x := ⟨_, rfl⟩
        obtain ⟨y, hy⟩ : ∃ y, M.getD i default = y := ⟨_, rfl⟩
        rw [hx] at hat hx0
        rw [hy] at hat1 hy0
        have c0 := hat 0 (by decide)
        have c1 := hat 1 (by decide)
        simp only [RSg, Nat.add_zero, List.getElem?_cons_zero, List.getElem?_cons_succ] at c0 c1
        have K := Lib.hid (And.intro hat1 (And.intro hbb1 (And.intro hb (And.intro hall (And.intro hx (And.intro hy (And.intro hx0 hy0)))))))
        clear hb hat hat1 hall hx hy hx0 hy0 hbb hbb1
        go_wp2_with (with_reducible refine halt_store 134 rfl ?_)
        refine Halted.go ?_
        have hal := (Below.refl w2.heap.size w2).alloc (Nat.le_refl _) (.cells #[.bool false, .slice none 0 0] 134)
        refine store_whole rfl 134 _ _ rfl w2.heap.size #[.bool x.set, .slice x.s.a x.s.n x.s.c] rfl rfl (hnew _ _) rfl (by kernel_rfl) (by simp [Value.oneCell']) ?_
        intro wz hwz hsz
        have hzb : Below w2.heap.size w2 wz := Below.trans hal (hsz.below (Nat.le_refl _))
        have hzx : BxS w2.heap.size x wz := hwz
        have hat1 := K.out.1.keep (hzb.block _ K.out.2.1)
        have d0 := hat1 0 (by decide)
        have d1 := hat1 1 (by decide)
        simp only [RSg, Nat.add_zero, List.getElem?_cons_zero, List.getElem?_cons_succ] at d0 d1
        have HZ := Lib.hid (And.intro hzx (And.intro (bcall K.out.2.2.1 (Nat.le_refl _) hzb) (And.intro (K.out.2.2.2.2.2.2.1.keep hzb) (K.out.2.2.2.2.2.2.2.keep hzb))))
        clear hwz hsz hal hzb hzx hat1 c0 c1
        generalize w2.heap.size = q2 at *
        go_wp2_with (with_reducible refine halt_store 134 rfl ?_)
        refine Halted.go ?_
        have hal := (Below.refl wz.heap.size wz).alloc (Nat.le_refl _) (.cells #[.bool false, .slice none 0 0] 134)
        refine store_whole rfl 134 _ _ rfl wz.heap.size #[.bool y.set, .slice y.s.a y.s.n y.s.c] rfl rfl (hnew _ _) rfl (by kernel_rfl) (by simp [Value.oneCell']) ?_
        intro wy hwy hsy
        have hyb : Below wz.heap.size wz wy := Below.trans hal (hsy.below (Nat.le_refl _))
        have hyx : BxS wz.heap.size y wy := hwy
        obtain ⟨z0, z1⟩ := (HZ.out.1.keep hyb).cells
        obtain ⟨y0, y1⟩ := hyx.cells
        have HY := Lib.hid (And.intro (bcall HZ.out.2.1 (Nat.le_refl _) hyb) (And.intro (HZ.out.2.2.1.keep hyb) (HZ.out.2.2.2.keep hyb)))
        have HC := Lib.hid (sameSg_any HY.out.2.1 HY.out.2.2)
        unfold SgV.v at HC
        obtain ⟨bv, hbv⟩ : ∃ bv, decide (x.sg = y.sg) = bv := ⟨_, rfl⟩
        rw [hbv] at HC
        have HB := Lib.hid hbv
        clear hwy hsy hal hyb hyx d0 d1 hbv
        generalize wz.heap.size = q3 at *
        go_wp2_with fail
        refine (HC.out).mono ?_
        rintro e W3 ⟨rfl, hb3⟩
        have HB3 := Lib.hid (bcall HY.out.1 (Nat.le_refl _) hb3)
        clear hb3 HY z0 z1 y0 y1 HC
        cases bv with
        | true =>
          go_wp2_with fail
          exact ⟨⟨i + 1, hlt, by first | rw [hw3] | rw [Int.natCast_succ], fun j hj => (Nat.lt_succ_iff_lt_or_eq.1 hj).elim (K.out.2.2.2.1 j) (fun e => by rw [e, K.out.2.2.2.2.1, K.out.2.2.2.2.2.1]; exact of_decide_eq_true HB.out), HB3.out⟩, by first | (rw [hw3]; exact mSucc hlt) | (rw [← Int.natCast_succ]; exact mSucc hlt)⟩
        | false =>
          go_wp2_with fail
          go_ret
          exact ⟨ret_bool (by
            rw [← HV.out]
            refine (decide_eq_false fun h => of_decide_eq_false HB.out ?_).symm
            rw [← K.out.2.2.2.2.1, ← K.out.2.2.2.2.2.1, ← getD_map (f := SgV.sg), ← getD_map (f := SgV.sg), h]
            · rw [← HM.out]; exact hlt
            · rw [← HL.out]; exact hlt), HB3.out⟩
      · obtain rfl : n = i := by omega
        have hil : ((n : Int) < (n : Int)) = False := by simp
        have HB := Lib.hid (And.intro hb hall)
        clear hb hall
        go_wp2_with fail
        go_ret
        exact ⟨ret_bool (by
          rw [← HV.out]
          refine (decide_eq_true (getD_ext (by rw [List.length_map, List.length_map]; exact HL.out.symm.trans HM.out) fun j hj => ?_)).symm
          rw [List.length_map] at hj
          rw [getD_map hj, getD_map (by rw [← HM.out, HL.out]; exact hj)]
          exact HB.out.2 j (by rw [HL.out]; exact hj)), HB.out.1⟩
  · have e1 : ((n : Int) == (m : Int)) = false := by simpa using fun e : (n : Int) = m => hnm (by omega)
    have HV := Lib.hid (show decide (L.map SgV.sg = M.map SgV.sg) = false from decide_eq_false fun e => hnm (by rw [h.len, k.len]; simpa using congrArg List.length e))
    generalize decide (L.map SgV.sg = M.map SgV.sg) = v at *
    clear h k hnm ho ko
    go_enter Tryz.func95, Tryz.ntmps95
    go_wp2_with fail
    go_ret
    exact ⟨ret_bool HV.out.symm, Below.refl _ _⟩
theorem at_eq {x y : AtV} : decide (x.at = y.at) = (((x.o == y.o) && (x.nx == y.nx) && (x.md == y.md) && (x.pf == y.pf)) && (decide (x.c.l = y.c.l) && decide (x.p.l.map SgV.sg = y.p.l.map SgV.sg))) := by
  rw [Bool.eq_iff_iff]
  unfold AtV.at
  simp only [decide_eq_true_eq, At.mk.injEq, Bool.and_eq_true, beq_iff_eq]
  constructor
  · rintro ⟨h1, h2, h3, h4, h5, h6⟩; exact ⟨⟨⟨⟨h1, h3⟩, h4⟩, h5⟩, h6, h2⟩
  · rintro ⟨⟨⟨⟨h1, h3⟩, h4⟩, h5⟩, h6, h2⟩; exact ⟨h1, h2, h3, h4, h5, h6⟩
set_option maxRecDepth 100000 in
set_option maxHeartbeats 2000000 in
theorem asame_any {w : World} {x y : AtV} (hx : AtOk w x) (hy : AtOk w y) : Calls Tryz.prog 48 #[x.v, y.v] w fun e w' => e = .returned (.bool (decide (x.at = y.at))) ∧ Below w.heap.size w w' := by
  have hb0 := ((Below.refl w.heap.size w).alloc (Nat.le_refl _) (.cells #[.int .i64 x.o, .slice x.p.a x.p.n x.p.c, .int .u32 x.nx, .int .i64 x.md, .int .i64 x.pf, .slice x.c.a x.c.n x.c.c] 40)).alloc (by simp) (.cells #[.int .i64 y.o, .slice y.p.a y.p.n y.p.c, .int .u32 y.nx, .int .i64 y.md, .int .i64 y.pf, .slice y.c.a y.c.n y.c.c] 40)
  have hX : BxA w.heap.size x ((w.alloc (.cells #[.int .i64 x.o, .slice x.p.a x.p.n x.p.c, .int .u32 x.nx, .int .i64 x.md, .int .i64 x.pf, .slice x.c.a x.c.n x.c.c] 40)).alloc (.cells #[.int .i64 y.o, .slice y.p.a y.p.n y.p.c, .int .u32 y.nx, .int .i64 y.md, .int .i64 y.pf, .slice y.c.a y.c.n y.c.c] 40)) := hold (hnew _ _)
  have hY : BxA (w.heap.size + 1) y ((w.alloc (.cells #[.int .i64 x.o, .slice x.p.a x.p.n x.p.c, .int .u32 x.nx, .int .i64 x.md, .int .i64 x.pf, .slice x.c.a x.c.n x.c.c] 40)).alloc (.cells #[.int .i64 y.o, .slice y.p.a y.p.n y.p.c, .int .u32 y.nx, .int .i64 y.md, .int .i64 y.pf, .slice y.c.a y.c.n y.c.c] 40)) := hnewAt (by simp)
  have F0 := Lib.hid (And.intro hb0 (And.intro (And.intro hX hY) (And.intro (hx.keep hb0) (hy.keep hb0))))
  have HC := Lib.hid (equalI_any (c := x.c.c) (d := y.c.c) F0.out.2.2.1.c.sl F0.out.2.2.2.c.sl)
  obtain ⟨c0, c1, c2, c3, c4, c5⟩ := hX.cells
  obtain ⟨d0, d1, d2, d3, d4, d5⟩ := hY.cells
  obtain ⟨v, hv⟩ : ∃ v, decide (x.at = y.at) = v := ⟨_, rfl⟩
  rw [hv]
  have HV := Lib.hid (hv.symm.trans at_eq)
  clear hv hb0 hX hY hx hy
  obtain ⟨b1, e1⟩ : ∃ b, (x.o == y.o) = b := ⟨_, rfl⟩
  obtain ⟨b2, e2⟩ : ∃ b, (x.nx == y.nx) = b := ⟨_, rfl⟩
  obtain ⟨b3, e3⟩ : ∃ b, (x.md == y.md) = b := ⟨_, rfl⟩
  obtain ⟨b4, e4⟩ : ∃ b, (x.pf == y.pf) = b := ⟨_, rfl⟩
  rw [e1, e2, e3, e4] at HV
  obtain ⟨dc, hdc⟩ : ∃ b, decide (x.c.l = y.c.l) = b := ⟨_, rfl⟩
  rw [hdc] at HV HC
  clear hdc
  have hcase : b1 = false ∨ (b1 = true ∧ b2 = false) ∨ (b1 = true ∧ b2 = true ∧ b3 = false) ∨ (b1 = true ∧ b2 = true ∧ b3 = true ∧ b4 = false) ∨ (b1 = true ∧ b2 = true ∧ b3 = true ∧ b4 = true) := by
    cases b1 <;> cases b2 <;> cases b3 <;> cases b4 <;> simp
  unfold AtV.v
  rcases hcase with rfl | ⟨rfl, rfl⟩ | ⟨rfl, rfl, rfl⟩ | ⟨rfl, rfl, rfl, rfl⟩ | ⟨rfl, rfl, rfl, rfl⟩
  rotate_right 1
  · go_enter Tryz.func48, Tryz.ntmps48
    go_wp2_with fail
    refine (HC.out).mono ?_
    rintro e w1 ⟨rfl, hb⟩
    have F1 := Lib.hid (And.intro (bcall F0.out.1 (Nat.le_refl _) hb) (And.intro (And.intro (F0.out.2.1.1.keep hb) (F0.out.2.1.2.keep hb)) (And.intro (F0.out.2.2.1.keep hb) (F0.out.2.2.2.keep hb))))
    clear hb c0 c1 c2 c3 c4 c5 d0 d1 d2 d3 d4 d5 F0 HC
    cases dc with
    | false =>
      go_wp2_with fail
      go_ret
      exact ⟨ret_bool (by rw [HV.out]; rfl), F1.out.1⟩
    | true =>
      have HP := Lib.hid (equalS_any (c := x.p.c) (d := y.p.c) F1.out.2.2.1.p.sl F1.out.2.2.2.p.sl F1.out.2.2.1.p.all F1.out.2.2.2.p.all)
      obtain ⟨dp, hdp⟩ : ∃ b, decide (x.p.l.map SgV.sg = y.p.l.map SgV.sg) = b := ⟨_, rfl⟩
      rw [hdp] at HV HP
      clear hdp
      obtain ⟨c0, c1, c2, c3, c4, c5⟩ := F1.out.2.1.1.cells
      obtain ⟨d0, d1, d2, d3, d4, d5⟩ := F1.out.2.1.2.cells
      go_wp2_with fail
      refine (HP.out).mono ?_
      rintro e w2 ⟨rfl, hb⟩
      have F2 := Lib.hid (bcall F1.out.1 (Nat.le_refl _) hb)
      clear hb c0 c1 c2 c3 c4 c5 d0 d1 d2 d3 d4 d5 F1 HP
      go_wp2_with fail
      go_ret
      exact ⟨ret_bool (by rw [HV.out]; rfl), F2.out⟩
  all_goals
    go_enter Tryz.func48, Tryz.ntmps48
    go_wp2_with fail
    go_ret
    exact ⟨ret_bool (by rw [HV.out]; rfl), F0.out.1⟩
end Go.Proofs.YtadoflcomienoaaGreat

