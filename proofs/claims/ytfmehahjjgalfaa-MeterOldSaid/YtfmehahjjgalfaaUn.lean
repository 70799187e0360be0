/- MeterOld: the law's walk. -/
import Derived.Test.YtfmehahjjgalfaaUm
import Derived.Test.YtfmehahjjgalfaaOp
import Derived.Test.YtfmehahjjgalfaaRl
namespace Go.Proofs.Ytfmehahjjgalfaa.Me
open Go.RowKit

structure OpM where
  src : Int
  seq : Int
  s : SlV Ct
  now : Int
instance : Inhabited OpM := ⟨⟨0, 0, ⟨none, 0, 0, []⟩, 0⟩⟩
def ROpM : Rep OpM := ⟨89, 4, by decide, fun y => [.int .i64 y.src, .int .i64 y.seq, .slice y.s.a y.s.n y.s.c, .int .i64 y.now], fun _ => rfl, fun _ => rfl⟩
def OpIn (w : World) (y : OpM) : Prop := Cts w y.s.a y.s.n y.s.c y.s.l
structure OpsM (w : World) (oa : Option Addr) (n c : Nat) (l : List OpM) : Prop where
  sl : ROpM.Sl w oa n c l
  ok : ∀ y ∈ l, OpIn w y
theorem OpsM.keep {w w' : World} {oa : Option Addr} {n c : Nat} {l : List OpM} (h : OpsM w oa n c l) (hb : Below w.heap.size w w') : OpsM w' oa n c l := ⟨h.sl.keep hb, fun y hy => (h.ok y hy).keep hb⟩
def OpB (q : Nat) (y : OpM) (w : World) : Prop := w.heap[q]? = some (.cells #[.int .i64 y.src, .int .i64 y.seq, .slice y.s.a y.s.n y.s.c, .int .i64 y.now] 89)
theorem OpB.cells {q : Nat} {y : OpM} {w : World} (h : OpB q y w) : w.cell? ⟨q, 0, none⟩ = some (.int .i64 y.src) ∧ w.cell? ⟨q, 1, none⟩ = some (.int .i64 y.seq) ∧ w.cell? ⟨q, 2, none⟩ = some (.slice y.s.a y.s.n y.s.c) ∧ w.cell? ⟨q, 3, none⟩ = some (.int .i64 y.now) := ⟨cell_of h rfl, cell_of h rfl, cell_of h rfl, cell_of h rfl⟩
theorem OpB.keep {q : Nat} {y : OpM} {w w' : World} (h : OpB q y w) (hb : Below w.heap.size w w') : OpB q y w' := (hb.block _ (lt_of_blk h)).trans h
theorem OpB.but {q m : Nat} {y : OpM} {w w' : World} (h : OpB q y w) (hb : But w w' [m]) (hne : q ≠ m) : OpB q y w' := (hb.block _ (lt_of_blk h) (by simpa using hne)).trans h
def RdO (b o : Nat) (y : OpM) (w : World) : Prop := ROpM.At w b o y
set_option maxRecDepth 100000 in
set_option maxHeartbeats 8000000 in
theorem mold_law {w : World} {oa : Option Addr} {n cn : Nat} {l : List OpM} (hl : OpsM w oa n cn l) {y : OpM} (hy : OpIn w y) : Calls Try.prog 12 #[.slice oa n cn, .agg #[.int .i64 y.src, .int .i64 y.seq, .slice y.s.a y.s.n y.s.c, .int .i64 y.now]] w fun e w' => e = .returned (.bool true) ∧ Below w.heap.size w w' := by
  have hal := (Below.refl w.heap.size w).alloc (Nat.le_refl _) (.cells #[.int .i64 y.src, .int .i64 y.seq, .slice y.s.a y.s.n y.s.c, .int .i64 y.now] 89)
  have hks : OpB w.heap.size y (w.alloc (.cells #[.int .i64 y.src, .int .i64 y.seq, .slice y.s.a y.s.n y.s.c, .int .i64 y.now] 89)) := hnew _ _
  have hmax : n ≤ maxLen := hl.sl.max
  have F := Lib.hid (And.intro hal hks)
  have HL := Lib.hid (And.intro hl hy)
  obtain ⟨z0, z1, z2, z3⟩ := hks.cells
  clear hal hks hl hy
  by_cases hbad : 30 < n ∨ 100 < y.s.n
  · have hways : ((30 : Int) < (n : Int)) = True ∨ (((30 : Int) < (n : Int)) = False ∧ ((100 : Int) < (y.s.n : Int)) = True) := by
      by_cases h : 30 < n
      · exact .inl (by simp; omega)
      · exact .inr ⟨by simp; omega, by simp; omega⟩
    clear hbad
    rcases hways with h1 | ⟨h1, h2⟩
    all_goals
      go_enter Try.func12, Try.ntmps12
      go_wp2_with fail
      obtain ⟨q, hq⟩ : ∃ q, w.heap.size = q := ⟨_, rfl⟩
      obtain ⟨W0, hW0⟩ : ∃ W, w.alloc (.cells #[.int .i64 y.src, .int .i64 y.seq, .slice y.s.a y.s.n y.s.c, .int .i64 y.now] 89) = W := ⟨_, rfl⟩
      have F1 := Lib.hid (show Below w.heap.size w W0 ∧ OpB q y W0 from hq ▸ hW0 ▸ F.out)
      rw [hW0, hq]
      rw [hW0, hq] at z0 z1 z2 z3
      clear hW0 hq F
      refine (mnew_any _).mono ?_
      rintro e W1 ⟨rfl, hT, hb⟩
      have HQM := Lib.hid (And.intro (show q ≠ W0.heap.size from Nat.ne_of_lt (lt_of_blk F1.out.2)) F1.out.1.size)
      have F2 := Lib.hid (And.intro (bcall F1.out.1 (Nat.le_refl _) hb) (And.intro (show MetAt W1 W0.heap.size X0 from hT) (F1.out.2.keep hb)))
      clear hT hb F1 z0 z1 z2 z3
      generalize W0.heap.size = m at *
      go_wp2_with fail
      refine (lives17 _).mono ?_
      rintro e W2 ⟨rfl, hb⟩
      have F3 := Lib.hid (And.intro (bcall F2.out.1 (Nat.le_refl _) hb) (And.intro (F2.out.2.1.keep hb) (F2.out.2.2.keep hb)))
      clear hb F2
      obtain ⟨z0, z1, z2, z3⟩ := F3.out.2.2.cells
      go_wp2_with fail
      refine (lives17 _).mono ?_
      rintro e W3 ⟨rfl, hb⟩
      have F4 := Lib.hid (bcall F3.out.1 (Nat.le_refl _) hb)
      clear hb
      go_wp2_with fail
      go_ret
      exact ⟨rfl, F4.out⟩
  have h1 : ((30 : Int) < (n : Int)) = False := by simp; omega
  have h2 : ((100 : Int) < (y.s.n : Int)) = False := by simp; omega
  clear hbad
  go_enter Try.func12, Try.ntmps12
  go_wp2_with fail
  obtain ⟨q, hq⟩ : ∃ q, w.heap.size = q := ⟨_, rfl⟩
  obtain ⟨W0, hW0⟩ : ∃ W, w.alloc (.cells #[.int .i64 y.src, .int .i64 y.seq, .slice y.s.a y.s.n y.s.c, .int .i64 y.now] 89) = W := ⟨_, rfl⟩
  have F1 := Lib.hid (show Below w.heap.size w W0 ∧ OpB q y W0 from hq ▸ hW0 ▸ F.out)
  rw [hW0, hq]
  rw [hW0, hq] at z0 z1 z2 z3
  clear hW0 hq F
  refine (mnew_any _).mono ?_
  rintro e W1 ⟨rfl, hT, hb⟩
  have HQM := Lib.hid (And.intro (show q ≠ W0.heap.size from Nat.ne_of_lt (lt_of_blk F1.out.2)) F1.out.1.size)
  have F2 := Lib.hid (And.intro (bcall F1.out.1 (Nat.le_refl _) hb) (And.intro (show MetAt W1 W0.heap.size X0 from hT) (F1.out.2.keep hb)))
  clear hT hb F1 z0 z1 z2 z3
  generalize W0.heap.size = m at *
  go_wp2_with fail
  refine (lives17 _).mono ?_
  rintro e W2 ⟨rfl, hb⟩
  have F3 := Lib.hid (And.intro (bcall F2.out.1 (Nat.le_refl _) hb) (And.intro (F2.out.2.1.keep hb) (F2.out.2.2.keep hb)))
  clear hb F2
  obtain ⟨z0, z1, z2, z3⟩ := F3.out.2.2.cells
  go_wp2_with fail
  clear z0 z1 z2 z3 h1 h2
  go_loopw [6] (fun iv wr => ∃ (i : Nat) (X : Nat → Src), i ≤ n ∧ iv = .int .i64 i ∧ MetAt wr m X ∧ OpB q y wr ∧ Below w.heap.size w wr) (fun iv _ => n - (intOf iv).toNat)
  case atStart => exact ⟨0, X0, Nat.zero_le _, rfl, F3.out.2.1, F3.out.2.2, F3.out.1⟩
  case round =>
    obtain ⟨i, X, hi, rfl, hmet, hop, hb⟩ := hrel
    obtain ⟨w2, rfl⟩ : ∃ w2 : World, w2 = wr := ⟨_, rfl⟩
    clear F3
    by_cases hlt : i < n
    · have hil : ((i : Int) < (n : Int)) = True := by simp; omega
      have hi0 : ((0 : Int) ≤ (i : Int)) = True := by simp
      have hw3 := wrapS hlt hmax
      have hgm : l.getD i default ∈ l := getD_mem (by rw [← HL.out.1.sl.len]; exact hlt)
      have hin := HL.out.1.ok _ hgm
      obtain ⟨b, o, hbo, hrow⟩ := HL.out.1.sl.row (by omega)
      subst hbo
      have hat := (hrow.below hb).get i (by rw [← HL.out.1.sl.len]; exact hlt)
      generalize l.getD i default = x at *
      have HX := Lib.hid (And.intro (hin.keep hb) (And.intro hat (And.intro hmet (And.intro hop (And.intro hb hrow.lt)))))
      have y0 := hat 0 (by decide)
      have y1 := hat 1 (by decide)
      have y2 := hat 2 (by decide)
      have y3 := hat 3 (by decide)
      simp only [ROpM, Nat.add_zero, List.getElem?_cons_zero, List.getElem?_cons_succ] at y0 y1 y2 y3
      clear hgm hin hrow hat hmet hop hb
      by_cases h100 : 100 < x.s.n
      · have h1t : ((100 : Int) < (x.s.n : Int)) = True := by simp; omega
        have F4 := Lib.hid HX.out.2.2.2.2.1
        clear h100
        go_wp2_with fail
        go_ret
        exact ⟨rfl, F4.out⟩
      · have h1t : ((100 : Int) < (x.s.n : Int)) = False := by simp; omega
        clear h100
        go_wp2_with fail
        clear y0 y1 y2 y3
        refine wp_region_heldP (RdO b (o + i * 4) x) (by kernel_rfl) ?_
        have hd := (Below.refl w2.heap.size w2).drew
        have hbk : w2.drew.heap[b]? = w2.heap[b]? := rfl
        have HX2 := Lib.hid (And.intro (Cts.keep HX.out.1 hd) (And.intro (show RdO b (o + i * 4) x w2.drew from HX.out.2.1.keep hbk) (And.intro (HX.out.2.2.1.keep hd) (And.intro (HX.out.2.2.2.1.keep hd) (bcall HX.out.2.2.2.2.1 (Nat.le_refl _) hd)))))
        clear hd hbk
        generalize w2.drew = V at *
        refine held_reads [0, 1, 2, 3, 4, 5, 6, 7, 8, 9, 10] (g := 1) rfl (by kernel_rfl) HX2.out.2.1 (fun _ _ d _ _ h => by cases d <;> exact h) ?_
        simp only [pick, List.getD_cons_zero, List.getD_cons_succ]
        ((with_reducible refine wpRead_step (fun K hK => ?_)); go_simp; first | ((with_reducible refine hK _ ?_); clear hK K) | (apply Exists.intro; (with_reducible refine ⟨fun w' hw' => ?_, hK _ ?_⟩); (first | exact rfl | exact ⟨rfl, rfl⟩); clear hK K))
        ((with_reducible refine wpRead_step (fun K hK => ?_)); go_simp; first | ((with_reducible refine hK _ ?_); clear hK K) | (apply Exists.intro; (with_reducible refine ⟨fun w' hw' => ?_, hK _ ?_⟩); (first | exact rfl | exact ⟨rfl, rfl⟩); clear hK K))
        ((with_reducible refine wpRead_step (fun K hK => ?_)); go_simp; first | ((with_reducible refine hK _ ?_); clear hK K) | (apply Exists.intro; (with_reducible refine ⟨fun w' hw' => ?_, hK _ ?_⟩); (first | exact rfl | exact ⟨rfl, rfl⟩); clear hK K))
        ((with_reducible refine wpRead_step (fun K hK => ?_)); go_simp; first | ((with_reducible refine hK _ ?_); clear hK K) | (apply Exists.intro; (with_reducible refine ⟨fun w' hw' => ?_, hK _ ?_⟩); (first | exact rfl | exact ⟨rfl, rfl⟩); clear hK K))
        ((with_reducible refine wpRead_step (fun K hK => ?_)); go_simp; first | ((with_reducible refine hK _ ?_); clear hK K) | (apply Exists.intro; (with_reducible refine ⟨fun w' hw' => ?_, hK _ ?_⟩); (first | exact rfl | exact ⟨rfl, rfl⟩); clear hK K))
        ((with_reducible refine wpRead_step (fun K hK => ?_)); go_simp; first | ((with_reducible refine hK _ ?_); clear hK K) | (apply Exists.intro; (with_reducible refine ⟨fun w' hw' => ?_, hK _ ?_⟩); ((have f0 := hw' 0 (by decide); have f1 := hw' 1 (by decide); have f2 := hw' 2 (by decide); have f3 := hw' 3 (by decide); simp only [ROpM, Nat.add_zero, List.getElem?_cons_zero, List.getElem?_cons_succ] at f0 f1 f2 f3; go_simp; first | exact rfl | exact ⟨rfl, rfl⟩)); clear hK K))
        ((with_reducible refine wpRead_step (fun K hK => ?_)); go_simp; first | ((with_reducible refine hK _ ?_); clear hK K) | (apply Exists.intro; (with_reducible refine ⟨fun w' hw' => ?_, hK _ ?_⟩); (first | exact rfl | exact ⟨rfl, rfl⟩); clear hK K))
        ((with_reducible refine wpRead_step (fun K hK => ?_)); go_simp; first | ((with_reducible refine hK _ ?_); clear hK K) | (apply Exists.intro; (with_reducible refine ⟨fun w' hw' => ?_, hK _ ?_⟩); (first | exact rfl | exact ⟨rfl, rfl⟩); clear hK K))
        ((with_reducible refine wpRead_step (fun K hK => ?_)); go_simp; first | ((with_reducible refine hK _ ?_); clear hK K) | (apply Exists.intro; (with_reducible refine ⟨fun w' hw' => ?_, hK _ ?_⟩); (first | exact rfl | exact ⟨rfl, rfl⟩); clear hK K))
        ((with_reducible refine wpRead_step (fun K hK => ?_)); go_simp; first | ((with_reducible refine hK _ ?_); clear hK K) | (apply Exists.intro; (with_reducible refine ⟨fun w' hw' => ?_, hK _ ?_⟩); (first | exact rfl | exact ⟨rfl, rfl⟩); clear hK K))
        ((with_reducible refine wpRead_step (fun K hK => ?_)); go_simp; first | ((with_reducible refine hK _ ?_); clear hK K) | (apply Exists.intro; (with_reducible refine ⟨fun w' hw' => ?_, hK _ ?_⟩); ((have f0 := hw' 0 (by decide); have f1 := hw' 1 (by decide); have f2 := hw' 2 (by decide); have f3 := hw' 3 (by decide); simp only [ROpM, Nat.add_zero, List.getElem?_cons_zero, List.getElem?_cons_succ] at f0 f1 f2 f3; go_simp; first | exact rfl | exact ⟨rfl, rfl⟩)); clear hK K))
        with_reducible refine wpRead_nil ?_
        have hg := take_any HX2.out.2.2.1 HX2.out.1 x.src x.seq x.now
        have HG := Lib.hid hg
        clear hg
        generalize takeE X x.src x.seq x.s.l x.now = tv at *
        refine held_one 11 (by kernel_rfl) ?_
        simp only [pick, List.getD_cons_zero, List.getD_cons_succ]
        go_wp2_with fail
        refine HG.out.mono ?_
        rintro e V2 ⟨rfl, hs⟩
        have F4 := Lib.hid (show ∃ Y, MetAt V2 m Y ∧ OpB q y V2 ∧ Below w.heap.size w V2 ∧ RdO b (o + i * 4) x V2 from ⟨_, hs.met, HX2.out.2.2.2.1.but hs.but HQM.out.1, Below.step HX2.out.2.2.2.2 HX2.out.2.2.2.2.size hs.but (by simp; exact HQM.out.2), HX2.out.2.1.keep (hs.but.block _ (Nat.lt_of_lt_of_le HX.out.2.2.2.2.2 HX2.out.2.2.2.2.size) (by simp; have := HX.out.2.2.2.2.2; have := HQM.out.2; omega))⟩)
        clear hs HG
        go_wp2_with fail
        obtain ⟨Y, g1, g2, g3, g4⟩ := F4.out
        refine ⟨g4, ?_⟩
        refine wpAnyH_done (by kernel_rfl) ?_ _
        go_wp2_with fail
        exact ⟨⟨i + 1, Y, hlt, by first | rw [hw3] | rw [Int.natCast_succ], g1, g2, g3⟩, by first | (rw [hw3]; exact mSucc hlt) | (rw [← Int.natCast_succ]; exact mSucc hlt)⟩
    · obtain rfl : n = i := by omega
      have hil : ((n : Int) < (n : Int)) = False := by simp
      have G := Lib.hid (And.intro hb (And.intro hmet (And.intro hop (HL.out.2.keep hb))))
      clear hb hmet hop
      go_wp2_with fail
      refine (demands_any G.out.2.1).mono ?_
      rintro e W3 ⟨v, M, rfl, hr⟩
      obtain ⟨ow, cw, rfl, -, -⟩ := hr.own.sl0
      obtain ⟨k1, hk1⟩ : ∃ k1, M.length = k1 := ⟨_, rfl⟩
      have hown := hr.own
      rw [hk1] at hown ⊢
      have F4 := Lib.hid (And.intro (bcall G.out.1 (Nat.le_refl _) hr.bel) (And.intro (G.out.2.1.keep hr.bel) (And.intro (G.out.2.2.1.keep hr.bel) (And.intro (G.out.2.2.2.keep hr.bel) (And.intro hown hr.dem)))))
      have HMB := Lib.hid (show m < w2.heap.size from G.out.2.1.lt)
      clear hr hown hk1 G
      obtain ⟨z0, z1, z2, z3⟩ := F4.out.2.2.1.cells
      go_wp2_with fail
      have hg := stamp_any F4.out.2.1 y.src
      refine hg.mono ?_
      rintro e W5 ⟨rfl, hw5⟩
      subst hw5
      clear hg
      obtain ⟨sv, hsv⟩ : ∃ sv, stampV X y.src = sv := ⟨_, rfl⟩
      obtain ⟨sb, hsb⟩ : ∃ sb, stampB X y.src = sb := ⟨_, rfl⟩
      rw [hsv, hsb]
      have HSV := Lib.hid (And.intro hsv hsb)
      clear hsv hsb
      go_wp2_with fail
      have hg := take_any F4.out.2.1 F4.out.2.2.2.1 y.src y.seq y.now
      by_cases hE : takeE X y.src y.seq y.s.l y.now = 0
      · rw [hE] at hg
        refine hg.mono ?_
        rintro e W6 ⟨rfl, hs⟩
        have F5 := Lib.hid (Below.step F4.out.1 F4.out.1.size hs.but (by simp; exact HQM.out.2))
        clear hg hs hE z0 z1 z2 z3
        go_wp2_with fail
        go_ret
        exact ⟨rfl, F5.out⟩
      · rw [takeX_no hE] at hg
        have hk0 : (takeE X y.src y.seq y.s.l y.now == 0) = false := by simpa using hE
        generalize takeE X y.src y.seq y.s.l y.now = tv at *
        refine hg.mono ?_
        rintro e W6 ⟨rfl, hs⟩
        have F5 := Lib.hid (And.intro (Below.step F4.out.1 F4.out.1.size hs.but (by simp; exact HQM.out.2)) (And.intro hs.met (And.intro (F4.out.2.2.1.but hs.but HQM.out.1) (And.intro (Rep.Own.but F4.out.2.2.2.2.1 hs.but (by simp; exact HMB.out)) F4.out.2.2.2.2.2))))
        clear hg hs hE z0 z1 z2 z3 F4
        obtain ⟨z0, z1, z2, z3⟩ := F5.out.2.2.1.cells
        go_wp2_with fail
        have hg := stamp_any F5.out.2.1 y.src
        rw [HSV.out.1, HSV.out.2] at hg
        refine hg.mono ?_
        rintro e W7 ⟨rfl, hw7⟩
        subst hw7
        clear hg z0 z1 z2 z3
        go_wp2_with fail
        refine (demands_any F5.out.2.1).mono ?_
        rintro e W8 ⟨v2, M2, rfl, hr⟩
        have hown2 := hr.own
        rw [hr.dem.one F5.out.2.2.2.2] at hown2
        obtain ⟨ou, cu, rfl, hsu, -⟩ := hown2.sl0
        have hown := F5.out.2.2.2.1.below hr.bel
        obtain ⟨ow', cw', ee, hsw, -⟩ := hown.sl0
        injection ee with e1 e2 e3
        subst e1 e3
        rw [← e2] at hsu hsw ⊢
        have F6 := Lib.hid (And.intro (bcall F5.out.1 (Nat.le_refl _) hr.bel) (And.intro hsw hsu))
        clear hr hown hown2 hsu hsw e2 F5
        go_wp2_with fail
        refine (same17 F6.out.2.1 F6.out.2.2).mono ?_
        rintro e W9 ⟨rfl, hb⟩
        have F7 := Lib.hid (bcall F6.out.1 (Nat.le_refl _) hb)
        clear hb F6
        have hss : (sv == sv) = true := by simp
        have hbb : (sb == sb) = true := by simp
        go_wp2_with fail
        go_ret
        exact ⟨rfl, F7.out⟩
end Go.Proofs.Ytfmehahjjgalfaa.Me
