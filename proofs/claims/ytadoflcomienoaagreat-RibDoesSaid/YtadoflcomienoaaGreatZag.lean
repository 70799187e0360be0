/- Which attributes are the same, and which are too large, as the reference tells. -/
import Derived.Test.YtadoflcomienoaaGreatZaf
namespace Go.Proofs.YtadoflcomienoaaGreat
open Go.RowKit

/-- cells, all in a world -/
def Cs : List (Addr × Value) → World → Prop
  | [], _ => True
  | p :: l, W => W.cell? p.1 = some p.2 ∧ Cs l W
theorem Cs.keep {W W' : World} (hb : Below W.heap.size W W') : ∀ {l : List (Addr × Value)}, Cs l W → Cs l W'
  | [], _ => trivial
  | p :: _, h => ⟨(hb.cell (p := p.1) (World.block_lt_of_cell? _ _ h.1)).trans h.1, Cs.keep hb h.2⟩
set_option maxRecDepth 100000 in
set_option maxHeartbeats 4000000 in
theorem rasame_any {w : World} {x y : AtV} (hx : AtOk w x) (hy : AtOk w y) : Calls Tryz.prog 29 #[x.v, y.v] w fun e w' => e = .returned (.bool (decide (x.at = y.at))) ∧ Below w.heap.size w w' := by
  have hb0 := ((Below.refl w.heap.size w).alloc (Nat.le_refl _) (.cells #[.int .i64 x.o, .slice x.p.a x.p.n x.p.c, .int .u32 x.nx, .int .i64 x.md, .int .i64 x.pf, .slice x.c.a x.c.n x.c.c] 40)).alloc (by simp) (.cells #[.int .i64 y.o, .slice y.p.a y.p.n y.p.c, .int .u32 y.nx, .int .i64 y.md, .int .i64 y.pf, .slice y.c.a y.c.n y.c.c] 40)
  have hX : BxA w.heap.size x ((w.alloc (.cells #[.int .i64 x.o, .slice x.p.a x.p.n x.p.c, .int .u32 x.nx, .int .i64 x.md, .int .i64 x.pf, .slice x.c.a x.c.n x.c.c] 40)).alloc (.cells #[.int .i64 y.o, .slice y.p.a y.p.n y.p.c, .int .u32 y.nx, .int .i64 y.md, .int .i64 y.pf, .slice y.c.a y.c.n y.c.c] 40)) := hold (hnew _ _)
  have hY : BxA (w.heap.size + 1) y ((w.alloc (.cells #[.int .i64 x.o, .slice x.p.a x.p.n x.p.c, .int .u32 x.nx, .int .i64 x.md, .int .i64 x.pf, .slice x.c.a x.c.n x.c.c] 40)).alloc (.cells #[.int .i64 y.o, .slice y.p.a y.p.n y.p.c, .int .u32 y.nx, .int .i64 y.md, .int .i64 y.pf, .slice y.c.a y.c.n y.c.c] 40)) := hnewAt (by simp)
  have F0 := Lib.hid (And.intro hb0 (And.intro (And.intro hX hY) (And.intro (hx.keep hb0) (hy.keep hb0))))
  have HC := Lib.hid (rsame_ints (c := x.c.c) (d := y.c.c) F0.out.2.2.1.c.sl F0.out.2.2.2.c.sl)
  obtain ⟨c0, c1, c2, c3, c4, c5⟩ := hX.cells
  obtain ⟨d0, d1, d2, d3, d4, d5⟩ := hY.cells
  obtain ⟨v, hv⟩ : ∃ v, decide (x.at = y.at) = v := ⟨_, rfl⟩
  rw [hv]
  have HV := Lib.hid (hv.symm.trans at_eq)
  have hmax := hx.p.sl.max
  clear hv hb0 hX hY hx hy
  obtain ⟨b1, e1⟩ : ∃ b, (x.o == y.o) = b := ⟨_, rfl⟩
  obtain ⟨b2, e2⟩ : ∃ b, (x.nx == y.nx) = b := ⟨_, rfl⟩
  obtain ⟨b3, e3⟩ : ∃ b, (x.md == y.md) = b := ⟨_, rfl⟩
  obtain ⟨b4, e4⟩ : ∃ b, (x.pf == y.pf) = b := ⟨_, rfl⟩
  rw [e1, e2, e3, e4] at HV
  have n1 : (x.o != y.o) = !b1 := by rw [bne, e1]
  have n2 : (x.nx != y.nx) = !b2 := by rw [bne, e2]
  have n3 : (x.md != y.md) = !b3 := by rw [bne, e3]
  have n4 : (x.pf != y.pf) = !b4 := by rw [bne, e4]
  obtain ⟨dc, hdc⟩ : ∃ b, decide (x.c.l = y.c.l) = b := ⟨_, rfl⟩
  rw [hdc] at HV HC
  clear hdc
  have hcase : b1 = false ∨ (b1 = true ∧ b2 = false) ∨ (b1 = true ∧ b2 = true ∧ b3 = false) ∨ (b1 = true ∧ b2 = true ∧ b3 = true ∧ b4 = false) ∨ (b1 = true ∧ b2 = true ∧ b3 = true ∧ b4 = true) := by
    cases b1 <;> cases b2 <;> cases b3 <;> cases b4 <;> simp
  unfold AtV.v
  rcases hcase with rfl | ⟨rfl, rfl⟩ | ⟨rfl, rfl, rfl⟩ | ⟨rfl, rfl, rfl, rfl⟩ | ⟨rfl, rfl, rfl, rfl⟩
  all_goals
    (try simp only [Bool.not_true, Bool.not_false] at n1)
    (try simp only [Bool.not_true, Bool.not_false] at n2)
    (try simp only [Bool.not_true, Bool.not_false] at n3)
    (try simp only [Bool.not_true, Bool.not_false] at n4)
  rotate_right 1
  · go_enter Tryz.func29, Tryz.ntmps29
    go_wp2_with fail
    refine (HC.out).mono ?_
    rintro e w1 ⟨rfl, hb⟩
    have F1 := Lib.hid (And.intro (bcall F0.out.1 (Nat.le_refl _) hb) (And.intro (And.intro (F0.out.2.1.1.keep hb) (F0.out.2.1.2.keep hb)) (And.intro (F0.out.2.2.1.keep hb) (F0.out.2.2.2.keep hb))))
    clear hb c0 c1 c2 c3 c4 c5 d0 d1 d2 d3 d4 d5 F0 HC
    cases dc with
    | false =>
      go_wp2_with fail
      go_ret
      exact ⟨ret_bool (by rw [HV.out]; rfl), F1.out.1⟩
    | true =>
      obtain ⟨-, c1, -⟩ := F1.out.2.1.1.cells
      obtain ⟨-, d1, -⟩ := F1.out.2.1.2.cells
      have HL := Lib.hid F1.out.2.2.1.p.sl.len
      have HM := Lib.hid F1.out.2.2.2.p.sl.len
      by_cases hnm : x.p.n = y.p.n
      · have e5 : ((x.p.n : Int) == (y.p.n : Int)) = true := by simp [hnm]
        have n5 : ((x.p.n : Int) != (y.p.n : Int)) = false := by rw [bne, e5]; rfl
        have HNM := Lib.hid hnm
        clear hnm
        go_wp2_with fail
        go_loopw [5] (fun iv wr => ∃ i : Nat, i ≤ x.p.n ∧ iv = .int .i64 i ∧ (∀ j, j < i → (x.p.l.getD j default).sg = (y.p.l.getD j default).sg) ∧ Below w1.heap.size w1 wr) (fun iv _ => x.p.n - (intOf iv).toNat)
        case atStart => exact ⟨0, Nat.zero_le _, rfl, fun j hj => absurd hj (Nat.not_lt_zero _), Below.refl _ _⟩
        case round =>
          obtain ⟨i, hi, rfl, hall, hb⟩ := hrel
          obtain ⟨w2, rfl⟩ : ∃ w2 : World, w2 = wr := ⟨_, rfl⟩
          clear c1 d1 e1 e2 e3 e4 e5 n1 n2 n3 n4
          by_cases hlt : i < x.p.n
          · have hil : ((i : Int) < (x.p.n : Int)) = True := by simp; omega
            have hil2 : ((i : Int) < (y.p.n : Int)) = True := by have := HNM.out; simp; omega
            have hlt2 : i < y.p.n := by have := HNM.out; omega
            have hi0 : ((0 : Int) ≤ (i : Int)) = True := by simp
            have hw3 := wrapS hlt hmax
            have hx2 := F1.out.2.2.1.keep hb
            have hy2 := F1.out.2.2.2.keep hb
            obtain ⟨-, c1, -⟩ := (F1.out.2.1.1.keep hb).cells
            obtain ⟨-, d1, -⟩ := (F1.out.2.1.2.keep hb).cells
            obtain ⟨b0, o0, ea, hbb, hat⟩ := hx2.p.sl.at hlt
            obtain ⟨b1, o1, eb, hbb1, hat1⟩ := hy2.p.sl.at hlt2
            have hs0 := hx2.p.all _ (getD_mem (i := i) (by rw [← HL.out]; exact hlt))
            have ht0 := hy2.p.all _ (getD_mem (i := i) (by rw [← HM.out]; exact hlt2))
            obtain ⟨s, hs⟩ : ∃ s, x.p.l.getD i default = s := ⟨_, rfl⟩
            obtain ⟨u, hu⟩ : ∃ u, y.p.l.getD i default = u := ⟨_, rfl⟩
            rw [hs] at hat hs0
            rw [hu] at hat1 ht0
            have s0 := hat 0 (by decide)
            have s1 := hat 1 (by decide)
            have u0 := hat1 0 (by decide)
            have u1 := hat1 1 (by decide)
            simp only [RSg, Nat.add_zero, List.getElem?_cons_zero, List.getElem?_cons_succ] at s0 s1 u0 u1
            rw [ea] at c1
            rw [eb] at d1
            have hd := (Below.refl w2.heap.size w2).drew
            have K := Lib.hid (And.intro (show Cs [(⟨w.heap.size, 1, none⟩, .slice (some ⟨b0, o0, none⟩) x.p.n x.p.c), (⟨w.heap.size + 1, 1, none⟩, .slice (some ⟨b1, o1, none⟩) y.p.n y.p.c), (⟨b0, o0 + i * 2, none⟩, .bool s.set), (⟨b0, o0 + i * 2 + 1, none⟩, .slice s.s.a s.s.n s.s.c), (⟨b1, o1 + i * 2, none⟩, .bool u.set), (⟨b1, o1 + i * 2 + 1, none⟩, .slice u.s.a u.s.n u.s.c)] w2.drew from ⟨c1, d1, s0, s1, u0, u1, trivial⟩) (And.intro (bcall hb (Nat.le_refl _) hd) (And.intro hall (And.intro hs (And.intro hu (And.intro (hs0.keep hd) (ht0.keep hd)))))))
            clear hb hat hat1 hall hs hu hs0 ht0 s0 s1 u0 u1 hd hbb hbb1 hx2 hy2 ea eb
            have HS := Lib.hid (rsame_ints (c := s.s.c) (d := u.s.c) K.out.2.2.2.2.2.1.sl K.out.2.2.2.2.2.2.sl)
            have HE := Lib.hid (show decide (s.sg = u.sg) = (s.set == u.set && decide (s.s.l = u.s.l)) from by unfold SgV.sg; rw [Bool.eq_iff_iff]; simp)
            obtain ⟨dv, hdv⟩ : ∃ b, decide (s.s.l = u.s.l) = b := ⟨_, rfl⟩
            rw [hdv] at HS HE
            clear hdv
            obtain ⟨ss, hss⟩ : ∃ b, s.set = b := ⟨_, rfl⟩
            obtain ⟨us, hus⟩ : ∃ b, u.set = b := ⟨_, rfl⟩
            rw [hss, hus] at K HE
            clear hss hus
            have hcs : (ss = us) ∨ (ss = false ∧ us = true) ∨ (ss = true ∧ us = false) := by cases ss <;> cases us <;> simp
            rcases hcs with rfl | ⟨rfl, rfl⟩ | ⟨rfl, rfl⟩
            · have f1 : (ss != ss) = false := by simp
              go_wp2_with fail
              clear c1 d1
              refine wp_region_heldP (Cs [(⟨w.heap.size, 1, none⟩, .slice (some ⟨b0, o0, none⟩) x.p.n x.p.c), (⟨w.heap.size + 1, 1, none⟩, .slice (some ⟨b1, o1, none⟩) y.p.n y.p.c), (⟨b0, o0 + i * 2, none⟩, .bool ss), (⟨b0, o0 + i * 2 + 1, none⟩, .slice s.s.a s.s.n s.s.c), (⟨b1, o1 + i * 2, none⟩, .bool ss), (⟨b1, o1 + i * 2 + 1, none⟩, .slice u.s.a u.s.n u.s.c)]) (by kernel_rfl) ?_
              generalize w2.drew = V at *
              refine held_reads [0, 1, 2, 3, 4, 5, 6, 7, 8, 9, 10, 11, 12, 13, 14, 15, 16, 17, 18, 19, 20, 21, 22, 23, 24, 25] (g := 3) rfl (by kernel_rfl) K.out.1 (fun _ _ d _ _ h => by cases d <;> exact h) ?_
              simp only [pick, List.getD_cons_zero, List.getD_cons_succ]
              iterate 26 ((with_reducible refine wpRead_step (fun K hK => ?_)); go_simp; first | (rw [if_neg (by decide)]; (with_reducible refine hK _ ?_); clear hK K) | ((with_reducible refine hK _ ?_); clear hK K) | (apply Exists.intro; (with_reducible refine ⟨fun w' hw' => ?_, hK _ ?_⟩); (obtain ⟨f0, f1, f2, f3, f4, f5, -⟩ := hw'; dsimp only at f0 f1 f2 f3 f4 f5; go_simp; first | exact rfl | exact ⟨rfl, rfl⟩); clear hK K))
              with_reducible refine wpRead_nil ?_
              refine held_one 26 (by kernel_rfl) ?_
              simp only [pick, List.getD_cons_zero, List.getD_cons_succ]
              go_wp2_with fail
              refine (HS.out).mono ?_
              rintro e V2 ⟨rfl, hb⟩
              have K3 := Lib.hid (And.intro (Cs.keep hb K.out.1) (And.intro (bcall F1.out.1 (Nat.le_refl _) (bcall K.out.2.1 (Nat.le_refl _) hb)) (And.intro K.out.2.2.1 (And.intro K.out.2.2.2.1 K.out.2.2.2.2.1))))
              have K4 := Lib.hid (bcall K.out.2.1 (Nat.le_refl _) hb)
              clear hb K
              go_wp2_with fail
              refine ⟨K3.out.1, ?_⟩
              cases dv with
              | true =>
                refine held_reads [27, 28] (g := 0) rfl (by kernel_rfl) K3.out.1 (fun _ _ d _ _ h => by cases d <;> exact h) ?_
                simp only [pick, List.getD_cons_zero, List.getD_cons_succ]
                iterate 2 ((with_reducible refine wpRead_step (fun K hK => ?_)); go_simp; first | (rw [if_neg (by decide)]; (with_reducible refine hK _ ?_); clear hK K) | ((with_reducible refine hK _ ?_); clear hK K) | (apply Exists.intro; (with_reducible refine ⟨fun w' hw' => ?_, hK _ ?_⟩); (obtain ⟨f0, f1, f2, f3, f4, f5, -⟩ := hw'; dsimp only at f0 f1 f2 f3 f4 f5; go_simp; first | exact rfl | exact ⟨rfl, rfl⟩); clear hK K))
                with_reducible refine wpRead_nil ?_
                refine wpAnyH_done (by kernel_rfl) ?_ _
                go_wp2_with fail
                exact ⟨⟨i + 1, hlt, by first | rw [hw3] | rw [Int.natCast_succ], fun j hj => (Nat.lt_succ_iff_lt_or_eq.1 hj).elim (K3.out.2.2.1 j) (fun e => by rw [e, K3.out.2.2.2.1, K3.out.2.2.2.2]; exact of_decide_eq_true (HE.out.trans (by simp))), K4.out⟩, by first | (rw [hw3]; exact mSucc hlt) | (rw [← Int.natCast_succ]; exact mSucc hlt)⟩
              | false =>
                refine held_reads [27, 28] (g := 0) rfl (by kernel_rfl) K3.out.1 (fun _ _ d _ _ h => by cases d <;> exact h) ?_
                simp only [pick, List.getD_cons_zero, List.getD_cons_succ]
                iterate 2 ((with_reducible refine wpRead_step (fun K hK => ?_)); go_simp; first | (rw [if_neg (by decide)]; (with_reducible refine hK _ ?_); clear hK K) | ((with_reducible refine hK _ ?_); clear hK K) | (apply Exists.intro; (with_reducible refine ⟨fun w' hw' => ?_, hK _ ?_⟩); (obtain ⟨f0, f1, f2, f3, f4, f5, -⟩ := hw'; dsimp only at f0 f1 f2 f3 f4 f5; go_simp; first | exact rfl | exact ⟨rfl, rfl⟩); clear hK K))
                with_reducible refine wpRead_nil ?_
                refine wpAnyH_done (by kernel_rfl) ?_ _
                go_wp2_with fail
                go_ret
                exact ⟨ret_bool (by
                  rw [HV.out]
                  simp only [Bool.true_and]
                  refine (decide_eq_false fun h => ?_).symm
                  refine of_decide_eq_false (HE.out.trans (by simp)) ?_
                  rw [← K3.out.2.2.2.1, ← K3.out.2.2.2.2, ← getD_map (f := SgV.sg), ← getD_map (f := SgV.sg), h]
                  · rw [← HM.out]; exact hlt2
                  · rw [← HL.out]; exact hlt), K3.out.2.1⟩
            · go_wp2_with fail
              clear c1 d1
              refine wp_region_heldP (Cs [(⟨w.heap.size, 1, none⟩, .slice (some ⟨b0, o0, none⟩) x.p.n x.p.c), (⟨w.heap.size + 1, 1, none⟩, .slice (some ⟨b1, o1, none⟩) y.p.n y.p.c), (⟨b0, o0 + i * 2, none⟩, .bool false), (⟨b0, o0 + i * 2 + 1, none⟩, .slice s.s.a s.s.n s.s.c), (⟨b1, o1 + i * 2, none⟩, .bool true), (⟨b1, o1 + i * 2 + 1, none⟩, .slice u.s.a u.s.n u.s.c)]) (by kernel_rfl) ?_
              generalize w2.drew = V at *
              refine held_reads [0, 1, 2, 3, 4, 5, 6, 7, 8, 9, 10, 11, 12, 13, 14, 15, 16, 17, 18, 19, 20, 21, 22, 23, 24, 25, 26, 27, 28] (g := 0) rfl (by kernel_rfl) K.out.1 (fun _ _ d _ _ h => by cases d <;> exact h) ?_
              simp only [pick, List.getD_cons_zero, List.getD_cons_succ]
              iterate 29 ((with_reducible refine wpRead_step (fun K hK => ?_)); go_simp; first | (rw [if_neg (by decide)]; (with_reducible refine hK _ ?_); clear hK K) | ((with_reducible refine hK _ ?_); clear hK K) | (apply Exists.intro; (with_reducible refine ⟨fun w' hw' => ?_, hK _ ?_⟩); (obtain ⟨f0, f1, f2, f3, f4, f5, -⟩ := hw'; dsimp only at f0 f1 f2 f3 f4 f5; go_simp; first | exact rfl | exact ⟨rfl, rfl⟩); clear hK K))
              with_reducible refine wpRead_nil ?_
              refine wpAnyH_done (by kernel_rfl) ?_ _
              go_wp2_with fail
              go_ret
              exact ⟨ret_bool (by
                rw [HV.out]
                simp only [Bool.true_and]
                refine (decide_eq_false fun h => ?_).symm
                refine of_decide_eq_false (HE.out.trans (by rfl)) ?_
                rw [← K.out.2.2.2.1, ← K.out.2.2.2.2.1, ← getD_map (f := SgV.sg), ← getD_map (f := SgV.sg), h]
                · rw [← HM.out]; exact hlt2
                · rw [← HL.out]; exact hlt), bcall F1.out.1 (Nat.le_refl _) K.out.2.1⟩
            · go_wp2_with fail
              clear c1 d1
              refine wp_region_heldP (Cs [(⟨w.heap.size, 1, none⟩, .slice (some ⟨b0, o0, none⟩) x.p.n x.p.c), (⟨w.heap.size + 1, 1, none⟩, .slice (some ⟨b1, o1, none⟩) y.p.n y.p.c), (⟨b0, o0 + i * 2, none⟩, .bool true), (⟨b0, o0 + i * 2 + 1, none⟩, .slice s.s.a s.s.n s.s.c), (⟨b1, o1 + i * 2, none⟩, .bool false), (⟨b1, o1 + i * 2 + 1, none⟩, .slice u.s.a u.s.n u.s.c)]) (by kernel_rfl) ?_
              generalize w2.drew = V at *
              refine held_reads [0, 1, 2, 3, 4, 5, 6, 7, 8, 9, 10, 11, 12, 13, 14, 15, 16, 17, 18, 19, 20, 21, 22, 23, 24, 25, 26, 27, 28] (g := 0) rfl (by kernel_rfl) K.out.1 (fun _ _ d _ _ h => by cases d <;> exact h) ?_
              simp only [pick, List.getD_cons_zero, List.getD_cons_succ]
              iterate 29 ((with_reducible refine wpRead_step (fun K hK => ?_)); go_simp; first | (rw [if_neg (by decide)]; (with_reducible refine hK _ ?_); clear hK K) | ((with_reducible refine hK _ ?_); clear hK K) | (apply Exists.intro; (with_reducible refine ⟨fun w' hw' => ?_, hK _ ?_⟩); (obtain ⟨f0, f1, f2, f3, f4, f5, -⟩ := hw'; dsimp only at f0 f1 f2 f3 f4 f5; go_simp; first | exact rfl | exact ⟨rfl, rfl⟩); clear hK K))
              with_reducible refine wpRead_nil ?_
              refine wpAnyH_done (by kernel_rfl) ?_ _
              go_wp2_with fail
              go_ret
              exact ⟨ret_bool (by
                rw [HV.out]
                simp only [Bool.true_and]
                refine (decide_eq_false fun h => ?_).symm
                refine of_decide_eq_false (HE.out.trans (by rfl)) ?_
                rw [← K.out.2.2.2.1, ← K.out.2.2.2.2.1, ← getD_map (f := SgV.sg), ← getD_map (f := SgV.sg), h]
                · rw [← HM.out]; exact hlt2
                · rw [← HL.out]; exact hlt), bcall F1.out.1 (Nat.le_refl _) K.out.2.1⟩
          · obtain rfl : i = x.p.n := by omega
            have hil : ((x.p.n : Int) < (x.p.n : Int)) = False := by simp
            have HB := Lib.hid (And.intro (bcall F1.out.1 (Nat.le_refl _) hb) hall)
            obtain ⟨-, c1, -⟩ := (F1.out.2.1.1.keep hb).cells
            clear hb hall
            go_wp2_with fail
            go_ret
            exact ⟨ret_bool (by
              rw [HV.out]
              simp only [Bool.true_and]
              refine (decide_eq_true (getD_ext (by rw [List.length_map, List.length_map, ← HL.out, ← HM.out]; exact HNM.out) fun j hj => ?_)).symm
              rw [List.length_map] at hj
              rw [getD_map hj, getD_map (by rw [← HM.out, ← HNM.out, HL.out]; exact hj)]
              exact HB.out.2 j (by rw [HL.out]; exact hj)), HB.out.1⟩
      · have e5 : ((x.p.n : Int) == (y.p.n : Int)) = false := by simpa using fun e : (x.p.n : Int) = y.p.n => hnm (by omega)
        have n5 : ((x.p.n : Int) != (y.p.n : Int)) = true := by rw [bne, e5]; rfl
        have HD := Lib.hid (show decide (x.p.l.map SgV.sg = y.p.l.map SgV.sg) = false from decide_eq_false fun e => hnm (by rw [HL.out, HM.out]; simpa using congrArg List.length e))
        clear hnm
        go_wp2_with fail
        go_ret
        exact ⟨ret_bool (by rw [HV.out, HD.out]; rfl), F1.out.1⟩
  all_goals
    go_enter Tryz.func29, Tryz.ntmps29
    go_wp2_with fail
    go_ret
    exact ⟨ret_bool (by rw [HV.out]; rfl), F0.out.1⟩
end Go.Proofs.YtadoflcomienoaaGreat

