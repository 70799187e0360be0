/- PutTemplates. -/
import Derived.Test.YtjjhnnnpikfjpaaNv
namespace Go.Proofs.Ytjjhnnnpikfjpaa
open Go.RowKit

theorem fdB_length (l : List (Int × Int)) : (l.flatMap fdB).length = l.length * 4 := by
  induction l with
  | nil => rfl
  | cons x r ih => simp only [List.flatMap_cons, List.length_append, ih, fdB, bes_length, List.length_cons, List.length_nil]; omega
theorem tmsB_length (l : List (Int × SlV (Int × Int))) (h : ∀ x ∈ l, x.2.l.length ≤ 32) : (tmsB l).length ≤ l.length * 132 := by
  induction l with
  | nil => simp [tmsB]
  | cons x r ih =>
    have h1 := ih (fun y hy => h y (by simp [hy]))
    have h2 := h x (by simp)
    unfold tmsB at *
    simp only [List.flatMap_cons, List.length_append, List.length_cons, tmB, bes_length, fdB_length, List.length_nil]
    omega
theorem tmsB_snoc (l : List (Int × SlV (Int × Int))) (x : Int × SlV (Int × Int)) : tmsB (l ++ [x]) = tmsB l ++ tmB x := by simp [tmsB]
set_option maxRecDepth 100000 in
set_option maxHeartbeats 4000000 in
theorem putT_ok {w : World} {oa : Option Addr} {n c : Nat} {l : List (Int × SlV (Int × Int))} (hs : TmsOk w ⟨oa, n, c, l⟩) (hodd : l.any oddX = false) (hn : n ≤ 256) : Calls Try.prog 21 #[.slice oa n c] w fun e w' => (∃ v, e = .returned (.tuple #[v, .int .i64 0]) ∧ RB.Own w' w.heap.size v (tmsB l)) ∧ Below w.heap.size w w' := by
  have hct := contains_tm hs
  rw [hodd] at hct
  have hno : ∀ x ∈ l, 256 ≤ x.1 ∧ x.1 ≤ 65535 ∧ 1 ≤ x.2.n ∧ x.2.n ≤ 32 ∧ ∀ y ∈ x.2.l, oddFd y = false := fun x hx => oddT_false (t := ⟨x.1, x.2⟩) (by
    have := List.any_eq_false.1 hodd x hx
    simpa [oddX] using this)
  have hlen := hs.sl.len.symm
  dsimp only at hlen
  have H := Lib.hid (And.intro hs (And.intro hct hno))
  unfold CalleeF at H
  have g1 : ((256 : Int) < (n : Int)) = False := by simp; omega
  clear hs hct hno hodd
  go_enter Try.func21, Try.ntmps21
  go_wp2_with fail
  refine (H.out.2.1).mono ?_
  rintro e w1 ⟨rfl, hb1⟩
  have F0 := Lib.hid hb1
  clear hb1
  go_wp2_with fail
  go_loopw [4, 6, 8, 18] (fun sv _ _ iv wr => ∃ i : Nat, i ≤ n ∧ iv = .int .i64 i ∧ RB.Own wr w.heap.size sv (tmsB (l.take i)) ∧ Below w.heap.size w wr) (fun _ _ _ iv _ => n - (intOf iv).toNat)
  case atStart => exact ⟨0, Nat.zero_le _, rfl, Rep.Own.nil _ _, F0.out⟩
  case round =>
    obtain ⟨i, hi, rfl, hown, hb⟩ := hrel
    obtain ⟨w2, rfl⟩ : ∃ w2 : World, w2 = wr := ⟨_, rfl⟩
    clear F0
    by_cases hlt : i < n
    · obtain ⟨bb, oo, rfl, hbb, hat⟩ := (H.out.1.keep hb).sl.at hlt
      have c0 := hat 0 (by decide)
      have c1 := hat 1 (by decide)
      simp only [RTm, Nat.add_zero, List.getElem?_cons_zero, List.getElem?_cons_succ] at c0 c1
      have hil : ((i : Int) < (n : Int)) = True := by simp; omega
      have hx := H.out.1.all _ (getD_mem (i := i) (by first | omega | (simp only; omega)))
      have hox := H.out.2.2 _ (getD_mem (i := i) (by omega))
      have ht : l.take (i + 1) = l.take i ++ [l.getD i default] := take_snoc l i (by omega)
      have hbl := tmsB_length (l.take i) (fun y hy => by
        have h1 := H.out.2.2 y (List.mem_of_mem_take hy)
        have h2 := (H.out.1.all y (List.mem_of_mem_take hy)).sl.len
        omega)
      have htl : (l.take i).length ≤ 256 := by rw [List.length_take]; omega
      try dsimp only at hx
      generalize l.getD i default = x at *
      obtain ⟨x1, xa, xm, xc, xl⟩ := x
      dsimp only at *
      obtain ⟨xn, rfl⟩ := Int.eq_ofNat_of_zero_le (a := x1) (by omega)
      have hfin : tmsB (l.take (i + 1)) = tmsB (l.take i) ++ bes 2 [xn, xm] ++ xl.flatMap fdB := by rw [ht, tmsB_snoc]; simp [tmB]
      have hLL : (tmsB (l.take i)).length ≤ 40000 := by omega
      generalize tmsB (l.take i) = LL at *
      have hw3 := wrapS hlt H.out.1.sl.max
      have hal := (Below.refl w2.heap.size w2).alloc (Nat.le_refl _) (.cells #[.int .i64 (xn : Int), .slice xa xm xc] 41)
      have hnw : TmS w2.heap.size #[.int .i64 (xn : Int), .slice xa xm xc] (w2.alloc (.cells #[.int .i64 (xn : Int), .slice xa xm xc] 41)) := hnew _ _
      have hn6 : u4.ownBlock ≠ some w2.heap.size := fun h => by have := (World.ownsRow.lt hown _ h).2; omega
      have hcs := (Below.refl (w2.alloc (.cells #[.int .i64 (xn : Int), .slice xa xm xc] 41)).heap.size (w2.alloc (.cells #[.int .i64 (xn : Int), .slice xa xm xc] 41))).alloc (Nat.le_refl _) (.cells #[.int .i64 (xn : Int), .int .i64 (xm : Int)] 3)
      have ho41 : RIn.Own ((w2.alloc (.cells #[.int .i64 (xn : Int), .slice xa xm xc] 41)).alloc (.cells #[.int .i64 (xn : Int), .int .i64 (xm : Int)] 3)) w.heap.size (.slice (some ⟨w2.heap.size + 1, 0, none⟩) 2 2) [xn, xm] := ⟨rfl, .inr ⟨w2.heap.size + 1, 2, #[.int .i64 (xn : Int), .int .i64 (xm : Int)], rfl, Nat.le_trans hb.size (Nat.le_succ _), hnewAt (Array.size_push _).symm, Nat.le_refl _, by unfold maxLen; omega, rfl, rfl⟩⟩
      have hb12 := hal.trans (hcs.mono (by simp))
      have HF := Lib.hid (And.intro hfin (And.intro hLL hox))
      have F1 := Lib.hid (And.intro (bcall hb (Nat.le_refl _) hb12) (And.intro (hnw.on hcs) (And.intro (hown.below hb12) (And.intro hn6 (And.intro ho41 (FdsOk.keep hx (bcall hb (Nat.le_refl _) hb12)))))))
      have hlx : xl.length = xm := hx.sl.len.symm
      have HL := Lib.hid hlx
      have HX := Lib.hid hx
      clear hat hb hx hox ht hbl htl hfin hLL hal hnw hn6 hcs ho41 hb12 hown hlx
      go_wp2_with fail
      generalize (w2.alloc (.cells #[.int .i64 (xn : Int), .slice xa xm xc] 41)).alloc (.cells #[.int .i64 (xn : Int), .int .i64 (xm : Int)] 3) = W3 at *
      generalize w2.heap.size = q6 at *
      obtain ⟨oa9, c9, hv9, -, -, hs9, -⟩ := F1.out.2.2.2.2.1.sl
      simp only [Value.slice.injEq] at hv9
      obtain ⟨rfl, -, rfl⟩ := hv9
      refine (bytes_any (k := 2) (by omega) hs9 (by intro y hy; have h1 := HF.out.2.2; simp at hy; omega) (by simp)).mono ?_
      rintro e w4 ⟨v4, rfl, ho4, hb4⟩
      obtain ⟨oa4, c4, rfl, hs4⟩ := bs_own ho4
      have F2 := Lib.hid (And.intro (bcall F1.out.1 (Nat.le_refl _) hb4) (And.intro (F1.out.2.1.on hb4) (And.intro (F1.out.2.2.1.below hb4) (And.intro F1.out.2.2.2.1 (And.intro hs4 F1.out.2.2.2.2.2)))))
      clear F1 hb4 ho4 hs4 hs9
      go_wp2_with (at_builtin; refine halt ?_)
      refine Halted.go ?_
      refine Rep.append_list2 T27 rfl _ _ rfl (base := w.heap.size) (m := (bes 2 [xn, xm]).length) rfl F2.out.2.2.1 rfl F2.out.2.2.2.2.1.sl (by simp [bes_length]) (by simp only [bes_length]; have h := HF.out.2.1; unfold maxLen; simp; omega) (by simp only [bes_length]; have h := HF.out.2.1; simp; omega) F2.out.1.size ?_
      intro v5 w5 ho5 hb5 he5
      have h6 := he5 q6 F2.out.2.2.2.1 (lt_of_blk F2.out.2.1)
      have F3 := Lib.hid (And.intro (F2.out.1.trans hb5) (And.intro (show TmS q6 _ w5 from h6.2.trans F2.out.2.1) ho5))
      clear ho5 hb5 he5 h6 F2
      obtain ⟨z0, z1⟩ := F3.out.2.1.cells
      go_wp2_with fail
      clear z0 z1
      go_loopw [4, 8, 34] (fun sv _ iv wr => ∃ j : Nat, j ≤ xm ∧ iv = .int .i64 j ∧ RB.Own wr w.heap.size sv (LL ++ bes 2 [xn, xm] ++ (xl.take j).flatMap fdB) ∧ Below w.heap.size w wr) (fun _ _ iv _ => xm - (intOf iv).toNat)
      case atStart => exact ⟨0, Nat.zero_le _, rfl, by simpa using F3.out.2.2, F3.out.1⟩
      case round =>
        obtain ⟨jj, hj, rfl, hown, hb⟩ := hrel
        obtain ⟨w6, rfl⟩ : ∃ w6 : World, w6 = wr := ⟨_, rfl⟩
        by_cases hlt2 : jj < xm
        · have hfs := FdsOk.keep (HX.out) hb
          obtain ⟨b2, o2, rfl, hb2, hat2⟩ := hfs.sl.at hlt2
          have d0 := hat2 0 (by decide)
          have d1 := hat2 1 (by decide)
          simp only [RFd, Nat.add_zero, List.getElem?_cons_zero, List.getElem?_cons_succ] at d0 d1
          have hil2 : ((jj : Int) < (xm : Int)) = True := by simp; omega
          have hoy := oddFd_false (HF.out.2.2.2.2.2.2 _ (getD_mem (i := jj) (by have := HL.out; omega)))
          have ht2 : xl.take (jj + 1) = xl.take jj ++ [xl.getD jj default] := take_snoc xl jj (by have := HL.out; omega)
          have hbl2 : ((xl.take jj).flatMap fdB).length ≤ 128 := by rw [fdB_length, List.length_take]; have := HF.out.2.2.2.2.2.1; omega
          generalize xl.getD jj default = y at *
          obtain ⟨y1, y2⟩ := y
          dsimp only at *
          obtain ⟨yn, rfl⟩ := Int.eq_ofNat_of_zero_le (a := y1) (by omega)
          obtain ⟨ym, rfl⟩ := Int.eq_ofNat_of_zero_le (a := y2) (by omega)
          have hfin2 : (xl.take (jj + 1)).flatMap fdB = (xl.take jj).flatMap fdB ++ bes 2 [yn, ym] := by rw [ht2, List.flatMap_append]; simp [fdB]
          generalize (xl.take jj).flatMap fdB = MM at *
          have hw4 := wrapS hlt2 hfs.sl.max
          have hal := (Below.refl w6.heap.size w6).alloc (Nat.le_refl _) (.cells #[.int .i64 (yn : Int), .int .i64 (ym : Int)] 80)
          have hcs := (Below.refl (w6.alloc (.cells #[.int .i64 (yn : Int), .int .i64 (ym : Int)] 80)).heap.size (w6.alloc (.cells #[.int .i64 (yn : Int), .int .i64 (ym : Int)] 80))).alloc (Nat.le_refl _) (.cells #[.int .i64 (yn : Int), .int .i64 (ym : Int)] 3)
          have hb12 := hal.trans (hcs.mono (by simp))
          have ho41 : RIn.Own ((w6.alloc (.cells #[.int .i64 (yn : Int), .int .i64 (ym : Int)] 80)).alloc (.cells #[.int .i64 (yn : Int), .int .i64 (ym : Int)] 3)) w.heap.size (.slice (some ⟨w6.heap.size + 1, 0, none⟩) 2 2) [yn, ym] := ⟨rfl, .inr ⟨w6.heap.size + 1, 2, #[.int .i64 (yn : Int), .int .i64 (ym : Int)], rfl, Nat.le_trans hb.size (Nat.le_succ _), hnewAt (Array.size_push _).symm, Nat.le_refl _, by unfold maxLen; omega, rfl, rfl⟩⟩
          have hyy : yn < 65536 ∧ ym < 65536 := by omega
          have G1 := Lib.hid (And.intro (bcall hb (Nat.le_refl _) hb12) (And.intro (hown.below hb12) ho41))
          have HG := Lib.hid (And.intro hfin2 (And.intro hbl2 hyy))
          clear hat2 hb hown hfs hoy ht2 hbl2 hfin2 hal hcs hb12 ho41 hyy
          go_wp2_with fail
          generalize (w6.alloc (.cells #[.int .i64 (yn : Int), .int .i64 (ym : Int)] 80)).alloc (.cells #[.int .i64 (yn : Int), .int .i64 (ym : Int)] 3) = W7 at *
          generalize w6.heap.size = q8 at *
          obtain ⟨oa9, c9, hv9, -, -, hs9, -⟩ := G1.out.2.2.sl
          simp only [Value.slice.injEq] at hv9
          obtain ⟨rfl, -, rfl⟩ := hv9
          refine (bytes_any (k := 2) (by omega) hs9 (by intro y hy; have h1 := HG.out.2.2; simp at hy; omega) (by simp)).mono ?_
          rintro e w8 ⟨v8, rfl, ho8, hb8⟩
          obtain ⟨oa8, c8, rfl, hs8⟩ := bs_own ho8
          have G2 := Lib.hid (And.intro (bcall G1.out.1 (Nat.le_refl _) hb8) (And.intro (G1.out.2.1.below hb8) hs8))
          clear G1 hb8 ho8 hs8 hs9
          go_wp2_with (at_builtin; refine halt ?_)
          refine Halted.go ?_
          refine Rep.append_list2 T27 rfl _ _ rfl (base := w.heap.size) (m := (bes 2 [yn, ym]).length) rfl G2.out.2.1 rfl G2.out.2.2.sl (by simp [bes_length]) (by simp only [bes_length, List.length_append]; have h := HF.out.2.1; have h2 := HG.out.2.1; unfold maxLen; simp; omega) (by simp only [bes_length, List.length_append]; have h := HF.out.2.1; have h2 := HG.out.2.1; simp; omega) G2.out.1.size ?_
          intro v9 w9 ho9 hb9 he9
          have G3 := Lib.hid (And.intro (G2.out.1.trans hb9) ho9)
          clear ho9 hb9 he9 G2
          go_wp2_with fail
          exact ⟨⟨jj + 1, hlt2, by first | rw [hw4] | rw [Int.natCast_succ], by rw [HG.out.1, ← List.append_assoc]; exact G3.out.2, G3.out.1⟩, by first | (rw [hw4]; exact mSucc hlt2) | (rw [← Int.natCast_succ]; exact mSucc hlt2)⟩
        · obtain rfl : xm = jj := by omega
          have hil2 : ((xm : Int) < (xm : Int)) = False := by simp
          rw [List.take_of_length_le (by have := HL.out; omega)] at hown
          have G1 := Lib.hid (And.intro hb hown)
          clear hb hown
          go_wp2_with fail
          exact ⟨⟨i + 1, hlt, by first | rw [hw3] | rw [Int.natCast_succ], by rw [HF.out.1]; exact G1.out.2, G1.out.1⟩, by first | (rw [hw3]; exact mSucc hlt) | (rw [← Int.natCast_succ]; exact mSucc hlt)⟩
    · obtain rfl : n = i := by omega
      have hil : ((n : Int) < (n : Int)) = False := by simp
      rw [List.take_of_length_le (by omega)] at hown
      have HB := Lib.hid (And.intro hown hb)
      clear hown hb
      go_wp2_with fail
      go_ret2
      exact ⟨⟨_, rfl, HB.out.1⟩, HB.out.2⟩
end Go.Proofs.Ytjjhnnnpikfjpaa
