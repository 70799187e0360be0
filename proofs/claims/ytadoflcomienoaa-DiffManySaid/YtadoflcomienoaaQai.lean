/- The bytes of a path. -/
import Derived.Test.YtadoflcomienoaaQah
namespace Go.Proofs.Ytadoflcomienoaa
open Go.RowKit

def psz (four : Bool) (p : List Sg) : Nat := (p.map fun s => 2 + wd four * s.2.length).sum
theorem psz_take {four : Bool} {L : List SgV} {i : Nat} (h : i < L.length) : psz four ((L.take (i + 1)).map SgV.sg) = psz four ((L.take i).map SgV.sg) + (2 + wd four * (L.getD i default).s.l.length) := by
  unfold psz
  rw [take_snoc L i h]
  simp [SgV.sg]
theorem psz_le {four : Bool} : ∀ {p : List Sg}, p.all (okSg four) = true → psz four p ≤ 258 * p.length
  | [], _ => Nat.le_refl _
  | s :: r, h => by
    rw [List.all_cons, Bool.and_eq_true] at h
    have h2 := psz_le h.2
    have h1 : s.2.length ≤ 64 := by
      have := h.1
      unfold okSg at this
      simp at this
      omega
    have hw : wd four ≤ 4 := by unfold wd; split <;> omega
    have := Nat.mul_le_mul hw h1
    unfold psz at *
    rw [List.map_cons, List.sum_cons, List.length_cons]
    omega
set_option maxRecDepth 100000 in
set_option maxHeartbeats 4000000 in
theorem apath_any {w : World} {oa : Option Addr} {n c : Nat} {L : List SgV} (h : SlOk RSg SgOk w ⟨oa, n, c, L⟩) (four : Bool) (hok : (L.map SgV.sg).all (okSg four) = true) (hn : n ≤ 8) : Calls Try.prog 89 #[.slice oa n c, .bool four] w fun e w' => ∃ v B, e = .returned v ∧ RB.Own w' w.heap.size v B ∧ B.length = psz four (L.map SgV.sg) ∧ Below w.heap.size w w' := by
  have HL := Lib.hid (show n = L.length from h.sl.len)
  have F := Lib.hid (And.intro h (And.intro hok hn))
  have hmax : n ≤ maxLen := h.sl.max
  clear h hok hn
  go_enter Try.func89, Try.ntmps89
  go_wp2_with fail
  go_loopw [5, 11] (fun sv iv wr => ∃ (i : Nat) (B : List Nat), i ≤ n ∧ iv = .int .i64 i ∧ RB.Own wr w.heap.size sv B ∧ B.length = psz four ((L.take i).map SgV.sg) ∧ Below w.heap.size w wr) (fun _ iv _ => n - (intOf iv).toNat)
  case atStart => exact ⟨0, [], Nat.zero_le _, rfl, Rep.Own.nil _ _, rfl, Below.refl _ _⟩
  case round =>
    obtain ⟨i, B, hi, rfl, hown, hlen, hb⟩ := hrel
    obtain ⟨w2, rfl⟩ : ∃ w2 : World, w2 = wr := ⟨_, rfl⟩
    obtain ⟨oa2, cc, rfl, hsl2, hn2⟩ := hown.sl0
    by_cases hlt : i < n
    · have hil : ((i : Int) < (n : Int)) = True := by simp; omega
      have hw3 := wrapS hlt hmax
      have hlL : i < L.length := by rw [← HL.out]; exact hlt
      obtain ⟨b0, o0, ea, hbb, hat⟩ := (F.out.1.keepS hb).sl.at hlt
      dsimp only at ea
      subst ea
      have c0 := hat 0 (by decide)
      have c1 := hat 1 (by decide)
      simp only [RSg, Nat.add_zero, List.getElem?_cons_zero, List.getElem?_cons_succ] at c0 c1
      have hmem := getD_mem hlL
      have hs0 := (F.out.1.keepS hb).all _ hmem
      have hps := psz_take (four := four) hlL
      have hsg : okSg four (L.getD i default).sg = true := List.all_eq_true.1 F.out.2.1 _ (List.mem_map_of_mem hmem)
      have hB8 : B.length ≤ 2064 := by
        have h1 : psz four ((L.take i).map SgV.sg) ≤ 258 * ((L.take i).map SgV.sg).length := psz_le (List.all_eq_true.2 fun x hx => by
          obtain ⟨y, hy, rfl⟩ := List.mem_map.1 hx
          exact List.all_eq_true.1 F.out.2.1 _ (List.mem_map_of_mem (List.mem_of_mem_take hy)))
        rw [List.length_map, List.length_take] at h1
        have := F.out.2.2
        omega
      generalize L.getD i default = s at *
      have hss : s.s.n ≤ 64 ∧ s.s.l.all (fitsB (wd four)) = true := by
        have := hsg
        unfold okSg SgV.sg at this
        rw [Bool.and_eq_true, Bool.and_eq_true, decide_eq_true_eq, decide_eq_true_eq] at this
        dsimp only at this
        rw [← hs0.sl.len] at this
        exact ⟨this.1.2, this.2⟩
      obtain ⟨bl, hbl⟩ : ∃ z, B.length = z := ⟨_, rfl⟩
      rw [hbl] at hown hlen hsl2 hB8 ⊢
      have HH := Lib.hid (And.intro hbl (And.intro hlen (And.intro hps (And.intro hss (And.intro hs0.sl.len.symm hB8)))))
      have K := Lib.hid (And.intro hb (And.intro hsl2 (And.intro hs0 hn2)))
      clear hb hown hlen hsl2 hat hmem hs0 hps hsg hss hbl hB8 hn2 hbb
      go_wp2_with (with_reducible refine halt_store 53 rfl ?_)
      refine Halted.go ?_
      have hal := (Below.refl w2.heap.size w2).alloc (Nat.le_refl _) (.cells #[.bool false, .slice none 0 0] 53)
      refine store_whole rfl 53 _ _ rfl w2.heap.size #[.bool s.set, .slice s.s.a s.s.n s.s.c] rfl rfl (hnew _ _) rfl (by kernel_rfl) (by simp [Value.oneCell']) ?_
      intro wz hwz hsz
      have hzb : Below w2.heap.size w2 wz := Below.trans hal (hsz.below (Nat.le_refl _))
      have hzx : BxS w2.heap.size s wz := hwz
      obtain ⟨z0, z1⟩ := hzx.cells
      have hd := (Below.refl wz.heap.size wz).drew
      have hzd : Below w2.heap.size w2 wz.drew := hzb.trans (hd.mono hzb.size)
      obtain ⟨q2, hq2⟩ : ∃ z, w2.heap.size = z := ⟨_, rfl⟩
      have F0 := Lib.hid (And.intro (show Below w.heap.size w wz.drew from bcall K.out.1 (Nat.le_refl _) hzd) (And.intro (show Cs [(⟨q2, 1, none⟩, .slice s.s.a s.s.n s.s.c)] wz.drew from by rw [← hq2]; exact ⟨z1, trivial⟩) (And.intro (K.out.2.1.keep hzd) (And.intro (K.out.2.2.1.keep hzd) K.out.2.2.2))))
      rw [hq2] at z0 z1
      try rw [hq2]
      obtain ⟨st, hst⟩ : ∃ b, s.set = b := ⟨_, rfl⟩
      rw [hst] at z0
      try rw [hst]
      clear hwz hsz hal hzb hzx hd hzd hq2 c0 c1 K hst
      have HSZ := Lib.hid (fun W => asize_any four W)
      have HK : Hid (∀ W : World, SgOk W s → Calls Try.prog 90 #[.int .i64 (wd four : Nat), .slice s.s.a s.s.n s.s.c] W fun e w' => ∃ v B, e = .returned v ∧ RB.Own w' W.heap.size v B ∧ B.length = wd four * s.s.n ∧ Below W.heap.size W w') := Lib.hid (fun W hW => abytes_any hW.sl (wd four) (by cases four <;> decide) HH.out.2.2.2.1.2 (by have := HH.out.2.2.2.1.1; omega))
      have hwd : wd four ≤ 4 := by unfold wd; split <;> omega
      have HM := Lib.hid (show wd four * s.s.n ≤ 256 from Nat.le_trans (Nat.mul_le_mul hwd HH.out.2.2.2.1.1) (by decide))
      clear hwd
      cases st with
      | true =>
        have hn64 : s.s.n ≤ 64 := HH.out.2.2.2.1.1
        go_wp2_with fail
        clear z0 z1
        refine wp_region_heldP (Cs [(⟨q2, 1, none⟩, .slice s.s.a s.s.n s.s.c)]) (by kernel_rfl) ?_
        generalize wz.drew = V at *
        refine held_reads [0, 1, 2, 3, 4, 5, 7, 9, 10] (g := 6) rfl (by kernel_rfl) F0.out.2.1 (fun _ _ d _ _ h => by cases d <;> exact h) ?_
        simp only [pick, List.getD_cons_zero, List.getD_cons_succ]
        ((with_reducible refine wpRead_step (fun K hK => ?_)); go_simp; first | (rw [if_neg (by decide)]; (with_reducible refine hK _ ?_); clear hK K) | ((with_reducible refine hK _ ?_); clear hK K) | (apply Exists.intro; (with_reducible refine ⟨fun w' hw' => ?_, hK _ ?_⟩); (obtain ⟨f0, -⟩ := hw'; dsimp only at f0; go_simp; first | exact rfl | exact ⟨rfl, rfl⟩); clear hK K))
        ((with_reducible refine wpRead_step (fun K hK => ?_)); go_simp; first | (rw [if_neg (by decide)]; (with_reducible refine hK _ ?_); clear hK K) | ((with_reducible refine hK _ ?_); clear hK K) | (apply Exists.intro; (with_reducible refine ⟨fun w' hw' => ?_, hK _ ?_⟩); (obtain ⟨f0, -⟩ := hw'; dsimp only at f0; go_simp; first | exact rfl | exact ⟨rfl, rfl⟩); clear hK K))
        ((with_reducible refine wpRead_step (fun K hK => ?_)); go_simp; first | (rw [if_neg (by decide)]; (with_reducible refine hK _ ?_); clear hK K) | ((with_reducible refine hK _ ?_); clear hK K) | (apply Exists.intro; (with_reducible refine ⟨fun w' hw' => ?_, hK _ ?_⟩); (obtain ⟨f0, -⟩ := hw'; dsimp only at f0; go_simp; first | exact rfl | exact ⟨rfl, rfl⟩); clear hK K))
        ((with_reducible refine wpRead_step (fun K hK => ?_)); go_simp; first | (rw [if_neg (by decide)]; (with_reducible refine hK _ ?_); clear hK K) | ((with_reducible refine hK _ ?_); clear hK K) | (apply Exists.intro; (with_reducible refine ⟨fun w' hw' => ?_, hK _ ?_⟩); (obtain ⟨f0, -⟩ := hw'; dsimp only at f0; go_simp; first | exact rfl | exact ⟨rfl, rfl⟩); clear hK K))
        ((with_reducible refine wpRead_step (fun K hK => ?_)); go_simp; first | (rw [if_neg (by decide)]; (with_reducible refine hK _ ?_); clear hK K) | ((with_reducible refine hK _ ?_); clear hK K) | (apply Exists.intro; (with_reducible refine ⟨fun w' hw' => ?_, hK _ ?_⟩); (obtain ⟨f0, -⟩ := hw'; dsimp only at f0; go_simp; first | exact rfl | exact ⟨rfl, rfl⟩); clear hK K))
        ((with_reducible refine wpRead_step (fun K hK => ?_)); go_simp; first | (rw [if_neg (by decide)]; (with_reducible refine hK _ ?_); clear hK K) | ((with_reducible refine hK _ ?_); clear hK K) | (apply Exists.intro; (with_reducible refine ⟨fun w' hw' => ?_, hK _ ?_⟩); (obtain ⟨f0, -⟩ := hw'; dsimp only at f0; go_simp; first | exact rfl | exact ⟨rfl, rfl⟩); clear hK K))
        ((with_reducible refine wpRead_step (fun K hK => ?_)); go_simp; first | (rw [if_neg (by decide)]; (with_reducible refine hK _ ?_); clear hK K) | ((with_reducible refine hK _ ?_); clear hK K) | (apply Exists.intro; (with_reducible refine ⟨fun w' hw' => ?_, hK _ ?_⟩); (obtain ⟨f0, -⟩ := hw'; dsimp only at f0; go_simp; first | exact rfl | exact ⟨rfl, rfl⟩); clear hK K))
        ((with_reducible refine wpRead_step (fun K hK => ?_)); go_simp; first | (rw [if_neg (by decide)]; (with_reducible refine hK _ ?_); clear hK K) | ((with_reducible refine hK _ ?_); clear hK K) | (apply Exists.intro; (with_reducible refine ⟨fun w' hw' => ?_, hK _ ?_⟩); (obtain ⟨f0, -⟩ := hw'; dsimp only at f0; go_simp; first | exact rfl | exact ⟨rfl, rfl⟩); clear hK K))
        ((with_reducible refine wpRead_step (fun K hK => ?_)); go_simp; first | (rw [if_neg (by decide)]; (with_reducible refine hK _ ?_); clear hK K) | ((with_reducible refine hK _ ?_); clear hK K) | (apply Exists.intro; (with_reducible refine ⟨fun w' hw' => ?_, hK _ ?_⟩); (obtain ⟨f0, -⟩ := hw'; dsimp only at f0; go_simp; first | exact rfl | exact ⟨rfl, rfl⟩); clear hK K))
        with_reducible refine wpRead_nil ?_
        refine held_two 6 8 (by kernel_rfl) ?_ ?_
        · simp only [pick, List.getD_cons_zero, List.getD_cons_succ]
          have hal := (Below.refl V.heap.size V).alloc (Nat.le_refl _) (.cells #[.int .u8 1, .int .u8 (s.s.n : Int)] 5)
          have hnx : RB.Sl (V.alloc (.cells #[.int .u8 1, .int .u8 (s.s.n : Int)] 5)) (some ⟨V.heap.size, 0, none⟩) 2 2 [1, s.s.n] := Rep.sl_flat (R := RB) (M := [1, s.s.n]) (hnew _ _) (by unfold maxLen; simp)
          have F1 := Lib.hid (And.intro (bcall F0.out.1 (Nat.le_refl _) hal) (And.intro (Cs.keep hal F0.out.2.1) (And.intro (F0.out.2.2.1.keep hal) (And.intro (F0.out.2.2.2.1.keep hal) (And.intro F0.out.2.2.2.2 (hnx))))))
          clear F0
          clear hal hnx
          go_wp2_with fail
          refine ⟨F1.out.2.1, ?_⟩
          generalize V.alloc (.cells #[.int .u8 1, .int .u8 (s.s.n : Int)] 5) = A1 at *
          generalize V.heap.size = qP at *
          refine held_one 8 (by kernel_rfl) ?_
          simp only [pick, List.getD_cons_zero, List.getD_cons_succ]
          go_wp2_with fail
          refine (HSZ.out _).mono ?_
          rintro e W9 ⟨rfl, hw⟩
          have hw := hw.symm
          subst hw
          go_wp2_with fail
          refine ⟨F1.out.2.1, ?_⟩
          refine held_one 11 (by kernel_rfl) ?_
          simp only [pick, List.getD_cons_zero, List.getD_cons_succ]
          go_wp2_with fail
          refine (HK.out _ F1.out.2.2.2.1).mono ?_
          rintro e A2 ⟨v1, B1, rfl, ho1, hl1, hb1⟩
          obtain ⟨oy, cy, rfl, hsy, hny⟩ := ho1.sl0
          obtain ⟨yl, hyl⟩ : ∃ z, B1.length = z := ⟨_, rfl⟩
          rw [hyl] at hsy hl1 ⊢
          have F2 := Lib.hid (And.intro (bcall F1.out.1 (Nat.le_refl _) hb1) (And.intro (Cs.keep hb1 F1.out.2.1) (And.intro (F1.out.2.2.1.keep hb1) (And.intro F1.out.2.2.2.2.1 (And.intro (F1.out.2.2.2.2.2.keep hb1) (And.intro hsy (And.intro hny (And.intro hl1 (hyl)))))))))
          clear F1
          clear hb1 ho1 hl1 hsy hny hyl
          go_wp2_with fail
          refine ⟨F2.out.2.1, ?_⟩
          refine held_one 12 (by kernel_rfl) ?_
          simp only [pick, List.getD_cons_zero, List.getD_cons_succ]
          have hal := (Below.refl A2.heap.size A2).alloc (Nat.le_refl _) (.cells #[.slice oa2 bl cc, .slice (some ⟨qP, 0, none⟩) 2 2, .slice oy yl cy] 40)
          have hvs : RH.Sl (A2.alloc (.cells #[.slice oa2 bl cc, .slice (some ⟨qP, 0, none⟩) 2 2, .slice oy yl cy] 40)) (some ⟨A2.heap.size, 0, none⟩) 3 3 [(oa2, bl, cc), (some ⟨qP, 0, none⟩, 2, 2), (oy, yl, cy)] := Rep.sl_flat (R := RH) (M := [(oa2, bl, cc), (some ⟨qP, 0, none⟩, 2, 2), (oy, yl, cy)]) (hnew _ _) (by unfold maxLen; simp)
          have hbs : BSS (A2.alloc (.cells #[.slice oa2 bl cc, .slice (some ⟨qP, 0, none⟩) 2 2, .slice oy yl cy] 40)) [(oa2, bl, cc), (some ⟨qP, 0, none⟩, 2, 2), (oy, yl, cy)] [B, [1, s.s.n], B1] := BSS.cons (F2.out.2.2.1.keep hal) F2.out.2.2.2.1 (BSS.cons (F2.out.2.2.2.2.1.keep hal) (fun h => by cases h) (BSS.cons (F2.out.2.2.2.2.2.1.keep hal) F2.out.2.2.2.2.2.2.1 BSS.nil))
          have HT1 := Lib.hid (And.intro F2.out.2.2.2.2.2.2.2.1 F2.out.2.2.2.2.2.2.2.2)
          have F3 := Lib.hid (And.intro (bcall F2.out.1 (Nat.le_refl _) hal) (And.intro (Cs.keep hal F2.out.2.1) (And.intro hvs (hbs))))
          clear F2
          clear hal hvs hbs
          go_wp2_with fail
          refine ⟨F3.out.2.1, ?_⟩
          generalize A2.alloc (.cells #[.slice oa2 bl cc, .slice (some ⟨qP, 0, none⟩) 2 2, .slice oy yl cy] 40) = A8 at *
          generalize A2.heap.size = q8 at *
          refine held_one 13 (by kernel_rfl) ?_
          simp only [pick, List.getD_cons_zero, List.getD_cons_succ]
          go_wp2_with fail
          have hlq : lsum [B, [1, s.s.n], B1] = bl + 2 + yl := by
            have h1 := HH.out.1
            have h3 := HT1.out.2
            unfold lsum
            simp only [List.flatten_cons, List.flatten_nil, List.length_append, List.length_cons, List.length_nil]
            omega
          refine (concat_any F3.out.2.2.1 F3.out.2.2.2 (by decide) (by rw [hlq]; have h4 := HH.out.2.2.2.2.2; have h5 := HT1.out.1; have h6 := HM.out; omega)).mono ?_
          rintro e A9 ⟨v9, rfl, ho9, hb9⟩
          have ho9' := ho9.mono (show w.heap.size ≤ A8.heap.size from F3.out.1.size)
          have hqq : [B, [1, s.s.n], B1].flatten.length = psz four ((L.take (i + 1)).map SgV.sg) := by
            have h1 : [B, [1, s.s.n], B1].flatten.length = bl + 2 + yl := hlq
            rw [h1, HH.out.2.2.1, ← HH.out.2.1, HT1.out.1, HH.out.2.2.2.2.1]
            omega
          generalize [B, [1, s.s.n], B1].flatten = FL at *
          obtain ⟨o9, c9, rfl, -, -⟩ := ho9.sl0
          have HQ := Lib.hid hqq
          obtain ⟨fl, hfl⟩ : ∃ z, FL.length = z := ⟨_, rfl⟩
          rw [hfl] at ho9' ⊢
          clear hqq hfl
          clear hlq
          have F4 := Lib.hid (And.intro (bcall F3.out.1 (Nat.le_refl _) hb9) (And.intro (Cs.keep hb9 F3.out.2.1) (ho9')))
          clear F3
          clear hb9 ho9 ho9'
          go_wp2_with fail
          refine ⟨F4.out.2.1, ?_⟩
          refine held_one 14 (by kernel_rfl) ?_
          simp only [pick, List.getD_cons_zero, List.getD_cons_succ]
          go_wp2_with fail
          refine ⟨F4.out.2.1, ?_⟩
          refine wpAnyH_done (by kernel_rfl) ?_ _
          go_wp2_with fail
          exact ⟨⟨i + 1, _, hlt, by first | rw [hw3] | rw [Int.natCast_succ], F4.out.2.2, HQ.out, F4.out.1⟩, by first | (rw [hw3]; exact mSucc hlt) | (rw [← Int.natCast_succ]; exact mSucc hlt)⟩
        · simp only [pick, List.getD_cons_zero, List.getD_cons_succ]
          go_wp2_with fail
          refine (HSZ.out _).mono ?_
          rintro e W9 ⟨rfl, hw⟩
          have hw := hw.symm
          subst hw
          go_wp2_with fail
          refine ⟨F0.out.2.1, ?_⟩
          refine held_two 6 11 (by kernel_rfl) ?_ ?_
          · simp only [pick, List.getD_cons_zero, List.getD_cons_succ]
            have hal := (Below.refl V.heap.size V).alloc (Nat.le_refl _) (.cells #[.int .u8 1, .int .u8 (s.s.n : Int)] 5)
            have hnx : RB.Sl (V.alloc (.cells #[.int .u8 1, .int .u8 (s.s.n : Int)] 5)) (some ⟨V.heap.size, 0, none⟩) 2 2 [1, s.s.n] := Rep.sl_flat (R := RB) (M := [1, s.s.n]) (hnew _ _) (by unfold maxLen; simp)
            have F5 := Lib.hid (And.intro (bcall F0.out.1 (Nat.le_refl _) hal) (And.intro (Cs.keep hal F0.out.2.1) (And.intro (F0.out.2.2.1.keep hal) (And.intro (F0.out.2.2.2.1.keep hal) (And.intro F0.out.2.2.2.2 (hnx))))))
            clear F0
            clear hal hnx
            go_wp2_with fail
            refine ⟨F5.out.2.1, ?_⟩
            generalize V.alloc (.cells #[.int .u8 1, .int .u8 (s.s.n : Int)] 5) = A3 at *
            generalize V.heap.size = qP at *
            refine held_one 11 (by kernel_rfl) ?_
            simp only [pick, List.getD_cons_zero, List.getD_cons_succ]
            go_wp2_with fail
            refine (HK.out _ F5.out.2.2.2.1).mono ?_
            rintro e A4 ⟨v1, B1, rfl, ho1, hl1, hb1⟩
            obtain ⟨oy, cy, rfl, hsy, hny⟩ := ho1.sl0
            obtain ⟨yl, hyl⟩ : ∃ z, B1.length = z := ⟨_, rfl⟩
            rw [hyl] at hsy hl1 ⊢
            have F6 := Lib.hid (And.intro (bcall F5.out.1 (Nat.le_refl _) hb1) (And.intro (Cs.keep hb1 F5.out.2.1) (And.intro (F5.out.2.2.1.keep hb1) (And.intro F5.out.2.2.2.2.1 (And.intro (F5.out.2.2.2.2.2.keep hb1) (And.intro hsy (And.intro hny (And.intro hl1 (hyl)))))))))
            clear F5
            clear hb1 ho1 hl1 hsy hny hyl
            go_wp2_with fail
            refine ⟨F6.out.2.1, ?_⟩
            refine held_one 12 (by kernel_rfl) ?_
            simp only [pick, List.getD_cons_zero, List.getD_cons_succ]
            have hal := (Below.refl A4.heap.size A4).alloc (Nat.le_refl _) (.cells #[.slice oa2 bl cc, .slice (some ⟨qP, 0, none⟩) 2 2, .slice oy yl cy] 40)
            have hvs : RH.Sl (A4.alloc (.cells #[.slice oa2 bl cc, .slice (some ⟨qP, 0, none⟩) 2 2, .slice oy yl cy] 40)) (some ⟨A4.heap.size, 0, none⟩) 3 3 [(oa2, bl, cc), (some ⟨qP, 0, none⟩, 2, 2), (oy, yl, cy)] := Rep.sl_flat (R := RH) (M := [(oa2, bl, cc), (some ⟨qP, 0, none⟩, 2, 2), (oy, yl, cy)]) (hnew _ _) (by unfold maxLen; simp)
            have hbs : BSS (A4.alloc (.cells #[.slice oa2 bl cc, .slice (some ⟨qP, 0, none⟩) 2 2, .slice oy yl cy] 40)) [(oa2, bl, cc), (some ⟨qP, 0, none⟩, 2, 2), (oy, yl, cy)] [B, [1, s.s.n], B1] := BSS.cons (F6.out.2.2.1.keep hal) F6.out.2.2.2.1 (BSS.cons (F6.out.2.2.2.2.1.keep hal) (fun h => by cases h) (BSS.cons (F6.out.2.2.2.2.2.1.keep hal) F6.out.2.2.2.2.2.2.1 BSS.nil))
            have HT1 := Lib.hid (And.intro F6.out.2.2.2.2.2.2.2.1 F6.out.2.2.2.2.2.2.2.2)
            have F7 := Lib.hid (And.intro (bcall F6.out.1 (Nat.le_refl _) hal) (And.intro (Cs.keep hal F6.out.2.1) (And.intro hvs (hbs))))
            clear F6
            clear hal hvs hbs
            go_wp2_with fail
            refine ⟨F7.out.2.1, ?_⟩
            generalize A4.alloc (.cells #[.slice oa2 bl cc, .slice (some ⟨qP, 0, none⟩) 2 2, .slice oy yl cy] 40) = A8 at *
            generalize A4.heap.size = q8 at *
            refine held_one 13 (by kernel_rfl) ?_
            simp only [pick, List.getD_cons_zero, List.getD_cons_succ]
            go_wp2_with fail
            have hlq : lsum [B, [1, s.s.n], B1] = bl + 2 + yl := by
              have h1 := HH.out.1
              have h3 := HT1.out.2
              unfold lsum
              simp only [List.flatten_cons, List.flatten_nil, List.length_append, List.length_cons, List.length_nil]
              omega
            refine (concat_any F7.out.2.2.1 F7.out.2.2.2 (by decide) (by rw [hlq]; have h4 := HH.out.2.2.2.2.2; have h5 := HT1.out.1; have h6 := HM.out; omega)).mono ?_
            rintro e A9 ⟨v9, rfl, ho9, hb9⟩
            have ho9' := ho9.mono (show w.heap.size ≤ A8.heap.size from F7.out.1.size)
            have hqq : [B, [1, s.s.n], B1].flatten.length = psz four ((L.take (i + 1)).map SgV.sg) := by
              have h1 : [B, [1, s.s.n], B1].flatten.length = bl + 2 + yl := hlq
              rw [h1, HH.out.2.2.1, ← HH.out.2.1, HT1.out.1, HH.out.2.2.2.2.1]
              omega
            generalize [B, [1, s.s.n], B1].flatten = FL at *
            obtain ⟨o9, c9, rfl, -, -⟩ := ho9.sl0
            have HQ := Lib.hid hqq
            obtain ⟨fl, hfl⟩ : ∃ z, FL.length = z := ⟨_, rfl⟩
            rw [hfl] at ho9' ⊢
            clear hqq hfl
            clear hlq
            have F8 := Lib.hid (And.intro (bcall F7.out.1 (Nat.le_refl _) hb9) (And.intro (Cs.keep hb9 F7.out.2.1) (ho9')))
            clear F7
            clear hb9 ho9 ho9'
            go_wp2_with fail
            refine ⟨F8.out.2.1, ?_⟩
            refine held_one 14 (by kernel_rfl) ?_
            simp only [pick, List.getD_cons_zero, List.getD_cons_succ]
            go_wp2_with fail
            refine ⟨F8.out.2.1, ?_⟩
            refine wpAnyH_done (by kernel_rfl) ?_ _
            go_wp2_with fail
            exact ⟨⟨i + 1, _, hlt, by first | rw [hw3] | rw [Int.natCast_succ], F8.out.2.2, HQ.out, F8.out.1⟩, by first | (rw [hw3]; exact mSucc hlt) | (rw [← Int.natCast_succ]; exact mSucc hlt)⟩
          · simp only [pick, List.getD_cons_zero, List.getD_cons_succ]
            go_wp2_with fail
            refine (HK.out _ F0.out.2.2.2.1).mono ?_
            rintro e A5 ⟨v1, B1, rfl, ho1, hl1, hb1⟩
            obtain ⟨oy, cy, rfl, hsy, hny⟩ := ho1.sl0
            obtain ⟨yl, hyl⟩ : ∃ z, B1.length = z := ⟨_, rfl⟩
            rw [hyl] at hsy hl1 ⊢
            have F9 := Lib.hid (And.intro (bcall F0.out.1 (Nat.le_refl _) hb1) (And.intro (Cs.keep hb1 F0.out.2.1) (And.intro (F0.out.2.2.1.keep hb1) (And.intro F0.out.2.2.2.2 (And.intro hsy (And.intro hny (And.intro hl1 (hyl))))))))
            clear F0
            clear hb1 ho1 hl1 hsy hny hyl
            go_wp2_with fail
            refine ⟨F9.out.2.1, ?_⟩
            refine held_one 6 (by kernel_rfl) ?_
            simp only [pick, List.getD_cons_zero, List.getD_cons_succ]
            have hal := (Below.refl A5.heap.size A5).alloc (Nat.le_refl _) (.cells #[.int .u8 1, .int .u8 (s.s.n : Int)] 5)
            have hnx : RB.Sl (A5.alloc (.cells #[.int .u8 1, .int .u8 (s.s.n : Int)] 5)) (some ⟨A5.heap.size, 0, none⟩) 2 2 [1, s.s.n] := Rep.sl_flat (R := RB) (M := [1, s.s.n]) (hnew _ _) (by unfold maxLen; simp)
            have F10 := Lib.hid (And.intro (bcall F9.out.1 (Nat.le_refl _) hal) (And.intro (Cs.keep hal F9.out.2.1) (And.intro (F9.out.2.2.1.keep hal) (And.intro F9.out.2.2.2.1 (And.intro (F9.out.2.2.2.2.1.keep hal) (And.intro F9.out.2.2.2.2.2.1 (And.intro F9.out.2.2.2.2.2.2.1 (And.intro F9.out.2.2.2.2.2.2.2 (hnx)))))))))
            clear F9
            clear hal hnx
            go_wp2_with fail
            refine ⟨F10.out.2.1, ?_⟩
            generalize A5.alloc (.cells #[.int .u8 1, .int .u8 (s.s.n : Int)] 5) = A6 at *
            generalize A5.heap.size = qP at *
            refine held_one 12 (by kernel_rfl) ?_
            simp only [pick, List.getD_cons_zero, List.getD_cons_succ]
            have hal := (Below.refl A6.heap.size A6).alloc (Nat.le_refl _) (.cells #[.slice oa2 bl cc, .slice (some ⟨qP, 0, none⟩) 2 2, .slice oy yl cy] 40)
            have hvs : RH.Sl (A6.alloc (.cells #[.slice oa2 bl cc, .slice (some ⟨qP, 0, none⟩) 2 2, .slice oy yl cy] 40)) (some ⟨A6.heap.size, 0, none⟩) 3 3 [(oa2, bl, cc), (some ⟨qP, 0, none⟩, 2, 2), (oy, yl, cy)] := Rep.sl_flat (R := RH) (M := [(oa2, bl, cc), (some ⟨qP, 0, none⟩, 2, 2), (oy, yl, cy)]) (hnew _ _) (by unfold maxLen; simp)
            have hbs : BSS (A6.alloc (.cells #[.slice oa2 bl cc, .slice (some ⟨qP, 0, none⟩) 2 2, .slice oy yl cy] 40)) [(oa2, bl, cc), (some ⟨qP, 0, none⟩, 2, 2), (oy, yl, cy)] [B, [1, s.s.n], B1] := BSS.cons (F10.out.2.2.1.keep hal) F10.out.2.2.2.1 (BSS.cons (F10.out.2.2.2.2.2.2.2.2.keep hal) (fun h => by cases h) (BSS.cons (F10.out.2.2.2.2.1.keep hal) F10.out.2.2.2.2.2.1 BSS.nil))
            have HT1 := Lib.hid (And.intro F10.out.2.2.2.2.2.2.1 F10.out.2.2.2.2.2.2.2.1)
            have F11 := Lib.hid (And.intro (bcall F10.out.1 (Nat.le_refl _) hal) (And.intro (Cs.keep hal F10.out.2.1) (And.intro hvs (hbs))))
            clear F10
            clear hal hvs hbs
            go_wp2_with fail
            refine ⟨F11.out.2.1, ?_⟩
            generalize A6.alloc (.cells #[.slice oa2 bl cc, .slice (some ⟨qP, 0, none⟩) 2 2, .slice oy yl cy] 40) = A8 at *
            generalize A6.heap.size = q8 at *
            refine held_one 13 (by kernel_rfl) ?_
            simp only [pick, List.getD_cons_zero, List.getD_cons_succ]
            go_wp2_with fail
            have hlq : lsum [B, [1, s.s.n], B1] = bl + 2 + yl := by
              have h1 := HH.out.1
              have h3 := HT1.out.2
              unfold lsum
              simp only [List.flatten_cons, List.flatten_nil, List.length_append, List.length_cons, List.length_nil]
              omega
            refine (concat_any F11.out.2.2.1 F11.out.2.2.2 (by decide) (by rw [hlq]; have h4 := HH.out.2.2.2.2.2; have h5 := HT1.out.1; have h6 := HM.out; omega)).mono ?_
            rintro e A9 ⟨v9, rfl, ho9, hb9⟩
            have ho9' := ho9.mono (show w.heap.size ≤ A8.heap.size from F11.out.1.size)
            have hqq : [B, [1, s.s.n], B1].flatten.length = psz four ((L.take (i + 1)).map SgV.sg) := by
              have h1 : [B, [1, s.s.n], B1].flatten.length = bl + 2 + yl := hlq
              rw [h1, HH.out.2.2.1, ← HH.out.2.1, HT1.out.1, HH.out.2.2.2.2.1]
              omega
            generalize [B, [1, s.s.n], B1].flatten = FL at *
            obtain ⟨o9, c9, rfl, -, -⟩ := ho9.sl0
            have HQ := Lib.hid hqq
            obtain ⟨fl, hfl⟩ : ∃ z, FL.length = z := ⟨_, rfl⟩
            rw [hfl] at ho9' ⊢
            clear hqq hfl
            clear hlq
            have F12 := Lib.hid (And.intro (bcall F11.out.1 (Nat.le_refl _) hb9) (And.intro (Cs.keep hb9 F11.out.2.1) (ho9')))
            clear F11
            clear hb9 ho9 ho9'
            go_wp2_with fail
            refine ⟨F12.out.2.1, ?_⟩
            refine held_one 14 (by kernel_rfl) ?_
            simp only [pick, List.getD_cons_zero, List.getD_cons_succ]
            go_wp2_with fail
            refine ⟨F12.out.2.1, ?_⟩
            refine wpAnyH_done (by kernel_rfl) ?_ _
            go_wp2_with fail
            exact ⟨⟨i + 1, _, hlt, by first | rw [hw3] | rw [Int.natCast_succ], F12.out.2.2, HQ.out, F12.out.1⟩, by first | (rw [hw3]; exact mSucc hlt) | (rw [← Int.natCast_succ]; exact mSucc hlt)⟩
      | false =>
        have hn64 : s.s.n ≤ 64 := HH.out.2.2.2.1.1
        go_wp2_with fail
        clear z0 z1
        refine wp_region_heldP (Cs [(⟨q2, 1, none⟩, .slice s.s.a s.s.n s.s.c)]) (by kernel_rfl) ?_
        generalize wz.drew = V at *
        refine held_reads [0, 1, 2, 3, 4, 5, 7, 9, 10] (g := 6) rfl (by kernel_rfl) F0.out.2.1 (fun _ _ d _ _ h => by cases d <;> exact h) ?_
        simp only [pick, List.getD_cons_zero, List.getD_cons_succ]
        ((with_reducible refine wpRead_step (fun K hK => ?_)); go_simp; first | (rw [if_neg (by decide)]; (with_reducible refine hK _ ?_); clear hK K) | ((with_reducible refine hK _ ?_); clear hK K) | (apply Exists.intro; (with_reducible refine ⟨fun w' hw' => ?_, hK _ ?_⟩); (obtain ⟨f0, -⟩ := hw'; dsimp only at f0; go_simp; first | exact rfl | exact ⟨rfl, rfl⟩); clear hK K))
        ((with_reducible refine wpRead_step (fun K hK => ?_)); go_simp; first | (rw [if_neg (by decide)]; (with_reducible refine hK _ ?_); clear hK K) | ((with_reducible refine hK _ ?_); clear hK K) | (apply Exists.intro; (with_reducible refine ⟨fun w' hw' => ?_, hK _ ?_⟩); (obtain ⟨f0, -⟩ := hw'; dsimp only at f0; go_simp; first | exact rfl | exact ⟨rfl, rfl⟩); clear hK K))
        ((with_reducible refine wpRead_step (fun K hK => ?_)); go_simp; first | (rw [if_neg (by decide)]; (with_reducible refine hK _ ?_); clear hK K) | ((with_reducible refine hK _ ?_); clear hK K) | (apply Exists.intro; (with_reducible refine ⟨fun w' hw' => ?_, hK _ ?_⟩); (obtain ⟨f0, -⟩ := hw'; dsimp only at f0; go_simp; first | exact rfl | exact ⟨rfl, rfl⟩); clear hK K))
        ((with_reducible refine wpRead_step (fun K hK => ?_)); go_simp; first | (rw [if_neg (by decide)]; (with_reducible refine hK _ ?_); clear hK K) | ((with_reducible refine hK _ ?_); clear hK K) | (apply Exists.intro; (with_reducible refine ⟨fun w' hw' => ?_, hK _ ?_⟩); (obtain ⟨f0, -⟩ := hw'; dsimp only at f0; go_simp; first | exact rfl | exact ⟨rfl, rfl⟩); clear hK K))
        ((with_reducible refine wpRead_step (fun K hK => ?_)); go_simp; first | (rw [if_neg (by decide)]; (with_reducible refine hK _ ?_); clear hK K) | ((with_reducible refine hK _ ?_); clear hK K) | (apply Exists.intro; (with_reducible refine ⟨fun w' hw' => ?_, hK _ ?_⟩); (obtain ⟨f0, -⟩ := hw'; dsimp only at f0; go_simp; first | exact rfl | exact ⟨rfl, rfl⟩); clear hK K))
        ((with_reducible refine wpRead_step (fun K hK => ?_)); go_simp; first | (rw [if_neg (by decide)]; (with_reducible refine hK _ ?_); clear hK K) | ((with_reducible refine hK _ ?_); clear hK K) | (apply Exists.intro; (with_reducible refine ⟨fun w' hw' => ?_, hK _ ?_⟩); (obtain ⟨f0, -⟩ := hw'; dsimp only at f0; go_simp; first | exact rfl | exact ⟨rfl, rfl⟩); clear hK K))
        ((with_reducible refine wpRead_step (fun K hK => ?_)); go_simp; first | (rw [if_neg (by decide)]; (with_reducible refine hK _ ?_); clear hK K) | ((with_reducible refine hK _ ?_); clear hK K) | (apply Exists.intro; (with_reducible refine ⟨fun w' hw' => ?_, hK _ ?_⟩); (obtain ⟨f0, -⟩ := hw'; dsimp only at f0; go_simp; first | exact rfl | exact ⟨rfl, rfl⟩); clear hK K))
        ((with_reducible refine wpRead_step (fun K hK => ?_)); go_simp; first | (rw [if_neg (by decide)]; (with_reducible refine hK _ ?_); clear hK K) | ((with_reducible refine hK _ ?_); clear hK K) | (apply Exists.intro; (with_reducible refine ⟨fun w' hw' => ?_, hK _ ?_⟩); (obtain ⟨f0, -⟩ := hw'; dsimp only at f0; go_simp; first | exact rfl | exact ⟨rfl, rfl⟩); clear hK K))
        ((with_reducible refine wpRead_step (fun K hK => ?_)); go_simp; first | (rw [if_neg (by decide)]; (with_reducible refine hK _ ?_); clear hK K) | ((with_reducible refine hK _ ?_); clear hK K) | (apply Exists.intro; (with_reducible refine ⟨fun w' hw' => ?_, hK _ ?_⟩); (obtain ⟨f0, -⟩ := hw'; dsimp only at f0; go_simp; first | exact rfl | exact ⟨rfl, rfl⟩); clear hK K))
        with_reducible refine wpRead_nil ?_
        refine held_two 6 8 (by kernel_rfl) ?_ ?_
        · simp only [pick, List.getD_cons_zero, List.getD_cons_succ]
          have hal := (Below.refl V.heap.size V).alloc (Nat.le_refl _) (.cells #[.int .u8 2, .int .u8 (s.s.n : Int)] 5)
          have hnx : RB.Sl (V.alloc (.cells #[.int .u8 2, .int .u8 (s.s.n : Int)] 5)) (some ⟨V.heap.size, 0, none⟩) 2 2 [2, s.s.n] := Rep.sl_flat (R := RB) (M := [2, s.s.n]) (hnew _ _) (by unfold maxLen; simp)
          have F13 := Lib.hid (And.intro (bcall F0.out.1 (Nat.le_refl _) hal) (And.intro (Cs.keep hal F0.out.2.1) (And.intro (F0.out.2.2.1.keep hal) (And.intro (F0.out.2.2.2.1.keep hal) (And.intro F0.out.2.2.2.2 (hnx))))))
          clear F0
          clear hal hnx
          go_wp2_with fail
          refine ⟨F13.out.2.1, ?_⟩
          generalize V.alloc (.cells #[.int .u8 2, .int .u8 (s.s.n : Int)] 5) = A1 at *
          generalize V.heap.size = qP at *
          refine held_one 8 (by kernel_rfl) ?_
          simp only [pick, List.getD_cons_zero, List.getD_cons_succ]
          go_wp2_with fail
          refine (HSZ.out _).mono ?_
          rintro e W9 ⟨rfl, hw⟩
          have hw := hw.symm
          subst hw
          go_wp2_with fail
          refine ⟨F13.out.2.1, ?_⟩
          refine held_one 11 (by kernel_rfl) ?_
          simp only [pick, List.getD_cons_zero, List.getD_cons_succ]
          go_wp2_with fail
          refine (HK.out _ F13.out.2.2.2.1).mono ?_
          rintro e A2 ⟨v1, B1, rfl, ho1, hl1, hb1⟩
          obtain ⟨oy, cy, rfl, hsy, hny⟩ := ho1.sl0
          obtain ⟨yl, hyl⟩ : ∃ z, B1.length = z := ⟨_, rfl⟩
          rw [hyl] at hsy hl1 ⊢
          have F14 := Lib.hid (And.intro (bcall F13.out.1 (Nat.le_refl _) hb1) (And.intro (Cs.keep hb1 F13.out.2.1) (And.intro (F13.out.2.2.1.keep hb1) (And.intro F13.out.2.2.2.2.1 (And.intro (F13.out.2.2.2.2.2.keep hb1) (And.intro hsy (And.intro hny (And.intro hl1 (hyl)))))))))
          clear F13
          clear hb1 ho1 hl1 hsy hny hyl
          go_wp2_with fail
          refine ⟨F14.out.2.1, ?_⟩
          refine held_one 12 (by kernel_rfl) ?_
          simp only [pick, List.getD_cons_zero, List.getD_cons_succ]
          have hal := (Below.refl A2.heap.size A2).alloc (Nat.le_refl _) (.cells #[.slice oa2 bl cc, .slice (some ⟨qP, 0, none⟩) 2 2, .slice oy yl cy] 40)
          have hvs : RH.Sl (A2.alloc (.cells #[.slice oa2 bl cc, .slice (some ⟨qP, 0, none⟩) 2 2, .slice oy yl cy] 40)) (some ⟨A2.heap.size, 0, none⟩) 3 3 [(oa2, bl, cc), (some ⟨qP, 0, none⟩, 2, 2), (oy, yl, cy)] := Rep.sl_flat (R := RH) (M := [(oa2, bl, cc), (some ⟨qP, 0, none⟩, 2, 2), (oy, yl, cy)]) (hnew _ _) (by unfold maxLen; simp)
          have hbs : BSS (A2.alloc (.cells #[.slice oa2 bl cc, .slice (some ⟨qP, 0, none⟩) 2 2, .slice oy yl cy] 40)) [(oa2, bl, cc), (some ⟨qP, 0, none⟩, 2, 2), (oy, yl, cy)] [B, [2, s.s.n], B1] := BSS.cons (F14.out.2.2.1.keep hal) F14.out.2.2.2.1 (BSS.cons (F14.out.2.2.2.2.1.keep hal) (fun h => by cases h) (BSS.cons (F14.out.2.2.2.2.2.1.keep hal) F14.out.2.2.2.2.2.2.1 BSS.nil))
          have HT1 := Lib.hid (And.intro F14.out.2.2.2.2.2.2.2.1 F14.out.2.2.2.2.2.2.2.2)
          have F15 := Lib.hid (And.intro (bcall F14.out.1 (Nat.le_refl _) hal) (And.intro (Cs.keep hal F14.out.2.1) (And.intro hvs (hbs))))
          clear F14
          clear hal hvs hbs
          go_wp2_with fail
          refine ⟨F15.out.2.1, ?_⟩
          generalize A2.alloc (.cells #[.slice oa2 bl cc, .slice (some ⟨qP, 0, none⟩) 2 2, .slice oy yl cy] 40) = A8 at *
          generalize A2.heap.size = q8 at *
          refine held_one 13 (by kernel_rfl) ?_
          simp only [pick, List.getD_cons_zero, List.getD_cons_succ]
          go_wp2_with fail
          have hlq : lsum [B, [2, s.s.n], B1] = bl + 2 + yl := by
            have h1 := HH.out.1
            have h3 := HT1.out.2
            unfold lsum
            simp only [List.flatten_cons, List.flatten_nil, List.length_append, List.length_cons, List.length_nil]
            omega
          refine (concat_any F15.out.2.2.1 F15.out.2.2.2 (by decide) (by rw [hlq]; have h4 := HH.out.2.2.2.2.2; have h5 := HT1.out.1; have h6 := HM.out; omega)).mono ?_
          rintro e A9 ⟨v9, rfl, ho9, hb9⟩
          have ho9' := ho9.mono (show w.heap.size ≤ A8.heap.size from F15.out.1.size)
          have hqq : [B, [2, s.s.n], B1].flatten.length = psz four ((L.take (i + 1)).map SgV.sg) := by
            have h1 : [B, [2, s.s.n], B1].flatten.length = bl + 2 + yl := hlq
            rw [h1, HH.out.2.2.1, ← HH.out.2.1, HT1.out.1, HH.out.2.2.2.2.1]
            omega
          generalize [B, [2, s.s.n], B1].flatten = FL at *
          obtain ⟨o9, c9, rfl, -, -⟩ := ho9.sl0
          have HQ := Lib.hid hqq
          obtain ⟨fl, hfl⟩ : ∃ z, FL.length = z := ⟨_, rfl⟩
          rw [hfl] at ho9' ⊢
          clear hqq hfl
          clear hlq
          have F16 := Lib.hid (And.intro (bcall F15.out.1 (Nat.le_refl _) hb9) (And.intro (Cs.keep hb9 F15.out.2.1) (ho9')))
          clear F15
          clear hb9 ho9 ho9'
          go_wp2_with fail
          refine ⟨F16.out.2.1, ?_⟩
          refine held_one 14 (by kernel_rfl) ?_
          simp only [pick, List.getD_cons_zero, List.getD_cons_succ]
          go_wp2_with fail
          refine ⟨F16.out.2.1, ?_⟩
          refine wpAnyH_done (by kernel_rfl) ?_ _
          go_wp2_with fail
          exact ⟨⟨i + 1, _, hlt, by first | rw [hw3] | rw [Int.natCast_succ], F16.out.2.2, HQ.out, F16.out.1⟩, by first | (rw [hw3]; exact mSucc hlt) | (rw [← Int.natCast_succ]; exact mSucc hlt)⟩
        · simp only [pick, List.getD_cons_zero, List.getD_cons_succ]
          go_wp2_with fail
          refine (HSZ.out _).mono ?_
          rintro e W9 ⟨rfl, hw⟩
          have hw := hw.symm
          subst hw
          go_wp2_with fail
          refine ⟨F0.out.2.1, ?_⟩
          refine held_two 6 11 (by kernel_rfl) ?_ ?_
          · simp only [pick, List.getD_cons_zero, List.getD_cons_succ]
            have hal := (Below.refl V.heap.size V).alloc (Nat.le_refl _) (.cells #[.int .u8 2, .int .u8 (s.s.n : Int)] 5)
            have hnx : RB.Sl (V.alloc (.cells #[.int .u8 2, .int .u8 (s.s.n : Int)] 5)) (some ⟨V.heap.size, 0, none⟩) 2 2 [2, s.s.n] := Rep.sl_flat (R := RB) (M := [2, s.s.n]) (hnew _ _) (by unfold maxLen; simp)
            have F17 := Lib.hid (And.intro (bcall F0.out.1 (Nat.le_refl _) hal) (And.intro (Cs.keep hal F0.out.2.1) (And.intro (F0.out.2.2.1.keep hal) (And.intro (F0.out.2.2.2.1.keep hal) (And.intro F0.out.2.2.2.2 (hnx))))))
            clear F0
            clear hal hnx
            go_wp2_with fail
            refine ⟨F17.out.2.1, ?_⟩
            generalize V.alloc (.cells #[.int .u8 2, .int .u8 (s.s.n : Int)] 5) = A3 at *
            generalize V.heap.size = qP at *
            refine held_one 11 (by kernel_rfl) ?_
            simp only [pick, List.getD_cons_zero, List.getD_cons_succ]
            go_wp2_with fail
            refine (HK.out _ F17.out.2.2.2.1).mono ?_
            rintro e A4 ⟨v1, B1, rfl, ho1, hl1, hb1⟩
            obtain ⟨oy, cy, rfl, hsy, hny⟩ := ho1.sl0
            obtain ⟨yl, hyl⟩ : ∃ z, B1.length = z := ⟨_, rfl⟩
            rw [hyl] at hsy hl1 ⊢
            have F18 := Lib.hid (And.intro (bcall F17.out.1 (Nat.le_refl _) hb1) (And.intro (Cs.keep hb1 F17.out.2.1) (And.intro (F17.out.2.2.1.keep hb1) (And.intro F17.out.2.2.2.2.1 (And.intro (F17.out.2.2.2.2.2.keep hb1) (And.intro hsy (And.intro hny (And.intro hl1 (hyl)))))))))
            clear F17
            clear hb1 ho1 hl1 hsy hny hyl
            go_wp2_with fail
            refine ⟨F18.out.2.1, ?_⟩
            refine held_one 12 (by kernel_rfl) ?_
            simp only [pick, List.getD_cons_zero, List.getD_cons_succ]
            have hal := (Below.refl A4.heap.size A4).alloc (Nat.le_refl _) (.cells #[.slice oa2 bl cc, .slice (some ⟨qP, 0, none⟩) 2 2, .slice oy yl cy] 40)
            have hvs : RH.Sl (A4.alloc (.cells #[.slice oa2 bl cc, .slice (some ⟨qP, 0, none⟩) 2 2, .slice oy yl cy] 40)) (some ⟨A4.heap.size, 0, none⟩) 3 3 [(oa2, bl, cc), (some ⟨qP, 0, none⟩, 2, 2), (oy, yl, cy)] := Rep.sl_flat (R := RH) (M := [(oa2, bl, cc), (some ⟨qP, 0, none⟩, 2, 2), (oy, yl, cy)]) (hnew _ _) (by unfold maxLen; simp)
            have hbs : BSS (A4.alloc (.cells #[.slice oa2 bl cc, .slice (some ⟨qP, 0, none⟩) 2 2, .slice oy yl cy] 40)) [(oa2, bl, cc), (some ⟨qP, 0, none⟩, 2, 2), (oy, yl, cy)] [B, [2, s.s.n], B1] := BSS.cons (F18.out.2.2.1.keep hal) F18.out.2.2.2.1 (BSS.cons (F18.out.2.2.2.2.1.keep hal) (fun h => by cases h) (BSS.cons (F18.out.2.2.2.2.2.1.keep hal) F18.out.2.2.2.2.2.2.1 BSS.nil))
            have HT1 := Lib.hid (And.intro F18.out.2.2.2.2.2.2.2.1 F18.out.2.2.2.2.2.2.2.2)
            have F19 := Lib.hid (And.intro (bcall F18.out.1 (Nat.le_refl _) hal) (And.intro (Cs.keep hal F18.out.2.1) (And.intro hvs (hbs))))
            clear F18
            clear hal hvs hbs
            go_wp2_with fail
            refine ⟨F19.out.2.1, ?_⟩
            generalize A4.alloc (.cells #[.slice oa2 bl cc, .slice (some ⟨qP, 0, none⟩) 2 2, .slice oy yl cy] 40) = A8 at *
            generalize A4.heap.size = q8 at *
            refine held_one 13 (by kernel_rfl) ?_
            simp only [pick, List.getD_cons_zero, List.getD_cons_succ]
            go_wp2_with fail
            have hlq : lsum [B, [2, s.s.n], B1] = bl + 2 + yl := by
              have h1 := HH.out.1
              have h3 := HT1.out.2
              unfold lsum
              simp only [List.flatten_cons, List.flatten_nil, List.length_append, List.length_cons, List.length_nil]
              omega
            refine (concat_any F19.out.2.2.1 F19.out.2.2.2 (by decide) (by rw [hlq]; have h4 := HH.out.2.2.2.2.2; have h5 := HT1.out.1; have h6 := HM.out; omega)).mono ?_
            rintro e A9 ⟨v9, rfl, ho9, hb9⟩
            have ho9' := ho9.mono (show w.heap.size ≤ A8.heap.size from F19.out.1.size)
            have hqq : [B, [2, s.s.n], B1].flatten.length = psz four ((L.take (i + 1)).map SgV.sg) := by
              have h1 : [B, [2, s.s.n], B1].flatten.length = bl + 2 + yl := hlq
              rw [h1, HH.out.2.2.1, ← HH.out.2.1, HT1.out.1, HH.out.2.2.2.2.1]
              omega
            generalize [B, [2, s.s.n], B1].flatten = FL at *
            obtain ⟨o9, c9, rfl, -, -⟩ := ho9.sl0
            have HQ := Lib.hid hqq
            obtain ⟨fl, hfl⟩ : ∃ z, FL.length = z := ⟨_, rfl⟩
            rw [hfl] at ho9' ⊢
            clear hqq hfl
            clear hlq
            have F20 := Lib.hid (And.intro (bcall F19.out.1 (Nat.le_refl _) hb9) (And.intro (Cs.keep hb9 F19.out.2.1) (ho9')))
            clear F19
            clear hb9 ho9 ho9'
            go_wp2_with fail
            refine ⟨F20.out.2.1, ?_⟩
            refine held_one 14 (by kernel_rfl) ?_
            simp only [pick, List.getD_cons_zero, List.getD_cons_succ]
            go_wp2_with fail
            refine ⟨F20.out.2.1, ?_⟩
            refine wpAnyH_done (by kernel_rfl) ?_ _
            go_wp2_with fail
            exact ⟨⟨i + 1, _, hlt, by first | rw [hw3] | rw [Int.natCast_succ], F20.out.2.2, HQ.out, F20.out.1⟩, by first | (rw [hw3]; exact mSucc hlt) | (rw [← Int.natCast_succ]; exact mSucc hlt)⟩
          · simp only [pick, List.getD_cons_zero, List.getD_cons_succ]
            go_wp2_with fail
            refine (HK.out _ F0.out.2.2.2.1).mono ?_
            rintro e A5 ⟨v1, B1, rfl, ho1, hl1, hb1⟩
            obtain ⟨oy, cy, rfl, hsy, hny⟩ := ho1.sl0
            obtain ⟨yl, hyl⟩ : ∃ z, B1.length = z := ⟨_, rfl⟩
            rw [hyl] at hsy hl1 ⊢
            have F21 := Lib.hid (And.intro (bcall F0.out.1 (Nat.le_refl _) hb1) (And.intro (Cs.keep hb1 F0.out.2.1) (And.intro (F0.out.2.2.1.keep hb1) (And.intro F0.out.2.2.2.2 (And.intro hsy (And.intro hny (And.intro hl1 (hyl))))))))
            clear F0
            clear hb1 ho1 hl1 hsy hny hyl
            go_wp2_with fail
            refine ⟨F21.out.2.1, ?_⟩
            refine held_one 6 (by kernel_rfl) ?_
            simp only [pick, List.getD_cons_zero, List.getD_cons_succ]
            have hal := (Below.refl A5.heap.size A5).alloc (Nat.le_refl _) (.cells #[.int .u8 2, .int .u8 (s.s.n : Int)] 5)
            have hnx : RB.Sl (A5.alloc (.cells #[.int .u8 2, .int .u8 (s.s.n : Int)] 5)) (some ⟨A5.heap.size, 0, none⟩) 2 2 [2, s.s.n] := Rep.sl_flat (R := RB) (M := [2, s.s.n]) (hnew _ _) (by unfold maxLen; simp)
            have F22 := Lib.hid (And.intro (bcall F21.out.1 (Nat.le_refl _) hal) (And.intro (Cs.keep hal F21.out.2.1) (And.intro (F21.out.2.2.1.keep hal) (And.intro F21.out.2.2.2.1 (And.intro (F21.out.2.2.2.2.1.keep hal) (And.intro F21.out.2.2.2.2.2.1 (And.intro F21.out.2.2.2.2.2.2.1 (And.intro F21.out.2.2.2.2.2.2.2 (hnx)))))))))
            clear F21
            clear hal hnx
            go_wp2_with fail
            refine ⟨F22.out.2.1, ?_⟩
            generalize A5.alloc (.cells #[.int .u8 2, .int .u8 (s.s.n : Int)] 5) = A6 at *
            generalize A5.heap.size = qP at *
            refine held_one 12 (by kernel_rfl) ?_
            simp only [pick, List.getD_cons_zero, List.getD_cons_succ]
            have hal := (Below.refl A6.heap.size A6).alloc (Nat.le_refl _) (.cells #[.slice oa2 bl cc, .slice (some ⟨qP, 0, none⟩) 2 2, .slice oy yl cy] 40)
            have hvs : RH.Sl (A6.alloc (.cells #[.slice oa2 bl cc, .slice (some ⟨qP, 0, none⟩) 2 2, .slice oy yl cy] 40)) (some ⟨A6.heap.size, 0, none⟩) 3 3 [(oa2, bl, cc), (some ⟨qP, 0, none⟩, 2, 2), (oy, yl, cy)] := Rep.sl_flat (R := RH) (M := [(oa2, bl, cc), (some ⟨qP, 0, none⟩, 2, 2), (oy, yl, cy)]) (hnew _ _) (by unfold maxLen; simp)
            have hbs : BSS (A6.alloc (.cells #[.slice oa2 bl cc, .slice (some ⟨qP, 0, none⟩) 2 2, .slice oy yl cy] 40)) [(oa2, bl, cc), (some ⟨qP, 0, none⟩, 2, 2), (oy, yl, cy)] [B, [2, s.s.n], B1] := BSS.cons (F22.out.2.2.1.keep hal) F22.out.2.2.2.1 (BSS.cons (F22.out.2.2.2.2.2.2.2.2.keep hal) (fun h => by cases h) (BSS.cons (F22.out.2.2.2.2.1.keep hal) F22.out.2.2.2.2.2.1 BSS.nil))
            have HT1 := Lib.hid (And.intro F22.out.2.2.2.2.2.2.1 F22.out.2.2.2.2.2.2.2.1)
            have F23 := Lib.hid (And.intro (bcall F22.out.1 (Nat.le_refl _) hal) (And.intro (Cs.keep hal F22.out.2.1) (And.intro hvs (hbs))))
            clear F22
            clear hal hvs hbs
            go_wp2_with fail
            refine ⟨F23.out.2.1, ?_⟩
            generalize A6.alloc (.cells #[.slice oa2 bl cc, .slice (some ⟨qP, 0, none⟩) 2 2, .slice oy yl cy] 40) = A8 at *
            generalize A6.heap.size = q8 at *
            refine held_one 13 (by kernel_rfl) ?_
            simp only [pick, List.getD_cons_zero, List.getD_cons_succ]
            go_wp2_with fail
            have hlq : lsum [B, [2, s.s.n], B1] = bl + 2 + yl := by
              have h1 := HH.out.1
              have h3 := HT1.out.2
              unfold lsum
              simp only [List.flatten_cons, List.flatten_nil, List.length_append, List.length_cons, List.length_nil]
              omega
            refine (concat_any F23.out.2.2.1 F23.out.2.2.2 (by decide) (by rw [hlq]; have h4 := HH.out.2.2.2.2.2; have h5 := HT1.out.1; have h6 := HM.out; omega)).mono ?_
            rintro e A9 ⟨v9, rfl, ho9, hb9⟩
            have ho9' := ho9.mono (show w.heap.size ≤ A8.heap.size from F23.out.1.size)
            have hqq : [B, [2, s.s.n], B1].flatten.length = psz four ((L.take (i + 1)).map SgV.sg) := by
              have h1 : [B, [2, s.s.n], B1].flatten.length = bl + 2 + yl := hlq
              rw [h1, HH.out.2.2.1, ← HH.out.2.1, HT1.out.1, HH.out.2.2.2.2.1]
              omega
            generalize [B, [2, s.s.n], B1].flatten = FL at *
            obtain ⟨o9, c9, rfl, -, -⟩ := ho9.sl0
            have HQ := Lib.hid hqq
            obtain ⟨fl, hfl⟩ : ∃ z, FL.length = z := ⟨_, rfl⟩
            rw [hfl] at ho9' ⊢
            clear hqq hfl
            clear hlq
            have F24 := Lib.hid (And.intro (bcall F23.out.1 (Nat.le_refl _) hb9) (And.intro (Cs.keep hb9 F23.out.2.1) (ho9')))
            clear F23
            clear hb9 ho9 ho9'
            go_wp2_with fail
            refine ⟨F24.out.2.1, ?_⟩
            refine held_one 14 (by kernel_rfl) ?_
            simp only [pick, List.getD_cons_zero, List.getD_cons_succ]
            go_wp2_with fail
            refine ⟨F24.out.2.1, ?_⟩
            refine wpAnyH_done (by kernel_rfl) ?_ _
            go_wp2_with fail
            exact ⟨⟨i + 1, _, hlt, by first | rw [hw3] | rw [Int.natCast_succ], F24.out.2.2, HQ.out, F24.out.1⟩, by first | (rw [hw3]; exact mSucc hlt) | (rw [← Int.natCast_succ]; exact mSucc hlt)⟩
    · obtain rfl : n = i := by omega
      have hil : ((n : Int) < (n : Int)) = False := by simp
      rw [show L.take n = L from List.take_of_length_le (by rw [← HL.out]; exact Nat.le_refl _)] at hlen
      have HB := Lib.hid (And.intro hown (And.intro hlen hb))
      clear hb hown hlen hsl2 hn2
      go_wp2_with fail
      go_ret
      exact ⟨_, _, rfl, HB.out⟩
end Go.Proofs.Ytadoflcomienoaa

