/- The bytes of attributes, as the reference tells: how many. -/
import Derived.Test.YtadoflcomienoaaQaj
namespace Go.Proofs.Ytadoflcomienoaa
open Go.RowKit

/-- the bytes of a segment so far -/
def InR (w1 : World) (q bl : Nat) (four : Bool) (s : SgV) (sv : Value) (k : Nat) (wr : World) : Prop := ∃ B : List Nat, RB.Own wr w1.heap.size sv B ∧ B.length = bl + 2 + wd four * k ∧ sv.ownBlock ≠ some q ∧ BxS q s wr ∧ Below w1.heap.size w1 wr
theorem wd_le (four : Bool) : 2 ≤ wd four ∧ wd four ≤ 4 := by cases four <;> decide
theorem wdk_le (four : Bool) {k : Nat} (h : k ≤ 64) : wd four * k ≤ 256 := Nat.le_trans (Nat.mul_le_mul (wd_le four).2 h) (by decide)
set_option maxRecDepth 100000 in
set_option maxHeartbeats 16000000 in
theorem rput_len {w : World} {x : AtV} (hx : AtOk w x) {four : Bool} (hok : okA four x.at = true) : Calls Try.prog 9 #[x.v, .bool four] w fun e w' => ∃ v B, e = .returned v ∧ RB.Own w' w.heap.size v B ∧ B.length = asz four x.at ∧ Below w.heap.size w w' := by
  have hk := (okA_iff hx).1 hok
  obtain ⟨on, nn, ho, ho2, hnn, hnf, hnb⟩ := okA_nums hx hok
  have HS := Lib.hid (show asz four x.at = 4 + (hdz (psz four (x.p.l.map SgV.sg)) + psz four (x.p.l.map SgV.sg)) + 7 + (if 0 ≤ x.md then 7 else 0) + (if 0 ≤ x.pf then 7 else 0) + (if x.c.n = 0 then 0 else 3 + 4 * x.c.n) from by
    rw [hx.c.sl.len]; rfl)
  have HP := Lib.hid (show (x.p.l.map SgV.sg).all (okSg four) = true from by
    rw [List.all_map, List.all_eq_true]
    exact fun s hs => hk.2.2.2.2.2.2.1 s hs)
  have HCm := Lib.hid (show x.c.l.all (fitsB 4) = true from List.all_eq_true.2 hk.2.2.2.2.2.2.2)
  have HPz := Lib.hid (show psz four (x.p.l.map SgV.sg) ≤ 2064 from by
    have h1 := psz_le HP.out
    rw [List.length_map, ← hx.p.sl.len] at h1
    have := hk.2.2.2.2.1
    omega)
  have hp8 := hk.2.2.2.2.1
  have hc32 := hk.2.2.2.2.2.1
  have hmdb := hk.2.2.1.2
  have hpfb := hk.2.2.2.1.2
  have HL := Lib.hid hx.p.sl.len
  have hal := ((Below.refl w.heap.size w).alloc (Nat.le_refl _) (.cells #[.int .i64 x.o, .slice x.p.a x.p.n x.p.c, .int .u32 x.nx, .int .i64 x.md, .int .i64 x.pf, .slice x.c.a x.c.n x.c.c] 26)).alloc (by simp) (.cells #[.int .u8 (on : Int)] 5)
  have hX : BxA w.heap.size x ((w.alloc (.cells #[.int .i64 x.o, .slice x.p.a x.p.n x.p.c, .int .u32 x.nx, .int .i64 x.md, .int .i64 x.pf, .slice x.c.a x.c.n x.c.c] 26)).alloc (.cells #[.int .u8 (on : Int)] 5)) := hold (hnew _ _)
  have hD : RB.Sl ((w.alloc (.cells #[.int .i64 x.o, .slice x.p.a x.p.n x.p.c, .int .u32 x.nx, .int .i64 x.md, .int .i64 x.pf, .slice x.c.a x.c.n x.c.c] 26)).alloc (.cells #[.int .u8 (on : Int)] 5)) (some ⟨w.heap.size + 1, 0, none⟩) 1 1 [on] := Rep.sl_one (R := RB) (y := on) (hnewAt (by simp))
  have HA := Lib.hid hx
  have HO := Lib.hid (And.intro ho (And.intro hnn hnf))
  have F0 := Lib.hid (And.intro hal (And.intro hX hD))
  have hX0 : BxA w.heap.size x (w.alloc (.cells #[.int .i64 x.o, .slice x.p.a x.p.n x.p.c, .int .u32 x.nx, .int .i64 x.md, .int .i64 x.pf, .slice x.c.a x.c.n x.c.c] 26)) := hnew _ _
  obtain ⟨c0, c1, c2, c3, c4, c5⟩ := hX0.cells
  rw [ho] at c0
  rw [hnn] at c2
  unfold AtV.v
  obtain ⟨av, hav⟩ : ∃ z, asz four x.at = z := ⟨_, rfl⟩
  rw [hav] at HS ⊢
  obtain ⟨pz, hpz⟩ : ∃ z, psz four (x.p.l.map SgV.sg) = z := ⟨_, rfl⟩
  rw [hpz] at HS HPz
  have HPE := Lib.hid hpz
  have hom : x.o % 256 = (on : Int) := by omega
  clear hav hpz ho hnn hal hX hD hX0 hok hk hnf hx
  go_enter Try.func9, Try.ntmps9
  go_wp2_with fail
  clear hom
  generalize hWB : (w.alloc (.cells #[.int .i64 x.o, .slice x.p.a x.p.n x.p.c, .int .u32 x.nx, .int .i64 x.md, .int .i64 x.pf, .slice x.c.a x.c.n x.c.c] 26)).alloc (.cells #[.int .u8 (on : Int)] 5) = WB at *
  refine (rone_short (f := 64) (k := 1) F0.out.2.2 (fun h => by cases h) (by decide) (by decide) (by decide)).mono ?_
  rintro e w1 ⟨v5, B5, rfl, ho5, hl5, hb⟩
  have hbw := bcall F0.out.1 (Nat.le_refl _) hb
  have hxw := F0.out.2.1.keep hb
  have ho5' := ho5.mono (show w.heap.size + 1 ≤ WB.heap.size from lt_of_blk F0.out.2.1)
  obtain ⟨oa5, c5', rfl, -, -⟩ := ho5.sl0
  rw [hl5] at ho5' ⊢
  have F := Lib.hid (And.intro hbw (And.intro hxw (And.intro ho5' hl5)))
  clear hb hbw hxw ho5' ho5 hl5 F0 c0 c1 c2 c3 c4 c5 hWB
  obtain ⟨-, c1, -⟩ := F.out.2.1.cells
  go_wp2_with fail
  go_loopw [6, 7] (fun sv iv wr => ∃ (i : Nat) (B : List Nat), i ≤ x.p.n ∧ iv = .int .i64 i ∧ RB.Own wr w1.heap.size sv B ∧ B.length = psz four ((x.p.l.take i).map SgV.sg) ∧ Below w1.heap.size w1 wr) (fun _ iv _ => x.p.n - (intOf iv).toNat)
  case atStart => exact ⟨0, [], Nat.zero_le _, rfl, Rep.Own.nil _ _, rfl, Below.refl _ _⟩
  case round =>
    obtain ⟨i, B, hi, rfl, hown, hlen, hb⟩ := hrel
    obtain ⟨w2, rfl⟩ : ∃ w2 : World, w2 = wr := ⟨_, rfl⟩
    clear c1
    obtain ⟨oa2, cc, hvv, hsl2, hn2⟩ := hown.sl0
    by_cases hlt : i < x.p.n
    · subst hvv
      obtain ⟨-, c1, -⟩ := (F.out.2.1.keep hb).cells
      have hil : ((i : Int) < (x.p.n : Int)) = True := by simp; omega
      have hi0 : ((0 : Int) ≤ (i : Int)) = True := by simp
      have hw3 := wrapS hlt (show x.p.n ≤ maxLen by unfold maxLen; omega)
      have hlL : i < x.p.l.length := by rw [← HL.out]; exact hlt
      have hax1 := HA.out.keep F.out.1
      obtain ⟨b0, o0, ea, hbb, hat1⟩ := hax1.p.sl.at hlt
      have hat := hat1.keep (hb.block _ hbb)
      have c6 := hat 0 (by decide)
      have c7 := hat 1 (by decide)
      simp only [RSg, Nat.add_zero, List.getElem?_cons_zero, List.getElem?_cons_succ] at c6 c7
      rw [ea] at c1
      have hmem := getD_mem hlL
      have hs1 := hax1.p.all _ hmem
      have hps := psz_take (four := four) hlL
      have hsg : okSg four (x.p.l.getD i default).sg = true := List.all_eq_true.1 HP.out _ (List.mem_map_of_mem hmem)
      have hB8 : B.length ≤ 2064 := by
        have h1 : psz four ((x.p.l.take i).map SgV.sg) ≤ 258 * ((x.p.l.take i).map SgV.sg).length := psz_le (List.all_eq_true.2 fun z hz => by
          obtain ⟨y, hy, rfl⟩ := List.mem_map.1 hz
          exact List.all_eq_true.1 HP.out _ (List.mem_map_of_mem (List.mem_of_mem_take hy)))
        rw [List.length_map, List.length_take] at h1
        omega
      generalize x.p.l.getD i default = s at *
      have hss : s.s.n ≤ 64 ∧ s.s.l.all (fitsB (wd four)) = true := by
        have := hsg
        unfold okSg SgV.sg at this
        rw [Bool.and_eq_true, Bool.and_eq_true, decide_eq_true_eq, decide_eq_true_eq] at this
        dsimp only at this
        rw [← hs1.sl.len] at this
        exact ⟨this.1.2, this.2⟩
      have hnq : (Value.slice oa2 B.length cc).ownBlock ≠ some w2.heap.size := fun e => by
        have := (World.ownsRow.lt hown _ e).2
        omega
      obtain ⟨bl, hbl⟩ : ∃ z, B.length = z := ⟨_, rfl⟩
      rw [hbl] at hown hlen hsl2 hB8 hnq ⊢
      have HH := Lib.hid (And.intro hbl (And.intro hlen (And.intro hps (And.intro hss (And.intro hs1.sl.len.symm hB8)))))
      have K := Lib.hid (And.intro hb (And.intro hown (And.intro hs1 (And.intro hn2 hnq))))
      have hn64 : s.s.n ≤ 64 := hss.1
      clear hb hown hlen hsl2 hat hat1 hmem hs1 hps hsg hss hbl hB8 hn2 hbb hax1 ea hnq
      go_wp2_with (with_reducible refine halt_store 53 rfl ?_)
      refine Halted.go ?_
      have hal := (Below.refl w2.heap.size w2).alloc (Nat.le_refl _) (.cells #[.bool false, .slice none 0 0] 53)
      refine store_whole rfl 53 _ _ rfl w2.heap.size #[.bool s.set, .slice s.s.a s.s.n s.s.c] rfl rfl (hnew _ _) rfl (by kernel_rfl) (by simp [Value.oneCell']) ?_
      intro wz hwz hsz
      have hzb : Below w2.heap.size w2 wz := Below.trans hal (hsz.below (Nat.le_refl _))
      have hzx : BxS w2.heap.size s wz := hwz
      have hzq : w2.heap.size < wz.heap.size := lt_of_blk hwz
      obtain ⟨q2, hq2⟩ : ∃ z, w2.heap.size = z := ⟨_, rfl⟩
      have hqw : w1.heap.size ≤ w2.heap.size := K.out.1.size
      have K2 := Lib.hid (And.intro (bcall K.out.1 (Nat.le_refl _) hzb) (And.intro (K.out.2.1.below hzb) (And.intro K.out.2.2.1 (And.intro K.out.2.2.2.1 (And.intro (hq2 ▸ K.out.2.2.2.2) (hq2 ▸ hzx))))))
      rw [hq2] at hzq hqw
      have HQ := Lib.hid (And.intro hzq hqw)
      obtain ⟨z0, z1⟩ := K2.out.2.2.2.2.2.cells
      try rw [hq2]
      obtain ⟨st, hst⟩ : ∃ b, s.set = b := ⟨_, rfl⟩
      rw [hst] at z0
      try rw [hst]
      clear hwz hsz hal hzb hzx hq2 c1 c6 c7 K hst hzq hqw
      have HSZ := Lib.hid (fun W => rsize05_any four W)
      cases st with
      | true =>
        go_wp2_with (at_builtin; refine halt ?_)
        refine Halted.go ?_
        have hal := (Below.refl wz.heap.size wz).alloc (Nat.le_refl _) (.cells #[.int .u8 1, .int .u8 (s.s.n : Int)] 5)
        have hpr : RB.Sl (wz.alloc (.cells #[.int .u8 1, .int .u8 (s.s.n : Int)] 5)) (some ⟨wz.heap.size, 0, none⟩) 2 2 [1, s.s.n] := Rep.sl_flat (R := RB) (M := [1, s.s.n]) (hnew _ _) (by unfold maxLen; simp)
        have K3 := Lib.hid (And.intro (bcall K2.out.1 (Nat.le_refl _) hal) (And.intro (K2.out.2.1.below hal) (And.intro hpr (And.intro K2.out.2.2.2.2.1 (K2.out.2.2.2.2.2.keep hal)))))
        have HSg := Lib.hid K2.out.2.2.1
        clear hal hpr K2
        refine Rep.append_list2 T27 rfl _ _ rfl rfl K3.out.2.1 (L := B) (M := [1, s.s.n]) rfl K3.out.2.2.1 (by decide) (by rw [HH.out.1]; have := HH.out.2.2.2.2.2; unfold maxLen; omega) (by rw [HH.out.1]; have := HH.out.2.2.2.2.2; omega) K3.out.1.size ?_
        intro v6 w6 hown6 hb6 hbad
        obtain ⟨hbad1, hbad2⟩ := hbad q2 K3.out.2.2.2.1 (lt_of_blk K3.out.2.2.2.2)
        have hl6 : (B ++ [1, s.s.n]).length = bl + 2 := by rw [List.length_append, HH.out.1]; rfl
        generalize B ++ [1, s.s.n] = B6 at *
        have K6 := Lib.hid (And.intro (K3.out.1.trans hb6) (And.intro hown6 (And.intro hl6 (And.intro hbad1 (show BxS q2 s w6 from hbad2.trans K3.out.2.2.2.2)))))
        obtain ⟨z0, z1⟩ := K6.out.2.2.2.2.cells
        obtain ⟨o6, c6, hv6, -, -⟩ := hown6.sl0
        rw [hl6] at hv6
        subst hv6
        clear hown6 hb6 hbad hbad1 hbad2 hl6 K3
        go_wp2_with fail
        have HW3 := Lib.hid hw3
        clear z0 hw3 hil hi0 hlL
        go_loopw [6, 10] (fun sv kv wr => ∃ k : Nat, k ≤ s.s.n ∧ kv = .int .i64 k ∧ InR w1 q2 bl four s sv k wr) (fun _ kv _ => s.s.n - (intOf kv).toNat)
        case atStart => exact ⟨0, Nat.zero_le _, rfl, B6, K6.out.2.1, K6.out.2.2.1, K6.out.2.2.2.1, K6.out.2.2.2.2, K6.out.1⟩
        case round =>
          obtain ⟨k, hk, rfl, B7, hown, hlen, hnb, hbx, hb⟩ := hrel
          obtain ⟨w7, rfl⟩ : ∃ w7 : World, w7 = wr := ⟨_, rfl⟩
          clear z1
          obtain ⟨-, z1⟩ := hbx.cells
          obtain ⟨o7, cc7, hv7, -, hn7⟩ := hown.sl0
          by_cases hkt : k < s.s.n
          · have hkl : ((k : Int) < (s.s.n : Int)) = True := by simp; omega
            have hk0 : ((0 : Int) ≤ (k : Int)) = True := by simp
            have hw4 := wrapS hkt (show s.s.n ≤ maxLen by unfold maxLen; omega)
            obtain ⟨b2, o2, ea2, hbb2, hat2⟩ := HSg.out.sl.at hkt
            have hat3 := hat2.keep (hb.block _ hbb2)
            have d0 := hat3 0 (by decide)
            simp only [RI, Nat.add_zero, Nat.mul_one, List.getElem?_cons_zero] at d0
            have hfy := List.all_eq_true.1 HH.out.2.2.2.1.2 _ (getD_mem (M := s.s.l) (i := k) (by rw [HH.out.2.2.2.2.1]; exact hkt))
            generalize s.s.l.getD k default = y at *
            rw [ea2] at z1
            have hwd := (wd_le four).2
            have hwd2 := (wd_le four).1
            have hwk : wd four * k ≤ 256 := wdk_le four (Nat.le_trans (Nat.le_of_lt hkt) hn64)
            have HPT : Hid (∀ W : World, Calls Try.prog 27 #[.int .i64 y, .int .i64 (wd four : Nat)] W fun e w' => ∃ v B, e = .returned v ∧ RB.Own w' W.heap.size v B ∧ B.length = wd four ∧ Below W.heap.size W w') := Lib.hid (fun W => rputk_any (wd four) (by cases four <;> decide) y hfy W)
            have hd := (Below.refl w7.heap.size w7).drew
            obtain ⟨bl7, hbl7⟩ : ∃ z, B7.length = z := ⟨_, rfl⟩
            rw [hbl7] at hlen hv7
            subst hv7
            have G := Lib.hid (And.intro (bcall hb (Nat.le_refl _) hd) (And.intro (show Cs [(⟨q2, 1, none⟩, .slice (some ⟨b2, o2, none⟩) s.s.n s.s.c), (⟨b2, o2 + k, none⟩, .int .i64 y)] w7.drew from ⟨z1, d0, trivial⟩) (And.intro (hown.below hd) (And.intro (show BxS q2 s w7.drew from hbx) (And.intro hnb (And.intro hn7 (And.intro hlen (And.intro hbl7 (And.intro hbb2 (And.intro hwk (And.intro hwd hwd2)))))))))))
            have HZS := Lib.hid (show s.s.a = some ⟨b2, o2, none⟩ from ea2)
            clear hown hlen hnb hbx hb hn7 hat2 hat3 hfy hwd hwd2 hwk hbb2 ea2 hbl7 hd
            go_wp2_with fail
            clear z1 d0
            refine wp_region_heldP (Cs [(⟨q2, 1, none⟩, .slice (some ⟨b2, o2, none⟩) s.s.n s.s.c), (⟨b2, o2 + k, none⟩, .int .i64 y)]) (by kernel_rfl) ?_
            generalize w7.drew = V at *
            refine held_reads [0, 1, 2, 3, 4, 5, 6] (g := 4) rfl (by kernel_rfl) G.out.2.1 (fun _ _ d _ _ h => by cases d <;> exact h) ?_
            simp only [pick, List.getD_cons_zero, List.getD_cons_succ]
            ((with_reducible refine wpRead_step (fun K hK => ?_)); go_simp; first | (rw [if_neg (by decide)]; (with_reducible refine hK _ ?_); clear hK K) | ((with_reducible refine hK _ ?_); clear hK K) | (apply Exists.intro; (with_reducible refine ⟨fun w' hw' => ?_, hK _ ?_⟩); (obtain ⟨f0, f1, -⟩ := hw'; dsimp only at f0 f1; go_simp; first | exact rfl | exact ⟨rfl, rfl⟩); clear hK K))
            ((with_reducible refine wpRead_step (fun K hK => ?_)); go_simp; first | (rw [if_neg (by decide)]; (with_reducible refine hK _ ?_); clear hK K) | ((with_reducible refine hK _ ?_); clear hK K) | (apply Exists.intro; (with_reducible refine ⟨fun w' hw' => ?_, hK _ ?_⟩); (obtain ⟨f0, f1, -⟩ := hw'; dsimp only at f0 f1; go_simp; first | exact rfl | exact ⟨rfl, rfl⟩); clear hK K))
            ((with_reducible refine wpRead_step (fun K hK => ?_)); go_simp; first | (rw [if_neg (by decide)]; (with_reducible refine hK _ ?_); clear hK K) | ((with_reducible refine hK _ ?_); clear hK K) | (apply Exists.intro; (with_reducible refine ⟨fun w' hw' => ?_, hK _ ?_⟩); (obtain ⟨f0, f1, -⟩ := hw'; dsimp only at f0 f1; go_simp; first | exact rfl | exact ⟨rfl, rfl⟩); clear hK K))
            ((with_reducible refine wpRead_step (fun K hK => ?_)); go_simp; first | (rw [if_neg (by decide)]; (with_reducible refine hK _ ?_); clear hK K) | ((with_reducible refine hK _ ?_); clear hK K) | (apply Exists.intro; (with_reducible refine ⟨fun w' hw' => ?_, hK _ ?_⟩); (obtain ⟨f0, f1, -⟩ := hw'; dsimp only at f0 f1; go_simp; first | exact rfl | exact ⟨rfl, rfl⟩); clear hK K))
            ((with_reducible refine wpRead_step (fun K hK => ?_)); go_simp; first | (rw [if_neg (by decide)]; (with_reducible refine hK _ ?_); clear hK K) | ((with_reducible refine hK _ ?_); clear hK K) | (apply Exists.intro; (with_reducible refine ⟨fun w' hw' => ?_, hK _ ?_⟩); (obtain ⟨f0, f1, -⟩ := hw'; dsimp only at f0 f1; go_simp; first | exact rfl | exact ⟨rfl, rfl⟩); clear hK K))
            ((with_reducible refine wpRead_step (fun K hK => ?_)); go_simp; first | (rw [if_neg (by decide)]; (with_reducible refine hK _ ?_); clear hK K) | ((with_reducible refine hK _ ?_); clear hK K) | (apply Exists.intro; (with_reducible refine ⟨fun w' hw' => ?_, hK _ ?_⟩); (obtain ⟨f0, f1, -⟩ := hw'; dsimp only at f0 f1; go_simp; first | exact rfl | exact ⟨rfl, rfl⟩); clear hK K))
            ((with_reducible refine wpRead_step (fun K hK => ?_)); go_simp; first | (rw [if_neg (by decide)]; (with_reducible refine hK _ ?_); clear hK K) | ((with_reducible refine hK _ ?_); clear hK K) | (apply Exists.intro; (with_reducible refine ⟨fun w' hw' => ?_, hK _ ?_⟩); (obtain ⟨f0, f1, -⟩ := hw'; dsimp only at f0 f1; go_simp; first | exact rfl | exact ⟨rfl, rfl⟩); clear hK K))
            with_reducible refine wpRead_nil ?_
            refine held_one 7 (by kernel_rfl) ?_
            simp only [pick, List.getD_cons_zero, List.getD_cons_succ]
            go_wp2_with fail
            refine (HSZ.out _).mono ?_
            rintro e W9 ⟨rfl, hw⟩
            have hw := hw.symm
            subst hw
            go_wp2_with fail
            refine ⟨G.out.2.1, ?_⟩
            refine held_one 8 (by kernel_rfl) ?_
            simp only [pick, List.getD_cons_zero, List.getD_cons_succ]
            go_wp2_with fail
            refine (HPT.out _).mono ?_
            rintro e V2 ⟨v4, B4, rfl, hown4, hl4, hb4⟩
            obtain ⟨oa4, c4, rfl, hs4, hn4⟩ := hown4.sl0
            obtain ⟨wl, hwl⟩ : ∃ z, wd four = z := ⟨_, rfl⟩
            have G2 := Lib.hid (And.intro (bcall G.out.1 (Nat.le_refl _) hb4) (And.intro (Cs.keep hb4 G.out.2.1) (And.intro (G.out.2.2.1.below hb4) (And.intro (G.out.2.2.2.1.keep hb4) (And.intro hs4 (And.intro hn4 hl4))))))
            clear hown4 hb4 hs4 hn4 hl4
            go_wp2_with fail
            refine ⟨G2.out.2.1, ?_⟩
            refine held_one 9 (by kernel_rfl) ?_
            simp only [pick, List.getD_cons_zero, List.getD_cons_succ]
            go_wp2_with (at_builtin; refine halt ?_)
            refine Halted.go ?_
            have hb4l : B4.length = wd four := G2.out.2.2.2.2.2.2
            have hgg := G.out.2.2.2.2.2.2
            refine Rep.append_list2 T27 rfl _ _ rfl rfl (hgg.2.1 ▸ G2.out.2.2.1) (L := B7) (M := B4) rfl G2.out.2.2.2.2.1 (by rw [hb4l]; exact Nat.lt_of_lt_of_le (by decide) hgg.2.2.2.2.2) (by rw [hb4l]; have h1 := hgg.1; have h2 := hgg.2.1; have h3 := hgg.2.2.2.1; have h4 := hgg.2.2.2.2.1; have h5 := HH.out.2.2.2.2.2; unfold maxLen; omega) (by rw [hb4l]; have h1 := hgg.1; have h2 := hgg.2.1; have h3 := hgg.2.2.2.1; have h4 := hgg.2.2.2.2.1; have h5 := HH.out.2.2.2.2.2; omega) G2.out.1.size ?_
            intro v8 V3 hown8 hb8 hbad
            obtain ⟨hbad1, hbad2⟩ := hbad q2 G.out.2.2.2.2.1 (lt_of_blk G2.out.2.2.2.1)
            have hl8 : (B7 ++ B4).length = bl + 2 + wd four * (k + 1) := by rw [List.length_append, hb4l, hgg.2.1, hgg.1, Nat.mul_succ]; omega
            have hbx8 : BxS q2 s V3 := hbad2.trans G2.out.2.2.2.1
            have hcs8 : Cs [(⟨q2, 1, none⟩, .slice (some ⟨b2, o2, none⟩) s.s.n s.s.c), (⟨b2, o2 + k, none⟩, .int .i64 y)] V3 := ⟨by have := hbx8.cells.2; rw [HZS.out] at this; exact this, (World.cell?_of_block (a := ⟨b2, o2 + k, none⟩) (hb8.block _ hgg.2.2.1)).trans G2.out.2.1.2.1, trivial⟩
            have G3 := Lib.hid (And.intro (G2.out.1.trans hb8) (And.intro hcs8 (And.intro hown8 (And.intro hl8 (And.intro hbad1 hbx8)))))
            clear hown8 hb8 hbad hbad1 hbad2 hl8 hbx8 hcs8 hgg hb4l hwl
            go_wp2_with fail
            refine ⟨G3.out.2.1, ?_⟩
            refine held_one 10 (by kernel_rfl) ?_
            simp only [pick, List.getD_cons_zero, List.getD_cons_succ]
            go_wp2_with fail
            refine ⟨G3.out.2.1, ?_⟩
            refine wpAnyH_done (by kernel_rfl) ?_ _
            go_wp2_with fail
            exact ⟨⟨k + 1, hkt, by first | rw [hw4] | rw [Int.natCast_succ], _, G3.out.2.2.1, G3.out.2.2.2.1, G3.out.2.2.2.2.1, G3.out.2.2.2.2.2, G3.out.1⟩, by first | (rw [hw4]; exact mSucc hkt) | (rw [← Int.natCast_succ]; exact mSucc hkt)⟩
          · obtain rfl : k = s.s.n := by omega
            have hkl : ((s.s.n : Int) < (s.s.n : Int)) = False := by simp
            have HK := Lib.hid (And.intro hown (And.intro (show B7.length = psz four ((x.p.l.take (i + 1)).map SgV.sg) from by rw [hlen, HH.out.2.2.1, ← HH.out.2.1, HH.out.2.2.2.2.1]; omega) hb))
            clear hown hlen hnb hbx hb hn7 hv7
            have hw3 := HW3.out
            go_wp2_with fail
            exact ⟨⟨i + 1, _, hlt, by first | rw [hw3] | rw [Int.natCast_succ], HK.out.1, HK.out.2.1, HK.out.2.2⟩, by first | (rw [hw3]; exact mSucc hlt) | (rw [← Int.natCast_succ]; exact mSucc hlt)⟩
      | false =>
        go_wp2_with (at_builtin; refine halt ?_)
        refine Halted.go ?_
        have hal := (Below.refl wz.heap.size wz).alloc (Nat.le_refl _) (.cells #[.int .u8 2, .int .u8 (s.s.n : Int)] 5)
        have hpr : RB.Sl (wz.alloc (.cells #[.int .u8 2, .int .u8 (s.s.n : Int)] 5)) (some ⟨wz.heap.size, 0, none⟩) 2 2 [2, s.s.n] := Rep.sl_flat (R := RB) (M := [2, s.s.n]) (hnew _ _) (by unfold maxLen; simp)
        have K3 := Lib.hid (And.intro (bcall K2.out.1 (Nat.le_refl _) hal) (And.intro (K2.out.2.1.below hal) (And.intro hpr (And.intro K2.out.2.2.2.2.1 (K2.out.2.2.2.2.2.keep hal)))))
        have HSg := Lib.hid K2.out.2.2.1
        clear hal hpr K2
        refine Rep.append_list2 T27 rfl _ _ rfl rfl K3.out.2.1 (L := B) (M := [2, s.s.n]) rfl K3.out.2.2.1 (by decide) (by rw [HH.out.1]; have := HH.out.2.2.2.2.2; unfold maxLen; omega) (by rw [HH.out.1]; have := HH.out.2.2.2.2.2; omega) K3.out.1.size ?_
        intro v6 w6 hown6 hb6 hbad
        obtain ⟨hbad1, hbad2⟩ := hbad q2 K3.out.2.2.2.1 (lt_of_blk K3.out.2.2.2.2)
        have hl6 : (B ++ [2, s.s.n]).length = bl + 2 := by rw [List.length_append, HH.out.1]; rfl
        generalize B ++ [2, s.s.n] = B6 at *
        have K6 := Lib.hid (And.intro (K3.out.1.trans hb6) (And.intro hown6 (And.intro hl6 (And.intro hbad1 (show BxS q2 s w6 from hbad2.trans K3.out.2.2.2.2)))))
        obtain ⟨z0, z1⟩ := K6.out.2.2.2.2.cells
        obtain ⟨o6, c6, hv6, -, -⟩ := hown6.sl0
        rw [hl6] at hv6
        subst hv6
        clear hown6 hb6 hbad hbad1 hbad2 hl6 K3
        go_wp2_with fail
        have HW3 := Lib.hid hw3
        clear z0 hw3 hil hi0 hlL
        go_loopw [6, 10] (fun sv kv wr => ∃ k : Nat, k ≤ s.s.n ∧ kv = .int .i64 k ∧ InR w1 q2 bl four s sv k wr) (fun _ kv _ => s.s.n - (intOf kv).toNat)
        case atStart => exact ⟨0, Nat.zero_le _, rfl, B6, K6.out.2.1, K6.out.2.2.1, K6.out.2.2.2.1, K6.out.2.2.2.2, K6.out.1⟩
        case round =>
          obtain ⟨k, hk, rfl, B7, hown, hlen, hnb, hbx, hb⟩ := hrel
          obtain ⟨w7, rfl⟩ : ∃ w7 : World, w7 = wr := ⟨_, rfl⟩
          clear z1
          obtain ⟨-, z1⟩ := hbx.cells
          obtain ⟨o7, cc7, hv7, -, hn7⟩ := hown.sl0
          by_cases hkt : k < s.s.n
          · have hkl : ((k : Int) < (s.s.n : Int)) = True := by simp; omega
            have hk0 : ((0 : Int) ≤ (k : Int)) = True := by simp
            have hw4 := wrapS hkt (show s.s.n ≤ maxLen by unfold maxLen; omega)
            obtain ⟨b2, o2, ea2, hbb2, hat2⟩ := HSg.out.sl.at hkt
            have hat3 := hat2.keep (hb.block _ hbb2)
            have d0 := hat3 0 (by decide)
            simp only [RI, Nat.add_zero, Nat.mul_one, List.getElem?_cons_zero] at d0
            have hfy := List.all_eq_true.1 HH.out.2.2.2.1.2 _ (getD_mem (M := s.s.l) (i := k) (by rw [HH.out.2.2.2.2.1]; exact hkt))
            generalize s.s.l.getD k default = y at *
            rw [ea2] at z1
            have hwd := (wd_le four).2
            have hwd2 := (wd_le four).1
            have hwk : wd four * k ≤ 256 := wdk_le four (Nat.le_trans (Nat.le_of_lt hkt) hn64)
            have HPT : Hid (∀ W : World, Calls Try.prog 27 #[.int .i64 y, .int .i64 (wd four : Nat)] W fun e w' => ∃ v B, e = .returned v ∧ RB.Own w' W.heap.size v B ∧ B.length = wd four ∧ Below W.heap.size W w') := Lib.hid (fun W => rputk_any (wd four) (by cases four <;> decide) y hfy W)
            have hd := (Below.refl w7.heap.size w7).drew
            obtain ⟨bl7, hbl7⟩ : ∃ z, B7.length = z := ⟨_, rfl⟩
            rw [hbl7] at hlen hv7
            subst hv7
            have G := Lib.hid (And.intro (bcall hb (Nat.le_refl _) hd) (And.intro (show Cs [(⟨q2, 1, none⟩, .slice (some ⟨b2, o2, none⟩) s.s.n s.s.c), (⟨b2, o2 + k, none⟩, .int .i64 y)] w7.drew from ⟨z1, d0, trivial⟩) (And.intro (hown.below hd) (And.intro (show BxS q2 s w7.drew from hbx) (And.intro hnb (And.intro hn7 (And.intro hlen (And.intro hbl7 (And.intro hbb2 (And.intro hwk (And.intro hwd hwd2)))))))))))
            have HZS := Lib.hid (show s.s.a = some ⟨b2, o2, none⟩ from ea2)
            clear hown hlen hnb hbx hb hn7 hat2 hat3 hfy hwd hwd2 hwk hbb2 ea2 hbl7 hd
            go_wp2_with fail
            clear z1 d0
            refine wp_region_heldP (Cs [(⟨q2, 1, none⟩, .slice (some ⟨b2, o2, none⟩) s.s.n s.s.c), (⟨b2, o2 + k, none⟩, .int .i64 y)]) (by kernel_rfl) ?_
            generalize w7.drew = V at *
            refine held_reads [0, 1, 2, 3, 4, 5, 6] (g := 4) rfl (by kernel_rfl) G.out.2.1 (fun _ _ d _ _ h => by cases d <;> exact h) ?_
            simp only [pick, List.getD_cons_zero, List.getD_cons_succ]
            ((with_reducible refine wpRead_step (fun K hK => ?_)); go_simp; first | (rw [if_neg (by decide)]; (with_reducible refine hK _ ?_); clear hK K) | ((with_reducible refine hK _ ?_); clear hK K) | (apply Exists.intro; (with_reducible refine ⟨fun w' hw' => ?_, hK _ ?_⟩); (obtain ⟨f0, f1, -⟩ := hw'; dsimp only at f0 f1; go_simp; first | exact rfl | exact ⟨rfl, rfl⟩); clear hK K))
            ((with_reducible refine wpRead_step (fun K hK => ?_)); go_simp; first | (rw [if_neg (by decide)]; (with_reducible refine hK _ ?_); clear hK K) | ((with_reducible refine hK _ ?_); clear hK K) | (apply Exists.intro; (with_reducible refine ⟨fun w' hw' => ?_, hK _ ?_⟩); (obtain ⟨f0, f1, -⟩ := hw'; dsimp only at f0 f1; go_simp; first | exact rfl | exact ⟨rfl, rfl⟩); clear hK K))
            ((with_reducible refine wpRead_step (fun K hK => ?_)); go_simp; first | (rw [if_neg (by decide)]; (with_reducible refine hK _ ?_); clear hK K) | ((with_reducible refine hK _ ?_); clear hK K) | (apply Exists.intro; (with_reducible refine ⟨fun w' hw' => ?_, hK _ ?_⟩); (obtain ⟨f0, f1, -⟩ := hw'; dsimp only at f0 f1; go_simp; first | exact rfl | exact ⟨rfl, rfl⟩); clear hK K))
            ((with_reducible refine wpRead_step (fun K hK => ?_)); go_simp; first | (rw [if_neg (by decide)]; (with_reducible refine hK _ ?_); clear hK K) | ((with_reducible refine hK _ ?_); clear hK K) | (apply Exists.intro; (with_reducible refine ⟨fun w' hw' => ?_, hK _ ?_⟩); (obtain ⟨f0, f1, -⟩ := hw'; dsimp only at f0 f1; go_simp; first | exact rfl | exact ⟨rfl, rfl⟩); clear hK K))
            ((with_reducible refine wpRead_step (fun K hK => ?_)); go_simp; first | (rw [if_neg (by decide)]; (with_reducible refine hK _ ?_); clear hK K) | ((with_reducible refine hK _ ?_); clear hK K) | (apply Exists.intro; (with_reducible refine ⟨fun w' hw' => ?_, hK _ ?_⟩); (obtain ⟨f0, f1, -⟩ := hw'; dsimp only at f0 f1; go_simp; first | exact rfl | exact ⟨rfl, rfl⟩); clear hK K))
            ((with_reducible refine wpRead_step (fun K hK => ?_)); go_simp; first | (rw [if_neg (by decide)]; (with_reducible refine hK _ ?_); clear hK K) | ((with_reducible refine hK _ ?_); clear hK K) | (apply Exists.intro; (with_reducible refine ⟨fun w' hw' => ?_, hK _ ?_⟩); (obtain ⟨f0, f1, -⟩ := hw'; dsimp only at f0 f1; go_simp; first | exact rfl | exact ⟨rfl, rfl⟩); clear hK K))
            ((with_reducible refine wpRead_step (fun K hK => ?_)); go_simp; first | (rw [if_neg (by decide)]; (with_reducible refine hK _ ?_); clear hK K) | ((with_reducible refine hK _ ?_); clear hK K) | (apply Exists.intro; (with_reducible refine ⟨fun w' hw' => ?_, hK _ ?_⟩); (obtain ⟨f0, f1, -⟩ := hw'; dsimp only at f0 f1; go_simp; first | exact rfl | exact ⟨rfl, rfl⟩); clear hK K))
            with_reducible refine wpRead_nil ?_
            refine held_one 7 (by kernel_rfl) ?_
            simp only [pick, List.getD_cons_zero, List.getD_cons_succ]
            go_wp2_with fail
            refine (HSZ.out _).mono ?_
            rintro e W9 ⟨rfl, hw⟩
            have hw := hw.symm
            subst hw
            go_wp2_with fail
            refine ⟨G.out.2.1, ?_⟩
            refine held_one 8 (by kernel_rfl) ?_
            simp only [pick, List.getD_cons_zero, List.getD_cons_succ]
            go_wp2_with fail
            refine (HPT.out _).mono ?_
            rintro e V2 ⟨v4, B4, rfl, hown4, hl4, hb4⟩
            obtain ⟨oa4, c4, rfl, hs4, hn4⟩ := hown4.sl0
            obtain ⟨wl, hwl⟩ : ∃ z, wd four = z := ⟨_, rfl⟩
            have G2 := Lib.hid (And.intro (bcall G.out.1 (Nat.le_refl _) hb4) (And.intro (Cs.keep hb4 G.out.2.1) (And.intro (G.out.2.2.1.below hb4) (And.intro (G.out.2.2.2.1.keep hb4) (And.intro hs4 (And.intro hn4 hl4))))))
            clear hown4 hb4 hs4 hn4 hl4
            go_wp2_with fail
            refine ⟨G2.out.2.1, ?_⟩
            refine held_one 9 (by kernel_rfl) ?_
            simp only [pick, List.getD_cons_zero, List.getD_cons_succ]
            go_wp2_with (at_builtin; refine halt ?_)
            refine Halted.go ?_
            have hb4l : B4.length = wd four := G2.out.2.2.2.2.2.2
            have hgg := G.out.2.2.2.2.2.2
            refine Rep.append_list2 T27 rfl _ _ rfl rfl (hgg.2.1 ▸ G2.out.2.2.1) (L := B7) (M := B4) rfl G2.out.2.2.2.2.1 (by rw [hb4l]; exact Nat.lt_of_lt_of_le (by decide) hgg.2.2.2.2.2) (by rw [hb4l]; have h1 := hgg.1; have h2 := hgg.2.1; have h3 := hgg.2.2.2.1; have h4 := hgg.2.2.2.2.1; have h5 := HH.out.2.2.2.2.2; unfold maxLen; omega) (by rw [hb4l]; have h1 := hgg.1; have h2 := hgg.2.1; have h3 := hgg.2.2.2.1; have h4 := hgg.2.2.2.2.1; have h5 := HH.out.2.2.2.2.2; omega) G2.out.1.size ?_
            intro v8 V3 hown8 hb8 hbad
            obtain ⟨hbad1, hbad2⟩ := hbad q2 G.out.2.2.2.2.1 (lt_of_blk G2.out.2.2.2.1)
            have hl8 : (B7 ++ B4).length = bl + 2 + wd four * (k + 1) := by rw [List.length_append, hb4l, hgg.2.1, hgg.1, Nat.mul_succ]; omega
            have hbx8 : BxS q2 s V3 := hbad2.trans G2.out.2.2.2.1
            have hcs8 : Cs [(⟨q2, 1, none⟩, .slice (some ⟨b2, o2, none⟩) s.s.n s.s.c), (⟨b2, o2 + k, none⟩, .int .i64 y)] V3 := ⟨by have := hbx8.cells.2; rw [HZS.out] at this; exact this, (World.cell?_of_block (a := ⟨b2, o2 + k, none⟩) (hb8.block _ hgg.2.2.1)).trans G2.out.2.1.2.1, trivial⟩
            have G3 := Lib.hid (And.intro (G2.out.1.trans hb8) (And.intro hcs8 (And.intro hown8 (And.intro hl8 (And.intro hbad1 hbx8)))))
            clear hown8 hb8 hbad hbad1 hbad2 hl8 hbx8 hcs8 hgg hb4l hwl
            go_wp2_with fail
            refine ⟨G3.out.2.1, ?_⟩
            refine held_one 10 (by kernel_rfl) ?_
            simp only [pick, List.getD_cons_zero, List.getD_cons_succ]
            go_wp2_with fail
            refine ⟨G3.out.2.1, ?_⟩
            refine wpAnyH_done (by kernel_rfl) ?_ _
            go_wp2_with fail
            exact ⟨⟨k + 1, hkt, by first | rw [hw4] | rw [Int.natCast_succ], _, G3.out.2.2.1, G3.out.2.2.2.1, G3.out.2.2.2.2.1, G3.out.2.2.2.2.2, G3.out.1⟩, by first | (rw [hw4]; exact mSucc hkt) | (rw [← Int.natCast_succ]; exact mSucc hkt)⟩
          · obtain rfl : k = s.s.n := by omega
            have hkl : ((s.s.n : Int) < (s.s.n : Int)) = False := by simp
            have HK := Lib.hid (And.intro hown (And.intro (show B7.length = psz four ((x.p.l.take (i + 1)).map SgV.sg) from by rw [hlen, HH.out.2.2.1, ← HH.out.2.1, HH.out.2.2.2.2.1]; omega) hb))
            clear hown hlen hnb hbx hb hn7 hv7
            have hw3 := HW3.out
            go_wp2_with fail
            exact ⟨⟨i + 1, _, hlt, by first | rw [hw3] | rw [Int.natCast_succ], HK.out.1, HK.out.2.1, HK.out.2.2⟩, by first | (rw [hw3]; exact mSucc hlt) | (rw [← Int.natCast_succ]; exact mSucc hlt)⟩
    · obtain rfl : i = x.p.n := by omega
      have hil : ((x.p.n : Int) < (x.p.n : Int)) = False := by simp
      rw [show x.p.l.take x.p.n = x.p.l from List.take_of_length_le (by rw [← HL.out]; exact Nat.le_refl _), HPE.out] at hlen
      rw [hlen] at hsl2 hvv
      subst hvv
      obtain ⟨-, c1, c2, c3, c4, c5⟩ := (F.out.2.1.keep hb).cells
      have F1 := Lib.hid (And.intro (bcall F.out.1 (Nat.le_refl _) hb) (And.intro (F.out.2.1.keep hb) (And.intro (F.out.2.2.1.below hb) (And.intro F.out.2.2.2 (And.intro hsl2 (hn2))))))
      clear F
      clear hb hown hlen hsl2 hn2
      go_wp2_with fail
      refine (rone_path F1.out.2.2.2.2.1 F1.out.2.2.2.2.2 (by have := HPz.out; omega)).mono ?_
      rintro e A1 ⟨vy, B2, rfl, hoy, hly, hb⟩
      obtain ⟨oy, cy, rfl, hsy, hny⟩ := hoy.sl0
      rw [hly] at hsy ⊢
      have F2 := Lib.hid (And.intro (bcall F1.out.1 (Nat.le_refl _) hb) (And.intro (F1.out.2.1.keep hb) (And.intro (F1.out.2.2.1.below hb) (And.intro F1.out.2.2.2.1 (And.intro hsy (And.intro hny (hly)))))))
      clear F1
      clear hb hoy hly hsy hny
      go_wp2_with (at_builtin; refine halt ?_)
      refine Halted.go ?_
      refine Rep.append_list T27 rfl _ _ rfl rfl F2.out.2.2.1 rfl F2.out.2.2.2.2.1 F2.out.2.2.2.2.2.1 (by rw [F2.out.2.2.2.1]; have h1 := HPz.out; have h2 := hdz_le pz; unfold maxLen; omega) (by rw [F2.out.2.2.2.1]; have h1 := HPz.out; have h2 := hdz_le pz; omega) (show w.heap.size + 1 ≤ _ from lt_of_blk F2.out.2.1) ?_
      intro v4 A3 hown5 hb5 _
      have hbn := F2.out.1.trans (hb5.mono (Nat.le_succ _))
      have hxn : BxA w.heap.size x A3 := (hb5.block _ (Nat.lt_succ_self _)).trans F2.out.2.1
      have hln : (B5 ++ B2).length = 4 + (hdz pz + pz) := by rw [List.length_append, F2.out.2.2.2.1, F2.out.2.2.2.2.2.2]
      generalize B5 ++ B2 = B5 at *
      obtain ⟨oa5, c5', rfl, -, -⟩ := hown5.sl0
      rw [hln] at hown5 ⊢
      have F3 := Lib.hid (And.intro hbn (And.intro hxn (And.intro hown5 (hln))))
      clear F2
      clear hown5 hb5 hbn hxn hln
      obtain ⟨-, c1, c2, c3, c4, c5⟩ := F3.out.2.1.cells
      rw [HO.out.2.1] at c2
      go_wp2_with fail
      refine (rputk_any 4 (by decide) (nn : Int) (HO.out.2.2) _).mono ?_
      rintro e A6 ⟨vn, Bn, rfl, hon, hln, hb⟩
      obtain ⟨on1, cn, rfl, hsn, hnn⟩ := hon.sl0
      rw [hln] at hsn ⊢
      have F4 := Lib.hid (And.intro (bcall F3.out.1 (Nat.le_refl _) hb) (And.intro (F3.out.2.1.keep hb) (And.intro (F3.out.2.2.1.below hb) (And.intro F3.out.2.2.2 (And.intro hsn (hnn))))))
      clear F3
      clear hb hon hln hsn hnn
      clear c1 c2 c3 c4 c5
      go_wp2_with fail
      refine (rone_short (f := 64) (k := 3) F4.out.2.2.2.2.1 F4.out.2.2.2.2.2 (by decide) (by decide) (by decide)).mono ?_
      rintro e A7 ⟨vy, B8, rfl, hoy, hly, hb⟩
      obtain ⟨oy, cy, rfl, hsy, hny⟩ := hoy.sl0
      rw [hly] at hsy ⊢
      have F5 := Lib.hid (And.intro (bcall F4.out.1 (Nat.le_refl _) hb) (And.intro (F4.out.2.1.keep hb) (And.intro (F4.out.2.2.1.below hb) (And.intro F4.out.2.2.2.1 (And.intro hsy (And.intro hny (hly)))))))
      clear F4
      clear hb hoy hly hsy hny
      go_wp2_with (at_builtin; refine halt ?_)
      refine Halted.go ?_
      refine Rep.append_list T27 rfl _ _ rfl rfl F5.out.2.2.1 rfl F5.out.2.2.2.2.1 F5.out.2.2.2.2.2.1 (by rw [F5.out.2.2.2.1]; have h1 := HPz.out; have h2 := hdz_le pz; unfold maxLen; omega) (by rw [F5.out.2.2.2.1]; have h1 := HPz.out; have h2 := hdz_le pz; omega) (show w.heap.size + 1 ≤ _ from lt_of_blk F5.out.2.1) ?_
      intro v10 A9 hown5 hb5 _
      have hbn := F5.out.1.trans (hb5.mono (Nat.le_succ _))
      have hxn : BxA w.heap.size x A9 := (hb5.block _ (Nat.lt_succ_self _)).trans F5.out.2.1
      have hln : (B5 ++ B8).length = 4 + (hdz pz + pz) + 7 := by rw [List.length_append, F5.out.2.2.2.1, F5.out.2.2.2.2.2.2]
      generalize B5 ++ B8 = B11 at *
      obtain ⟨oa5, c5', rfl, -, -⟩ := hown5.sl0
      rw [hln] at hown5 ⊢
      have F6 := Lib.hid (And.intro hbn (And.intro hxn (And.intro hown5 (hln))))
      clear F5
      clear hown5 hb5 hbn hxn hln
      by_cases hmd : 0 ≤ x.md
      · have e3 : (0 ≤ x.md) = True := eq_true hmd
        have HMD := Lib.hid hmd
        clear hmd
        obtain ⟨-, c1, c2, c3, c4, c5⟩ := F6.out.2.1.cells
        rw [HO.out.2.1] at c2
        go_wp2_with fail
        refine (rputk_any 4 (by decide) x.md (fits4_of HMD.out hmdb) _).mono ?_
        rintro e A12 ⟨vn, Bn, rfl, hon, hln, hb⟩
        obtain ⟨on1, cn, rfl, hsn, hnn⟩ := hon.sl0
        rw [hln] at hsn ⊢
        have F7 := Lib.hid (And.intro (bcall F6.out.1 (Nat.le_refl _) hb) (And.intro (F6.out.2.1.keep hb) (And.intro (F6.out.2.2.1.below hb) (And.intro F6.out.2.2.2 (And.intro hsn (hnn))))))
        clear F6
        clear hb hon hln hsn hnn
        clear c1 c2 c3 c4 c5
        go_wp2_with fail
        refine (rone_short (f := 128) (k := 4) F7.out.2.2.2.2.1 F7.out.2.2.2.2.2 (by decide) (by decide) (by decide)).mono ?_
        rintro e A13 ⟨vy, B14, rfl, hoy, hly, hb⟩
        obtain ⟨oy, cy, rfl, hsy, hny⟩ := hoy.sl0
        rw [hly] at hsy ⊢
        have F8 := Lib.hid (And.intro (bcall F7.out.1 (Nat.le_refl _) hb) (And.intro (F7.out.2.1.keep hb) (And.intro (F7.out.2.2.1.below hb) (And.intro F7.out.2.2.2.1 (And.intro hsy (And.intro hny (hly)))))))
        clear F7
        clear hb hoy hly hsy hny
        go_wp2_with (at_builtin; refine halt ?_)
        refine Halted.go ?_
        refine Rep.append_list T27 rfl _ _ rfl rfl F8.out.2.2.1 rfl F8.out.2.2.2.2.1 F8.out.2.2.2.2.2.1 (by rw [F8.out.2.2.2.1]; have h1 := HPz.out; have h2 := hdz_le pz; unfold maxLen; omega) (by rw [F8.out.2.2.2.1]; have h1 := HPz.out; have h2 := hdz_le pz; omega) (show w.heap.size + 1 ≤ _ from lt_of_blk F8.out.2.1) ?_
        intro v16 A15 hown5 hb5 _
        have hbn := F8.out.1.trans (hb5.mono (Nat.le_succ _))
        have hxn : BxA w.heap.size x A15 := (hb5.block _ (Nat.lt_succ_self _)).trans F8.out.2.1
        have hln : (B11 ++ B14).length = 4 + (hdz pz + pz) + 7 + 7 := by rw [List.length_append, F8.out.2.2.2.1, F8.out.2.2.2.2.2.2]
        generalize B11 ++ B14 = B17 at *
        obtain ⟨oa5, c5', rfl, -, -⟩ := hown5.sl0
        rw [hln] at hown5 ⊢
        have F9 := Lib.hid (And.intro hbn (And.intro hxn (And.intro hown5 (hln))))
        clear F8
        clear hown5 hb5 hbn hxn hln
        clear e3
        by_cases hpf : 0 ≤ x.pf
        · have e4 : (0 ≤ x.pf) = True := eq_true hpf
          have HPF := Lib.hid hpf
          clear hpf
          obtain ⟨-, c1, c2, c3, c4, c5⟩ := F9.out.2.1.cells
          rw [HO.out.2.1] at c2
          go_wp2_with fail
          refine (rputk_any 4 (by decide) x.pf (fits4_of HPF.out hpfb) _).mono ?_
          rintro e A18 ⟨vn, Bn, rfl, hon, hln, hb⟩
          obtain ⟨on1, cn, rfl, hsn, hnn⟩ := hon.sl0
          rw [hln] at hsn ⊢
          have F10 := Lib.hid (And.intro (bcall F9.out.1 (Nat.le_refl _) hb) (And.intro (F9.out.2.1.keep hb) (And.intro (F9.out.2.2.1.below hb) (And.intro F9.out.2.2.2 (And.intro hsn (hnn))))))
          clear F9
          clear hb hon hln hsn hnn
          clear c1 c2 c3 c4 c5
          go_wp2_with fail
          refine (rone_short (f := 64) (k := 5) F10.out.2.2.2.2.1 F10.out.2.2.2.2.2 (by decide) (by decide) (by decide)).mono ?_
          rintro e A19 ⟨vy, B20, rfl, hoy, hly, hb⟩
          obtain ⟨oy, cy, rfl, hsy, hny⟩ := hoy.sl0
          rw [hly] at hsy ⊢
          have F11 := Lib.hid (And.intro (bcall F10.out.1 (Nat.le_refl _) hb) (And.intro (F10.out.2.1.keep hb) (And.intro (F10.out.2.2.1.below hb) (And.intro F10.out.2.2.2.1 (And.intro hsy (And.intro hny (hly)))))))
          clear F10
          clear hb hoy hly hsy hny
          go_wp2_with (at_builtin; refine halt ?_)
          refine Halted.go ?_
          refine Rep.append_list T27 rfl _ _ rfl rfl F11.out.2.2.1 rfl F11.out.2.2.2.2.1 F11.out.2.2.2.2.2.1 (by rw [F11.out.2.2.2.1]; have h1 := HPz.out; have h2 := hdz_le pz; unfold maxLen; omega) (by rw [F11.out.2.2.2.1]; have h1 := HPz.out; have h2 := hdz_le pz; omega) (show w.heap.size + 1 ≤ _ from lt_of_blk F11.out.2.1) ?_
          intro v22 A21 hown5 hb5 _
          have hbn := F11.out.1.trans (hb5.mono (Nat.le_succ _))
          have hxn : BxA w.heap.size x A21 := (hb5.block _ (Nat.lt_succ_self _)).trans F11.out.2.1
          have hln : (B17 ++ B20).length = 4 + (hdz pz + pz) + 7 + 7 + 7 := by rw [List.length_append, F11.out.2.2.2.1, F11.out.2.2.2.2.2.2]
          generalize B17 ++ B20 = B23 at *
          obtain ⟨oa5, c5', rfl, -, -⟩ := hown5.sl0
          rw [hln] at hown5 ⊢
          have F12 := Lib.hid (And.intro hbn (And.intro hxn (And.intro hown5 (hln))))
          clear F11
          clear hown5 hb5 hbn hxn hln
          clear e4
          clear hmdb hpfb hp8 ho2 hnb
          obtain ⟨-, c1, c2, c3, c4, c5⟩ := F12.out.2.1.cells
          rw [HO.out.2.1] at c2
          go_wp2_with fail
          have hcm := hc32
          go_loopw [11, 12] (fun sv iv wr => ∃ (i : Nat) (B : List Nat), i ≤ x.c.n ∧ iv = .int .i64 i ∧ RB.Own wr A21.heap.size sv B ∧ B.length = 4 * i ∧ Below A21.heap.size A21 wr) (fun _ iv _ => x.c.n - (intOf iv).toNat)
          case atStart => exact ⟨0, [], Nat.zero_le _, rfl, Rep.Own.nil _ _, rfl, Below.refl _ _⟩
          case round =>
            obtain ⟨i, B, hi, rfl, hown, hlen, hb⟩ := hrel
            obtain ⟨w2, rfl⟩ : ∃ w2 : World, w2 = wr := ⟨_, rfl⟩
            clear c1 c2 c3 c4 c5
            obtain ⟨-, -, -, -, -, c5⟩ := (F12.out.2.1.keep hb).cells
            obtain ⟨oa2, cc, rfl, hsl2, hn2⟩ := hown.sl0
            rw [hlen] at hown hsl2 ⊢
            have hax := HA.out.keep (bcall F12.out.1 (Nat.le_refl _) hb)
            by_cases hlt : i < x.c.n
            · have hil : ((i : Int) < (x.c.n : Int)) = True := by simp; omega
              have hi0 : ((0 : Int) ≤ (i : Int)) = True := by simp
              have hw3 := wrapS hlt (show x.c.n ≤ maxLen by unfold maxLen; omega)
              obtain ⟨b0, o0, ea, hbb, hat⟩ := hax.c.sl.at hlt
              have c0 := hat 0 (by decide)
              simp only [RI, Nat.add_zero, Nat.mul_one, List.getElem?_cons_zero] at c0
              rw [ea] at c5
              have hfy := List.all_eq_true.1 HCm.out _ (getD_mem (M := x.c.l) (i := i) (by rw [← hax.c.sl.len]; exact hlt))
              generalize x.c.l.getD i default = y at *
              have HP := Lib.hid (fun W => rputk_any 4 (by decide) y hfy W)
              have HG := Lib.hid (And.intro hown (And.intro hb hlen))
              clear hown hb hlen hsl2 hn2 hat hbb hfy hax ea
              go_wp2_with fail
              refine (HP.out _).mono ?_
              rintro e w4 ⟨v4, B4, rfl, hown4, hl4, hb4⟩
              obtain ⟨oa4, c4, rfl, hs4, hn4⟩ := hown4.sl0
              rw [hl4] at hs4 ⊢
              have HJ := Lib.hid (And.intro (HG.out.1.below hb4) (And.intro (bcall HG.out.2.1 (Nat.le_refl _) hb4) (And.intro hs4 (And.intro hn4 hl4))))
              clear hown4 hb4 hs4 hn4 hl4 c0 c5 HP
              go_wp2_with (at_builtin; refine halt ?_)
              refine Halted.go ?_
              have hgl := HG.out.2.2
              refine Rep.append_list T27 rfl _ _ rfl rfl HJ.out.1 (L := B) (M := B4) rfl HJ.out.2.2.1 HJ.out.2.2.2.1 (by rw [hgl]; unfold maxLen; omega) (by rw [hgl]; omega) HJ.out.2.1.size ?_
              intro v5 w5 hown5 hb5 _
              have HM := Lib.hid (And.intro hown5 (And.intro (show (B ++ B4).length = 4 * (i + 1) from by rw [List.length_append, hgl, HJ.out.2.2.2.2]; omega) (HJ.out.2.1.trans hb5)))
              clear hown5 hb5 HJ hgl hcm hc32 hi
              go_wp2_with fail
              exact ⟨⟨i + 1, _, hlt, by first | rw [hw3] | rw [Int.natCast_succ], HM.out.1, HM.out.2.1, HM.out.2.2⟩, by first | (rw [hw3]; exact mSucc hlt) | (rw [← Int.natCast_succ]; exact mSucc hlt)⟩
            · obtain rfl : i = x.c.n := by omega
              have hil : ((x.c.n : Int) < (x.c.n : Int)) = False := by simp
              clear hax hi hlt
              have F13 := Lib.hid (And.intro (bcall F12.out.1 (Nat.le_refl _) hb) (And.intro (F12.out.2.1.keep hb) (And.intro (F12.out.2.2.1.below hb) (And.intro F12.out.2.2.2 (And.intro hsl2 (hn2))))))
              clear F12
              clear hb hown hlen hsl2 hn2
              by_cases hcn : x.c.n = 0
              · have e5 : ((0 : Int) < ((4 * x.c.n : Nat) : Int)) = False := by simp; omega
                have e6 : (0 < 4 * x.c.n) = False := by simp; omega
                have e7 : (0 < x.c.n) = False := by simp; omega
                have e8 : ((0 : Int) < 4 * (x.c.n : Int)) = False := by simp; omega
                have HCN := Lib.hid hcn
                clear hcn
                go_wp2_with fail
                go_ret
                exact ⟨_, _, rfl, F13.out.2.2.1.mono (Nat.le_succ _), by rw [F13.out.2.2.2.1, HS.out, if_pos (by have := HMD.out; omega), if_pos (by have := HPF.out; omega), if_pos (by have := HCN.out; omega)], F13.out.1⟩
              · have e5 : ((0 : Int) < ((4 * x.c.n : Nat) : Int)) = True := by simp; omega
                have e6 : (0 < 4 * x.c.n) = True := by simp; omega
                have e7 : (0 < x.c.n) = True := by simp; omega
                have e8 : ((0 : Int) < 4 * (x.c.n : Int)) = True := by simp; omega
                have HCN := Lib.hid hcn
                clear hcn
                go_wp2_with fail
                clear e5 e6 e7 e8 c5
                refine (rone_short (f := 192) (k := 8) F13.out.2.2.2.2.1 F13.out.2.2.2.2.2 (by omega) (by decide) (by decide)).mono ?_
                rintro e A24 ⟨vy, B25, rfl, hoy, hly, hb⟩
                obtain ⟨oy, cy, rfl, hsy, hny⟩ := hoy.sl0
                rw [hly] at hsy ⊢
                have F14 := Lib.hid (And.intro (bcall F13.out.1 (Nat.le_refl _) hb) (And.intro (F13.out.2.1.keep hb) (And.intro (F13.out.2.2.1.below hb) (And.intro F13.out.2.2.2.1 (And.intro hsy (And.intro hny (hly)))))))
                clear F13
                clear hb hoy hly hsy hny
                go_wp2_with (at_builtin; refine halt ?_)
                refine Halted.go ?_
                refine Rep.append_list T27 rfl _ _ rfl rfl F14.out.2.2.1 rfl F14.out.2.2.2.2.1 F14.out.2.2.2.2.2.1 (by rw [F14.out.2.2.2.1]; have h1 := HPz.out; have h2 := hdz_le pz; unfold maxLen; omega) (by rw [F14.out.2.2.2.1]; have h1 := HPz.out; have h2 := hdz_le pz; omega) (show w.heap.size + 1 ≤ _ from lt_of_blk F14.out.2.1) ?_
                intro v27 A26 hown5 hb5 _
                have hbn := F14.out.1.trans (hb5.mono (Nat.le_succ _))
                have hxn : BxA w.heap.size x A26 := (hb5.block _ (Nat.lt_succ_self _)).trans F14.out.2.1
                have hln : (B23 ++ B25).length = 4 + (hdz pz + pz) + 7 + 7 + 7 + (3 + 4 * x.c.n) := by rw [List.length_append, F14.out.2.2.2.1, F14.out.2.2.2.2.2.2]
                generalize B23 ++ B25 = B28 at *
                obtain ⟨oa5, c5', rfl, -, -⟩ := hown5.sl0
                rw [hln] at hown5 ⊢
                have F15 := Lib.hid (And.intro hbn (And.intro hxn (And.intro hown5 (hln))))
                clear F14
                clear hown5 hb5 hbn hxn hln
                go_wp2_with fail
                go_ret
                exact ⟨_, _, rfl, F15.out.2.2.1.mono (Nat.le_succ _), by rw [F15.out.2.2.2, HS.out, if_pos (by have := HMD.out; omega), if_pos (by have := HPF.out; omega), if_neg (by have := HCN.out; omega)], F15.out.1⟩
        · have e4 : (0 ≤ x.pf) = False := eq_false hpf
          have HPF := Lib.hid hpf
          clear hpf
          clear hmdb hpfb hp8 ho2 hnb
          obtain ⟨-, c1, c2, c3, c4, c5⟩ := F9.out.2.1.cells
          rw [HO.out.2.1] at c2
          go_wp2_with fail
          have hcm := hc32
          go_loopw [11, 12] (fun sv iv wr => ∃ (i : Nat) (B : List Nat), i ≤ x.c.n ∧ iv = .int .i64 i ∧ RB.Own wr A15.heap.size sv B ∧ B.length = 4 * i ∧ Below A15.heap.size A15 wr) (fun _ iv _ => x.c.n - (intOf iv).toNat)
          case atStart => exact ⟨0, [], Nat.zero_le _, rfl, Rep.Own.nil _ _, rfl, Below.refl _ _⟩
          case round =>
            obtain ⟨i, B, hi, rfl, hown, hlen, hb⟩ := hrel
            obtain ⟨w2, rfl⟩ : ∃ w2 : World, w2 = wr := ⟨_, rfl⟩
            clear c1 c2 c3 c4 c5
            obtain ⟨-, -, -, -, -, c5⟩ := (F9.out.2.1.keep hb).cells
            obtain ⟨oa2, cc, rfl, hsl2, hn2⟩ := hown.sl0
            rw [hlen] at hown hsl2 ⊢
            have hax := HA.out.keep (bcall F9.out.1 (Nat.le_refl _) hb)
            by_cases hlt : i < x.c.n
            · have hil : ((i : Int) < (x.c.n : Int)) = True := by simp; omega
              have hi0 : ((0 : Int) ≤ (i : Int)) = True := by simp
              have hw3 := wrapS hlt (show x.c.n ≤ maxLen by unfold maxLen; omega)
              obtain ⟨b0, o0, ea, hbb, hat⟩ := hax.c.sl.at hlt
              have c0 := hat 0 (by decide)
              simp only [RI, Nat.add_zero, Nat.mul_one, List.getElem?_cons_zero] at c0
              rw [ea] at c5
              have hfy := List.all_eq_true.1 HCm.out _ (getD_mem (M := x.c.l) (i := i) (by rw [← hax.c.sl.len]; exact hlt))
              generalize x.c.l.getD i default = y at *
              have HP := Lib.hid (fun W => rputk_any 4 (by decide) y hfy W)
              have HG := Lib.hid (And.intro hown (And.intro hb hlen))
              clear hown hb hlen hsl2 hn2 hat hbb hfy hax ea
              go_wp2_with fail
              refine (HP.out _).mono ?_
              rintro e w4 ⟨v4, B4, rfl, hown4, hl4, hb4⟩
              obtain ⟨oa4, c4, rfl, hs4, hn4⟩ := hown4.sl0
              rw [hl4] at hs4 ⊢
              have HJ := Lib.hid (And.intro (HG.out.1.below hb4) (And.intro (bcall HG.out.2.1 (Nat.le_refl _) hb4) (And.intro hs4 (And.intro hn4 hl4))))
              clear hown4 hb4 hs4 hn4 hl4 c0 c5 HP
              go_wp2_with (at_builtin; refine halt ?_)
              refine Halted.go ?_
              have hgl := HG.out.2.2
              refine Rep.append_list T27 rfl _ _ rfl rfl HJ.out.1 (L := B) (M := B4) rfl HJ.out.2.2.1 HJ.out.2.2.2.1 (by rw [hgl]; unfold maxLen; omega) (by rw [hgl]; omega) HJ.out.2.1.size ?_
              intro v5 w5 hown5 hb5 _
              have HM := Lib.hid (And.intro hown5 (And.intro (show (B ++ B4).length = 4 * (i + 1) from by rw [List.length_append, hgl, HJ.out.2.2.2.2]; omega) (HJ.out.2.1.trans hb5)))
              clear hown5 hb5 HJ hgl hcm hc32 hi
              go_wp2_with fail
              exact ⟨⟨i + 1, _, hlt, by first | rw [hw3] | rw [Int.natCast_succ], HM.out.1, HM.out.2.1, HM.out.2.2⟩, by first | (rw [hw3]; exact mSucc hlt) | (rw [← Int.natCast_succ]; exact mSucc hlt)⟩
            · obtain rfl : i = x.c.n := by omega
              have hil : ((x.c.n : Int) < (x.c.n : Int)) = False := by simp
              clear hax hi hlt
              have F16 := Lib.hid (And.intro (bcall F9.out.1 (Nat.le_refl _) hb) (And.intro (F9.out.2.1.keep hb) (And.intro (F9.out.2.2.1.below hb) (And.intro F9.out.2.2.2 (And.intro hsl2 (hn2))))))
              clear F9
              clear hb hown hlen hsl2 hn2
              by_cases hcn : x.c.n = 0
              · have e5 : ((0 : Int) < ((4 * x.c.n : Nat) : Int)) = False := by simp; omega
                have e6 : (0 < 4 * x.c.n) = False := by simp; omega
                have e7 : (0 < x.c.n) = False := by simp; omega
                have e8 : ((0 : Int) < 4 * (x.c.n : Int)) = False := by simp; omega
                have HCN := Lib.hid hcn
                clear hcn
                go_wp2_with fail
                go_ret
                exact ⟨_, _, rfl, F16.out.2.2.1.mono (Nat.le_succ _), by rw [F16.out.2.2.2.1, HS.out, if_pos (by have := HMD.out; omega), if_neg (by have := HPF.out; omega), if_pos (by have := HCN.out; omega)], F16.out.1⟩
              · have e5 : ((0 : Int) < ((4 * x.c.n : Nat) : Int)) = True := by simp; omega
                have e6 : (0 < 4 * x.c.n) = True := by simp; omega
                have e7 : (0 < x.c.n) = True := by simp; omega
                have e8 : ((0 : Int) < 4 * (x.c.n : Int)) = True := by simp; omega
                have HCN := Lib.hid hcn
                clear hcn
                go_wp2_with fail
                clear e5 e6 e7 e8 c5
                refine (rone_short (f := 192) (k := 8) F16.out.2.2.2.2.1 F16.out.2.2.2.2.2 (by omega) (by decide) (by decide)).mono ?_
                rintro e A29 ⟨vy, B30, rfl, hoy, hly, hb⟩
                obtain ⟨oy, cy, rfl, hsy, hny⟩ := hoy.sl0
                rw [hly] at hsy ⊢
                have F17 := Lib.hid (And.intro (bcall F16.out.1 (Nat.le_refl _) hb) (And.intro (F16.out.2.1.keep hb) (And.intro (F16.out.2.2.1.below hb) (And.intro F16.out.2.2.2.1 (And.intro hsy (And.intro hny (hly)))))))
                clear F16
                clear hb hoy hly hsy hny
                go_wp2_with (at_builtin; refine halt ?_)
                refine Halted.go ?_
                refine Rep.append_list T27 rfl _ _ rfl rfl F17.out.2.2.1 rfl F17.out.2.2.2.2.1 F17.out.2.2.2.2.2.1 (by rw [F17.out.2.2.2.1]; have h1 := HPz.out; have h2 := hdz_le pz; unfold maxLen; omega) (by rw [F17.out.2.2.2.1]; have h1 := HPz.out; have h2 := hdz_le pz; omega) (show w.heap.size + 1 ≤ _ from lt_of_blk F17.out.2.1) ?_
                intro v32 A31 hown5 hb5 _
                have hbn := F17.out.1.trans (hb5.mono (Nat.le_succ _))
                have hxn : BxA w.heap.size x A31 := (hb5.block _ (Nat.lt_succ_self _)).trans F17.out.2.1
                have hln : (B17 ++ B30).length = 4 + (hdz pz + pz) + 7 + 7 + (3 + 4 * x.c.n) := by rw [List.length_append, F17.out.2.2.2.1, F17.out.2.2.2.2.2.2]
                generalize B17 ++ B30 = B33 at *
                obtain ⟨oa5, c5', rfl, -, -⟩ := hown5.sl0
                rw [hln] at hown5 ⊢
                have F18 := Lib.hid (And.intro hbn (And.intro hxn (And.intro hown5 (hln))))
                clear F17
                clear hown5 hb5 hbn hxn hln
                go_wp2_with fail
                go_ret
                exact ⟨_, _, rfl, F18.out.2.2.1.mono (Nat.le_succ _), by rw [F18.out.2.2.2, HS.out, if_pos (by have := HMD.out; omega), if_neg (by have := HPF.out; omega), if_neg (by have := HCN.out; omega)], F18.out.1⟩
      · have e3 : (0 ≤ x.md) = False := eq_false hmd
        have HMD := Lib.hid hmd
        clear hmd
        by_cases hpf : 0 ≤ x.pf
        · have e4 : (0 ≤ x.pf) = True := eq_true hpf
          have HPF := Lib.hid hpf
          clear hpf
          obtain ⟨-, c1, c2, c3, c4, c5⟩ := F6.out.2.1.cells
          rw [HO.out.2.1] at c2
          go_wp2_with fail
          refine (rputk_any 4 (by decide) x.pf (fits4_of HPF.out hpfb) _).mono ?_
          rintro e A34 ⟨vn, Bn, rfl, hon, hln, hb⟩
          obtain ⟨on1, cn, rfl, hsn, hnn⟩ := hon.sl0
          rw [hln] at hsn ⊢
          have F19 := Lib.hid (And.intro (bcall F6.out.1 (Nat.le_refl _) hb) (And.intro (F6.out.2.1.keep hb) (And.intro (F6.out.2.2.1.below hb) (And.intro F6.out.2.2.2 (And.intro hsn (hnn))))))
          clear F6
          clear hb hon hln hsn hnn
          clear c1 c2 c3 c4 c5
          go_wp2_with fail
          refine (rone_short (f := 64) (k := 5) F19.out.2.2.2.2.1 F19.out.2.2.2.2.2 (by decide) (by decide) (by decide)).mono ?_
          rintro e A35 ⟨vy, B36, rfl, hoy, hly, hb⟩
          obtain ⟨oy, cy, rfl, hsy, hny⟩ := hoy.sl0
          rw [hly] at hsy ⊢
          have F20 := Lib.hid (And.intro (bcall F19.out.1 (Nat.le_refl _) hb) (And.intro (F19.out.2.1.keep hb) (And.intro (F19.out.2.2.1.below hb) (And.intro F19.out.2.2.2.1 (And.intro hsy (And.intro hny (hly)))))))
          clear F19
          clear hb hoy hly hsy hny
          go_wp2_with (at_builtin; refine halt ?_)
          refine Halted.go ?_
          refine Rep.append_list T27 rfl _ _ rfl rfl F20.out.2.2.1 rfl F20.out.2.2.2.2.1 F20.out.2.2.2.2.2.1 (by rw [F20.out.2.2.2.1]; have h1 := HPz.out; have h2 := hdz_le pz; unfold maxLen; omega) (by rw [F20.out.2.2.2.1]; have h1 := HPz.out; have h2 := hdz_le pz; omega) (show w.heap.size + 1 ≤ _ from lt_of_blk F20.out.2.1) ?_
          intro v38 A37 hown5 hb5 _
          have hbn := F20.out.1.trans (hb5.mono (Nat.le_succ _))
          have hxn : BxA w.heap.size x A37 := (hb5.block _ (Nat.lt_succ_self _)).trans F20.out.2.1
          have hln : (B11 ++ B36).length = 4 + (hdz pz + pz) + 7 + 7 := by rw [List.length_append, F20.out.2.2.2.1, F20.out.2.2.2.2.2.2]
          generalize B11 ++ B36 = B39 at *
          obtain ⟨oa5, c5', rfl, -, -⟩ := hown5.sl0
          rw [hln] at hown5 ⊢
          have F21 := Lib.hid (And.intro hbn (And.intro hxn (And.intro hown5 (hln))))
          clear F20
          clear hown5 hb5 hbn hxn hln
          clear e4
          clear hmdb hpfb hp8 ho2 hnb
          obtain ⟨-, c1, c2, c3, c4, c5⟩ := F21.out.2.1.cells
          rw [HO.out.2.1] at c2
          go_wp2_with fail
          have hcm := hc32
          go_loopw [11, 12] (fun sv iv wr => ∃ (i : Nat) (B : List Nat), i ≤ x.c.n ∧ iv = .int .i64 i ∧ RB.Own wr A37.heap.size sv B ∧ B.length = 4 * i ∧ Below A37.heap.size A37 wr) (fun _ iv _ => x.c.n - (intOf iv).toNat)
          case atStart => exact ⟨0, [], Nat.zero_le _, rfl, Rep.Own.nil _ _, rfl, Below.refl _ _⟩
          case round =>
            obtain ⟨i, B, hi, rfl, hown, hlen, hb⟩ := hrel
            obtain ⟨w2, rfl⟩ : ∃ w2 : World, w2 = wr := ⟨_, rfl⟩
            clear c1 c2 c3 c4 c5
            obtain ⟨-, -, -, -, -, c5⟩ := (F21.out.2.1.keep hb).cells
            obtain ⟨oa2, cc, rfl, hsl2, hn2⟩ := hown.sl0
            rw [hlen] at hown hsl2 ⊢
            have hax := HA.out.keep (bcall F21.out.1 (Nat.le_refl _) hb)
            by_cases hlt : i < x.c.n
            · have hil : ((i : Int) < (x.c.n : Int)) = True := by simp; omega
              have hi0 : ((0 : Int) ≤ (i : Int)) = True := by simp
              have hw3 := wrapS hlt (show x.c.n ≤ maxLen by unfold maxLen; omega)
              obtain ⟨b0, o0, ea, hbb, hat⟩ := hax.c.sl.at hlt
              have c0 := hat 0 (by decide)
              simp only [RI, Nat.add_zero, Nat.mul_one, List.getElem?_cons_zero] at c0
              rw [ea] at c5
              have hfy := List.all_eq_true.1 HCm.out _ (getD_mem (M := x.c.l) (i := i) (by rw [← hax.c.sl.len]; exact hlt))
              generalize x.c.l.getD i default = y at *
              have HP := Lib.hid (fun W => rputk_any 4 (by decide) y hfy W)
              have HG := Lib.hid (And.intro hown (And.intro hb hlen))
              clear hown hb hlen hsl2 hn2 hat hbb hfy hax ea
              go_wp2_with fail
              refine (HP.out _).mono ?_
              rintro e w4 ⟨v4, B4, rfl, hown4, hl4, hb4⟩
              obtain ⟨oa4, c4, rfl, hs4, hn4⟩ := hown4.sl0
              rw [hl4] at hs4 ⊢
              have HJ := Lib.hid (And.intro (HG.out.1.below hb4) (And.intro (bcall HG.out.2.1 (Nat.le_refl _) hb4) (And.intro hs4 (And.intro hn4 hl4))))
              clear hown4 hb4 hs4 hn4 hl4 c0 c5 HP
              go_wp2_with (at_builtin; refine halt ?_)
              refine Halted.go ?_
              have hgl := HG.out.2.2
              refine Rep.append_list T27 rfl _ _ rfl rfl HJ.out.1 (L := B) (M := B4) rfl HJ.out.2.2.1 HJ.out.2.2.2.1 (by rw [hgl]; unfold maxLen; omega) (by rw [hgl]; omega) HJ.out.2.1.size ?_
              intro v5 w5 hown5 hb5 _
              have HM := Lib.hid (And.intro hown5 (And.intro (show (B ++ B4).length = 4 * (i + 1) from by rw [List.length_append, hgl, HJ.out.2.2.2.2]; omega) (HJ.out.2.1.trans hb5)))
              clear hown5 hb5 HJ hgl hcm hc32 hi
              go_wp2_with fail
              exact ⟨⟨i + 1, _, hlt, by first | rw [hw3] | rw [Int.natCast_succ], HM.out.1, HM.out.2.1, HM.out.2.2⟩, by first | (rw [hw3]; exact mSucc hlt) | (rw [← Int.natCast_succ]; exact mSucc hlt)⟩
            · obtain rfl : i = x.c.n := by omega
              have hil : ((x.c.n : Int) < (x.c.n : Int)) = False := by simp
              clear hax hi hlt
              have F22 := Lib.hid (And.intro (bcall F21.out.1 (Nat.le_refl _) hb) (And.intro (F21.out.2.1.keep hb) (And.intro (F21.out.2.2.1.below hb) (And.intro F21.out.2.2.2 (And.intro hsl2 (hn2))))))
              clear F21
              clear hb hown hlen hsl2 hn2
              by_cases hcn : x.c.n = 0
              · have e5 : ((0 : Int) < ((4 * x.c.n : Nat) : Int)) = False := by simp; omega
                have e6 : (0 < 4 * x.c.n) = False := by simp; omega
                have e7 : (0 < x.c.n) = False := by simp; omega
                have e8 : ((0 : Int) < 4 * (x.c.n : Int)) = False := by simp; omega
                have HCN := Lib.hid hcn
                clear hcn
                go_wp2_with fail
                go_ret
                exact ⟨_, _, rfl, F22.out.2.2.1.mono (Nat.le_succ _), by rw [F22.out.2.2.2.1, HS.out, if_neg (by have := HMD.out; omega), if_pos (by have := HPF.out; omega), if_pos (by have := HCN.out; omega)], F22.out.1⟩
              · have e5 : ((0 : Int) < ((4 * x.c.n : Nat) : Int)) = True := by simp; omega
                have e6 : (0 < 4 * x.c.n) = True := by simp; omega
                have e7 : (0 < x.c.n) = True := by simp; omega
                have e8 : ((0 : Int) < 4 * (x.c.n : Int)) = True := by simp; omega
                have HCN := Lib.hid hcn
                clear hcn
                go_wp2_with fail
                clear e5 e6 e7 e8 c5
                refine (rone_short (f := 192) (k := 8) F22.out.2.2.2.2.1 F22.out.2.2.2.2.2 (by omega) (by decide) (by decide)).mono ?_
                rintro e A40 ⟨vy, B41, rfl, hoy, hly, hb⟩
                obtain ⟨oy, cy, rfl, hsy, hny⟩ := hoy.sl0
                rw [hly] at hsy ⊢
                have F23 := Lib.hid (And.intro (bcall F22.out.1 (Nat.le_refl _) hb) (And.intro (F22.out.2.1.keep hb) (And.intro (F22.out.2.2.1.below hb) (And.intro F22.out.2.2.2.1 (And.intro hsy (And.intro hny (hly)))))))
                clear F22
                clear hb hoy hly hsy hny
                go_wp2_with (at_builtin; refine halt ?_)
                refine Halted.go ?_
                refine Rep.append_list T27 rfl _ _ rfl rfl F23.out.2.2.1 rfl F23.out.2.2.2.2.1 F23.out.2.2.2.2.2.1 (by rw [F23.out.2.2.2.1]; have h1 := HPz.out; have h2 := hdz_le pz; unfold maxLen; omega) (by rw [F23.out.2.2.2.1]; have h1 := HPz.out; have h2 := hdz_le pz; omega) (show w.heap.size + 1 ≤ _ from lt_of_blk F23.out.2.1) ?_
                intro v43 A42 hown5 hb5 _
                have hbn := F23.out.1.trans (hb5.mono (Nat.le_succ _))
                have hxn : BxA w.heap.size x A42 := (hb5.block _ (Nat.lt_succ_self _)).trans F23.out.2.1
                have hln : (B39 ++ B41).length = 4 + (hdz pz + pz) + 7 + 7 + (3 + 4 * x.c.n) := by rw [List.length_append, F23.out.2.2.2.1, F23.out.2.2.2.2.2.2]
                generalize B39 ++ B41 = B44 at *
                obtain ⟨oa5, c5', rfl, -, -⟩ := hown5.sl0
                rw [hln] at hown5 ⊢
                have F24 := Lib.hid (And.intro hbn (And.intro hxn (And.intro hown5 (hln))))
                clear F23
                clear hown5 hb5 hbn hxn hln
                go_wp2_with fail
                go_ret
                exact ⟨_, _, rfl, F24.out.2.2.1.mono (Nat.le_succ _), by rw [F24.out.2.2.2, HS.out, if_neg (by have := HMD.out; omega), if_pos (by have := HPF.out; omega), if_neg (by have := HCN.out; omega)], F24.out.1⟩
        · have e4 : (0 ≤ x.pf) = False := eq_false hpf
          have HPF := Lib.hid hpf
          clear hpf
          clear hmdb hpfb hp8 ho2 hnb
          obtain ⟨-, c1, c2, c3, c4, c5⟩ := F6.out.2.1.cells
          rw [HO.out.2.1] at c2
          go_wp2_with fail
          have hcm := hc32
          go_loopw [11, 12] (fun sv iv wr => ∃ (i : Nat) (B : List Nat), i ≤ x.c.n ∧ iv = .int .i64 i ∧ RB.Own wr A9.heap.size sv B ∧ B.length = 4 * i ∧ Below A9.heap.size A9 wr) (fun _ iv _ => x.c.n - (intOf iv).toNat)
          case atStart => exact ⟨0, [], Nat.zero_le _, rfl, Rep.Own.nil _ _, rfl, Below.refl _ _⟩
          case round =>
            obtain ⟨i, B, hi, rfl, hown, hlen, hb⟩ := hrel
            obtain ⟨w2, rfl⟩ : ∃ w2 : World, w2 = wr := ⟨_, rfl⟩
            clear c1 c2 c3 c4 c5
            obtain ⟨-, -, -, -, -, c5⟩ := (F6.out.2.1.keep hb).cells
            obtain ⟨oa2, cc, rfl, hsl2, hn2⟩ := hown.sl0
            rw [hlen] at hown hsl2 ⊢
            have hax := HA.out.keep (bcall F6.out.1 (Nat.le_refl _) hb)
            by_cases hlt : i < x.c.n
            · have hil : ((i : Int) < (x.c.n : Int)) = True := by simp; omega
              have hi0 : ((0 : Int) ≤ (i : Int)) = True := by simp
              have hw3 := wrapS hlt (show x.c.n ≤ maxLen by unfold maxLen; omega)
              obtain ⟨b0, o0, ea, hbb, hat⟩ := hax.c.sl.at hlt
              have c0 := hat 0 (by decide)
              simp only [RI, Nat.add_zero, Nat.mul_one, List.getElem?_cons_zero] at c0
              rw [ea] at c5
              have hfy := List.all_eq_true.1 HCm.out _ (getD_mem (M := x.c.l) (i := i) (by rw [← hax.c.sl.len]; exact hlt))
              generalize x.c.l.getD i default = y at *
              have HP := Lib.hid (fun W => rputk_any 4 (by decide) y hfy W)
              have HG := Lib.hid (And.intro hown (And.intro hb hlen))
              clear hown hb hlen hsl2 hn2 hat hbb hfy hax ea
              go_wp2_with fail
              refine (HP.out _).mono ?_
              rintro e w4 ⟨v4, B4, rfl, hown4, hl4, hb4⟩
              obtain ⟨oa4, c4, rfl, hs4, hn4⟩ := hown4.sl0
              rw [hl4] at hs4 ⊢
              have HJ := Lib.hid (And.intro (HG.out.1.below hb4) (And.intro (bcall HG.out.2.1 (Nat.le_refl _) hb4) (And.intro hs4 (And.intro hn4 hl4))))
              clear hown4 hb4 hs4 hn4 hl4 c0 c5 HP
              go_wp2_with (at_builtin; refine halt ?_)
              refine Halted.go ?_
              have hgl := HG.out.2.2
              refine Rep.append_list T27 rfl _ _ rfl rfl HJ.out.1 (L := B) (M := B4) rfl HJ.out.2.2.1 HJ.out.2.2.2.1 (by rw [hgl]; unfold maxLen; omega) (by rw [hgl]; omega) HJ.out.2.1.size ?_
              intro v5 w5 hown5 hb5 _
              have HM := Lib.hid (And.intro hown5 (And.intro (show (B ++ B4).length = 4 * (i + 1) from by rw [List.length_append, hgl, HJ.out.2.2.2.2]; omega) (HJ.out.2.1.trans hb5)))
              clear hown5 hb5 HJ hgl hcm hc32 hi
              go_wp2_with fail
              exact ⟨⟨i + 1, _, hlt, by first | rw [hw3] | rw [Int.natCast_succ], HM.out.1, HM.out.2.1, HM.out.2.2⟩, by first | (rw [hw3]; exact mSucc hlt) | (rw [← Int.natCast_succ]; exact mSucc hlt)⟩
            · obtain rfl : i = x.c.n := by omega
              have hil : ((x.c.n : Int) < (x.c.n : Int)) = False := by simp
              clear hax hi hlt
              have F25 := Lib.hid (And.intro (bcall F6.out.1 (Nat.le_refl _) hb) (And.intro (F6.out.2.1.keep hb) (And.intro (F6.out.2.2.1.below hb) (And.intro F6.out.2.2.2 (And.intro hsl2 (hn2))))))
              clear F6
              clear hb hown hlen hsl2 hn2
              by_cases hcn : x.c.n = 0
              · have e5 : ((0 : Int) < ((4 * x.c.n : Nat) : Int)) = False := by simp; omega
                have e6 : (0 < 4 * x.c.n) = False := by simp; omega
                have e7 : (0 < x.c.n) = False := by simp; omega
                have e8 : ((0 : Int) < 4 * (x.c.n : Int)) = False := by simp; omega
                have HCN := Lib.hid hcn
                clear hcn
                go_wp2_with fail
                go_ret
                exact ⟨_, _, rfl, F25.out.2.2.1.mono (Nat.le_succ _), by rw [F25.out.2.2.2.1, HS.out, if_neg (by have := HMD.out; omega), if_neg (by have := HPF.out; omega), if_pos (by have := HCN.out; omega)], F25.out.1⟩
              · have e5 : ((0 : Int) < ((4 * x.c.n : Nat) : Int)) = True := by simp; omega
                have e6 : (0 < 4 * x.c.n) = True := by simp; omega
                have e7 : (0 < x.c.n) = True := by simp; omega
                have e8 : ((0 : Int) < 4 * (x.c.n : Int)) = True := by simp; omega
                have HCN := Lib.hid hcn
                clear hcn
                go_wp2_with fail
                clear e5 e6 e7 e8 c5
                refine (rone_short (f := 192) (k := 8) F25.out.2.2.2.2.1 F25.out.2.2.2.2.2 (by omega) (by decide) (by decide)).mono ?_
                rintro e A45 ⟨vy, B46, rfl, hoy, hly, hb⟩
                obtain ⟨oy, cy, rfl, hsy, hny⟩ := hoy.sl0
                rw [hly] at hsy ⊢
                have F26 := Lib.hid (And.intro (bcall F25.out.1 (Nat.le_refl _) hb) (And.intro (F25.out.2.1.keep hb) (And.intro (F25.out.2.2.1.below hb) (And.intro F25.out.2.2.2.1 (And.intro hsy (And.intro hny (hly)))))))
                clear F25
                clear hb hoy hly hsy hny
                go_wp2_with (at_builtin; refine halt ?_)
                refine Halted.go ?_
                refine Rep.append_list T27 rfl _ _ rfl rfl F26.out.2.2.1 rfl F26.out.2.2.2.2.1 F26.out.2.2.2.2.2.1 (by rw [F26.out.2.2.2.1]; have h1 := HPz.out; have h2 := hdz_le pz; unfold maxLen; omega) (by rw [F26.out.2.2.2.1]; have h1 := HPz.out; have h2 := hdz_le pz; omega) (show w.heap.size + 1 ≤ _ from lt_of_blk F26.out.2.1) ?_
                intro v48 A47 hown5 hb5 _
                have hbn := F26.out.1.trans (hb5.mono (Nat.le_succ _))
                have hxn : BxA w.heap.size x A47 := (hb5.block _ (Nat.lt_succ_self _)).trans F26.out.2.1
                have hln : (B11 ++ B46).length = 4 + (hdz pz + pz) + 7 + (3 + 4 * x.c.n) := by rw [List.length_append, F26.out.2.2.2.1, F26.out.2.2.2.2.2.2]
                generalize B11 ++ B46 = B49 at *
                obtain ⟨oa5, c5', rfl, -, -⟩ := hown5.sl0
                rw [hln] at hown5 ⊢
                have F27 := Lib.hid (And.intro hbn (And.intro hxn (And.intro hown5 (hln))))
                clear F26
                clear hown5 hb5 hbn hxn hln
                go_wp2_with fail
                go_ret
                exact ⟨_, _, rfl, F27.out.2.2.1.mono (Nat.le_succ _), by rw [F27.out.2.2.2, HS.out, if_neg (by have := HMD.out; omega), if_neg (by have := HPF.out; omega), if_neg (by have := HCN.out; omega)], F27.out.1⟩
end Go.Proofs.Ytadoflcomienoaa

