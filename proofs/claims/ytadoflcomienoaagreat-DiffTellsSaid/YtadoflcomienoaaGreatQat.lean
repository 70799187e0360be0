/- Updates of what comes, as the program tells. -/
import Derived.Test.YtadoflcomienoaaGreatQas
import Derived.Test.YtadoflcomienoaaGreatQar
import Derived.Test.YtadoflcomienoaaGreatQam
import Derived.Test.YtadoflcomienoaaGreatQaq
import Derived.Test.YtadoflcomienoaaGreatQah
import Derived.Test.YtadoflcomienoaaGreatQap
import Derived.Test.YtadoflcomienoaaGreatQae
import Derived.Test.YtadoflcomienoaaGreatQab
import Derived.Test.YtadoflcomienoaaGreatQan
namespace Go.Proofs.YtadoflcomienoaaGreat
open Go.RowKit

theorem Rep.cut_kkB {P : Program} {α : Type} [Inhabited α] {R : Rep α} {t : TypeId} {bytes : Nat} (hT : Rep.Ty P t R bytes) {w : World} {a : Option Addr} {n c : Nat} {L : List α} (hs : R.Sl w a n c L) (hnc : n ≤ c) {i : Nat} (hi : i ≤ n) :
    ∃ sa, (∀ W, (Instr.sliceAt t (.slice a n c) none (some (.int .i64 (i : Int))) (some (.int .i64 (i : Int)))).run P W = .ok (.slice sa i i) W) ∧ (∀ W, (Instr.slice t (.slice a n c) none (some (.int .i64 (i : Int))) (some (.int .i64 (i : Int)))).run P W = .ok (.slice sa i i) W) ∧
      R.Sl w sa i i (L.take i) ∧ (∀ b o, a = some ⟨b, o, none⟩ → ∃ o', sa = some ⟨b, o', none⟩) := by
  have h2 : ∀ W, (Instr.slice t (.slice a n c) none (some (.int .i64 (i : Int))) (some (.int .i64 (i : Int)))).run P W = .ok (.slice (Rep.cutAddr a 0 i R.k) i i) W := fun W => by
    rw [run_slice_hm W t a n c hT.elem' .i64 .i64 (i : Int) (i : Int) (by omega) (by omega) (by omega), hT.size W]
    simp only [Result.andThen, sliced, Int.toNat_natCast, Rep.cutAddr, Nat.sub_zero]
  refine ⟨Rep.cutAddr a 0 i R.k, fun W => ?_, h2, ⟨by rw [List.length_take, ← hs.len]; omega, by have := hs.max; omega, fun h0 => ?_⟩, fun b o e => ?_⟩
  · rw [run_sliceAt_slice W t _ _ _ _ hT.elem']; exact h2 W
  · obtain ⟨b, o, e, hr⟩ := hs.row (by omega)
    obtain ⟨o', e', ho'⟩ := Rep.cutAddr_some (b := b) (o := o) (l := 0) (m := i) (k := R.k)
    rw [e, e']
    refine ⟨b, o', rfl, ?_⟩
    rw [ho' (by omega), Nat.zero_mul, Nat.add_zero]
    exact hr.take i
  · obtain ⟨o', e', -⟩ := Rep.cutAddr_some (b := b) (o := o) (l := 0) (m := i) (k := R.k)
    rw [e, e']
    exact ⟨o', rfl⟩
theorem NewS.cut {α : Type} [Inhabited α] {R : Rep α} {w : World} {B : Nat} {a sa : Option Addr} {n c m d : Nat} {L M : List α} (h : NewS B (⟨a, n, c, L⟩ : SlV α)) (hs : R.Sl w a n c L) (hm : 0 < m → 0 < n) (hb : ∀ b o, a = some ⟨b, o, none⟩ → ∃ o', sa = some ⟨b, o', none⟩) : NewS B (⟨sa, m, d, M⟩ : SlV α) := by
  intro h0 x e
  obtain ⟨b, o, ea, -⟩ := hs.row (hm h0)
  obtain ⟨o', e'⟩ := hb b o ea
  have h1 := h (hm h0) _ ea
  dsimp only at e
  rw [e'] at e
  injection e with e
  rw [← e]
  exact h1
theorem smA_of {four : Bool} {w : World} {x : AtV} (hx : AtOk w x) (h : okA four x.at = true) : SmA x := by
  rw [okA_at hx] at h
  simp only [Bool.and_eq_true, decide_eq_true_eq] at h
  refine ⟨by omega, by omega, fun y hy => ?_⟩
  have h1 := List.all_eq_true.1 h.1.2.2 y hy
  unfold okSg at h1
  simp only [Bool.and_eq_true, decide_eq_true_eq] at h1
  have h2 : y.s.n = y.s.l.length := (hx.p.all y hy).sl.len
  have h3 : y.sg.2.length = y.s.l.length := rfl
  omega
set_option maxRecDepth 100000 in
set_option maxHeartbeats 16000000 in
theorem dcome_any {w : World} {sa : Option Addr} {sn sc : Nat} {sl : List SyV} {four : Bool} {lo : Nat} (h : SlOk RSy SyOk w ⟨sa, sn, sc, sl⟩) (hB : ∀ s ∈ sl, LowA lo s.a) (hok : ∀ s ∈ sl, okS four s = true) (hmx : sn ≤ 4611686) : Calls Tryz.prog 50 #[.slice sa sn sc, .bool four] w fun e w' => ∃ v M, e = .returned v ∧ OwnP RUp UpOk w' w.heap.size v M ∧ M.map UpV.up = comeI szN (asz four) sl.length (sl.map SyV.sy) ∧ (∀ x ∈ M, ApU lo w.heap.size x) ∧ Below w.heap.size w w' := by
  have HH := Lib.hid hmx
  obtain ⟨tot, htot⟩ : ∃ t, comeI szN (asz four) sl.length (sl.map SyV.sy) = t := ⟨_, rfl⟩
  have HG0 := Lib.hid (And.intro (show CmS four lo w.heap.size sn tot [] sl from htot ▸ CmS.start hok hB h.sl.len) h)
  rw [htot]
  clear h hB hok hmx htot
  go_enter Tryz.func50, Tryz.ntmps50
  go_wp2_with fail
  go_loopw [0, 5] (fun lv ov wr => ∃ (l : SlV SyV) (M : List UpV), lv = .slice l.a l.n l.c ∧ Firm ov.ownBlock wr (fun W => SlOk RSy SyOk W l) ∧ CmS four lo w.heap.size sn tot M l.l ∧ OwnP RUp UpOk wr w.heap.size ov M ∧ Below w.heap.size w wr) (fun lv _ _ => lenV lv)
  case atStart => exact ⟨⟨sa, sn, sc, sl⟩, [], rfl, Firm.old (Below.refl _ _) (fun W hW => HG0.out.2.keepY hW) (fun _ e => by cases e), HG0.out.1, OwnP.nil, Below.refl _ _⟩
  case round =>
    obtain ⟨⟨la, ln, lc, ll⟩, M, rfl, hs, hg, hown, hb⟩ := hrel
    dsimp only at *
    obtain ⟨w2, rfl⟩ : ∃ w2 : World, w2 = wr := ⟨_, rfl⟩
    obtain ⟨oc, cc, rfl, -, -⟩ := hown.own.sl0
    have hln : ln = ll.length := hs.now.sl.len
    by_cases h0 : 0 < ln
    · have hil : (0 < ln) = True := eq_true h0
      obtain ⟨b, o, ea, hbb, hat⟩ := sl_head hs.now.sl h0
      dsimp only at ea hat
      subst ea
      obtain ⟨x0, r0, hl0⟩ : ∃ x r, ll = x :: r := by
        cases ll with
        | nil => rw [List.length_nil] at hln; omega
        | cons x r => exact ⟨x, r, rfl⟩
      have hx0 : ll.getD 0 default = x0 := by rw [hl0]; rfl
      rw [hx0] at hat
      have hmL : ln ≤ 4611686 := by have := hg.len; have := HH.out; omega
      have hokx := hs.now.all x0 (by dsimp only; rw [hl0]; exact List.mem_cons_self)
      have hokS := hg.ok x0 (by rw [hl0]; exact List.mem_cons_self)
      have HSM := Lib.hid (smA_of hokx.a (okA_of hokS))
      have G := Lib.hid (And.intro hs (And.intro hg (And.intro hown (And.intro hb (And.intro hl0 (And.intro hln (And.intro hmL hokx)))))))
      have c0 := hat 0 (by decide)
      have c1 := hat 1 (by decide)
      have c2 := hat 2 (by decide)
      have c3 := hat 3 (by decide)
      have c4 := hat 4 (by decide)
      have c5 := hat 5 (by decide)
      have c6 := hat 6 (by decide)
      have c7 := hat 7 (by decide)
      simp only [RSy, Nat.add_zero, List.getElem?_cons_zero, List.getElem?_cons_succ] at c0 c1 c2 c3 c4 c5 c6 c7
      generalize M.length = m at *
      clear hs hg hown hb hln h0 hl0 hat hbb hx0 hokx hokS hmL
      go_wp2_with (with_reducible refine halt_store 40 (x := .tmp 6) rfl ?_)
      refine Halted.go ?_
      have hal := (Below.refl w2.heap.size w2).alloc (Nat.le_refl _) (.cells #[.int .i64 0, .slice none 0 0, .int .u32 0, .int .i64 0, .int .i64 0, .slice none 0 0] 40)
      refine store_whole rfl 40 _ _ rfl w2.heap.size #[.int .i64 x0.a.o, .slice x0.a.p.a x0.a.p.n x0.a.p.c, .int .u32 x0.a.nx, .int .i64 x0.a.md, .int .i64 x0.a.pf, .slice x0.a.c.a x0.a.c.n x0.a.c.c] rfl rfl (hnew _ _) rfl (by kernel_rfl) (by simp [Value.oneCell']) ?_
      intro W1 hwz hsz
      have hzb : Below w2.heap.size w2 W1 := Below.trans hal (hsz.below (Nat.le_refl _))
      have HS := Lib.hid (dsame_any (G.out.1.below hzb).now G.out.2.2.2.2.1 G.out.2.2.2.2.2.2.1)
      have H1 := Lib.hid (And.intro hzb (show BxA w2.heap.size x0.a W1 from hwz))
      clear hwz hsz hal hzb c0 c1 c2 c3 c4 c5 c6 c7
      go_wp2_with fail
      refine (HS.out).mono ?_
      rintro e W2 ⟨sv, rv, rfl, ts, rs, hb2⟩
      have hb22 : Below w2.heap.size w2 W2 := bcall H1.out.1 (Nat.le_refl _) hb2
      obtain ⟨s, e1, hs1, hs2, hs3, -⟩ := Own_slok (ok := NlOk) ts (fun n hn => by
        obtain ⟨t, ht, rfl⟩ := List.mem_map.1 hn
        have := (G.out.1.now.all t (List.mem_filter.1 ht).1).k
        exact ⟨this.1, by show I64 0; unfold I64; decide, this.2⟩)
      obtain ⟨r, e2, hr1, hr2, hr3, -⟩ := Own_slok (ok := SyOk) rs (fun t ht => (G.out.1.below hb22).now.all t (List.mem_filter.1 ht).1)
      rw [e1, e2]
      have hlt2 : ∀ k, Value.ownBlock (.slice oc m cc) = some k → k < W1.heap.size := fun k hk => Nat.lt_of_lt_of_le (World.ownsRow.lt G.out.2.2.1.own k hk).2 H1.out.1.size
      have hl3 := G.out.1.below hb22
      have HRL0 := Lib.hid (show r.l.length < ll.length from by rw [hr1]; exact restV_lt G.out.2.2.2.2.1)
      have hw1 : w.heap.size ≤ W1.heap.size := Nat.le_trans G.out.2.2.2.1.size H1.out.1.size
      have hbx : Firm (Value.ownBlock (.slice oc m cc)) W2 (fun W => BxA w2.heap.size x0.a W) := fun W hW => (hW.block _ (Nat.lt_of_lt_of_le (lt_of_blk H1.out.2) hb2.size) (fun e => by have := (World.ownsRow.lt G.out.2.2.1.own _ e.symm).2; omega)).trans (H1.out.2.keep hb2)
      have H0 := Lib.hid (And.intro hbx (And.intro (hl3.imp (Q := fun W => AtOk W x0.a) fun W hW => (hW.all x0 (by dsimp only; rw [G.out.2.2.2.2.1]; exact List.mem_cons_self)).a) (And.intro (SlOk.firm hr2 (hr3.far hlt2) fun t ht => hl3.imp fun W hW => hW.all t (by rw [hr1] at ht; exact (List.mem_filter.1 ht).1)) (And.intro (SlOk.firmN hs2 (hs3.far hlt2)) (And.intro (show NewS w.heap.size s from fun hn a e => Nat.le_trans hw1 (hs3 hn a e)) (And.intro (G.out.2.2.1.below hb22) (And.intro (bcall G.out.2.2.2.1 (Nat.le_refl _) hb22) (show CmT four lo w.heap.size sn tot x0.a.at r.l M s.l from by rw [hs1, hr1]; exact G.out.2.1.inner G.out.2.2.2.2.1))))))))
      clear ts rs e1 hs1 hs2 hs3 e2 hr1 hr2 hr3 hlt2 hl3 hb2 hb22 hw1 hbx HS
      go_wp2_with fail
      go_loopw [5, 7] (fun ov sv wr => ∃ (s : SlV Nl) (M : List UpV), sv = .slice s.a s.n s.c ∧ Firm ov.ownBlock wr (fun W => BxA w2.heap.size x0.a W) ∧ Firm ov.ownBlock wr (fun W => AtOk W x0.a) ∧ Firm ov.ownBlock wr (fun W => SlOk RSy SyOk W r) ∧ Firm ov.ownBlock wr (fun W => SlOk RNl NlOk W s) ∧ NewS w.heap.size s ∧ OwnP RUp UpOk wr w.heap.size ov M ∧ Below w.heap.size w wr ∧ CmT four lo w.heap.size sn tot x0.a.at r.l M s.l) (fun _ sv _ => lenV sv)
      case atStart => exact ⟨s, M, rfl, H0.out⟩
      case round =>
        obtain ⟨⟨ta, tn, tc, tl⟩, M2, rfl, hbx, hA, hr, hs, hns, hown, hb, hct⟩ := hrel
        dsimp only at *
        obtain ⟨w5, rfl⟩ : ∃ w5 : World, w5 = wr := ⟨_, rfl⟩
        obtain ⟨oc2, cc2, rfl, -, -⟩ := hown.own.sl0
        have htn : tn = tl.length := hs.now.sl.len
        have htm : tn ≤ maxLen := hs.now.sl.max
        have htc : tn ≤ tc := hs.now.nc
        have hm2 : M2.length + 1 + tn ≤ 4611687 := by have := hct.len; have := HH.out; omega
        have HM2 := Lib.hid hm2
        obtain ⟨m2, hm2e⟩ : ∃ m2, M2.length = m2 := ⟨_, rfl⟩
        have HM2E := Lib.hid hm2e
        rw [hm2e] at HM2 hbx hA hr hs hown ⊢
        by_cases ht0 : 0 < tn
        · have htt : (0 < tn) = True := eq_true ht0
          have hne : tl ≠ [] := fun e => by rw [e, List.length_nil] at htn; omega
          have HF := Lib.hid (ufit_any hs.now hct.oks hA.now hct.oka)
          obtain ⟨fi, hfi⟩ : ∃ z, fitI szN (4073 - asz four x0.a.at) 1024 tl = z := ⟨_, rfl⟩
          rw [hfi] at HF
          have hf1 : 1 ≤ fi := by rw [← hfi]; exact fitA_pos hct.oka hct.oks hne
          have hf2 : fi ≤ tn := by rw [← hfi, htn]; exact (fitI_le _ _ _ _).1
          obtain ⟨c0, c1, c2, c3, c4, c5⟩ := hbx.now.cells
          have T0 := Lib.hid (And.intro hbx (And.intro hA (And.intro hr (And.intro hs (And.intro hns (And.intro hown (And.intro hb (And.intro hct (And.intro hne (And.intro hfi htn))))))))))
          unfold AtV.v at HF
          clear hbx hA hr hs hns hown hb hct hne hfi htn ht0 hm2e hm2
          go_wp2_with fail
          refine (HF.out).mono ?_
          rintro e V1 ⟨rfl, hb1⟩
          clear c0 c1 c2 c3 c4 c5 HF
          have hf3 : ((0 : Int) ≤ (fi : Int)) = True := by simp
          have hf4 : ((fi : Int) ≤ (tc : Int)) = True := eq_true (by omega)
          have hf5 : ((fi : Int) ≤ (tn : Int)) = True := eq_true (by omega)
          have hfw : IntKind.i64.wrap (fi : Int) = (fi : Int) := IntWalk.i64_in _ (by unfold maxLen at htm; omega)
          have hd := (Below.refl V1.heap.size V1).drew
          have hbd : Below w5.heap.size w5 V1.drew := bcall hb1 (Nat.le_refl _) hd
          have hsV := (T0.out.2.2.2.1.below hbd)
          obtain ⟨s1, hr1, hr2, hst, hsb⟩ := Rep.cut_kkB TNl hsV.now.sl htc (i := fi) hf2
          obtain ⟨s2, hq1, hq2, hsf, hsfn, hsfb⟩ := Rep.cut_from TNl hsV.now.sl htc hsV.now.nil (i := fi) hf2
          obtain ⟨dn, hdn⟩ : ∃ dn, tn - fi = dn := ⟨_, rfl⟩
          rw [hdn] at hq1 hq2 hsf
          have HDN := Lib.hid (And.intro hdn (And.intro hf1 hf2))
          have HB5 := Lib.hid hbd
          have HQ := Lib.hid (And.intro hq1 hq2)
          have K := Lib.hid (T0.out.1.below hbd).now
          have HNW := Lib.hid (And.intro (NewS.cut (sa := s1) (m := fi) (d := fi) (M := tl.take fi) T0.out.2.2.2.2.1 hsV.now.sl (fun h => Nat.lt_of_lt_of_le h hf2) hsb) (NewS.cut (sa := s2) (m := dn) (d := tc - fi) (M := tl.drop fi) T0.out.2.2.2.2.1 hsV.now.sl (fun _ => Nat.lt_of_lt_of_le hf1 hf2) hsfb))
          have HS1 := Lib.hid (show Firm (Value.ownBlock (.slice oc2 m2 cc2)) V1.drew (fun W => SlOk RNl NlOk W ⟨s1, fi, fi, tl.take fi⟩) from hsV.imp fun W hW => by
            obtain ⟨s3, hz1, -, hzf, -⟩ := Rep.cut_kkB TNl hW.sl htc (i := fi) hf2
            have e1 := hr1 W
            rw [hz1 W] at e1
            injection e1 with e1 _
            injection e1 with e1 _ _
            subst e1
            exact ⟨hzf, fun e => hzf.none_zero e, Nat.le_refl _, Nat.le_trans hf2 htm, fun n hn => hW.all n (List.mem_of_mem_take hn)⟩)
          have HS2 := Lib.hid (show Firm (Value.ownBlock (.slice oc2 m2 cc2)) V1.drew (fun W => SlOk RNl NlOk W ⟨s2, dn, tc - fi, tl.drop fi⟩) from hsV.imp fun W hW => by
            obtain ⟨s3, hz1, -, hzf, hzn, -⟩ := Rep.cut_from TNl hW.sl htc hW.nil (i := fi) hf2
            have e1 := hq1 W
            rw [hz1 W] at e1
            injection e1 with e1 _
            injection e1 with e1 _ _
            subst e1
            rw [hdn] at hzf
            exact ⟨hzf, hzn, by show dn ≤ tc - fi; omega, Nat.le_trans (Nat.sub_le _ _) hW.cm, fun n hn => hW.all n (List.mem_of_mem_drop hn)⟩)
          have HC := Lib.hid (copyOf_any (T0.out.2.1.below hbd).now HSM.out)
          unfold AtV.v at HC
          clear hb1 hsV hst hsb hsf hsfn hsfb hdn hbd hd hq1 hq2 hf1 hf2 htc htm
          go_wp2_with fail
          refine wp_region_heldP (BxA w2.heap.size x0.a) (by kernel_rfl) ?_
          generalize V1.drew = V at *
          refine held_reads [0, 1, 2, 3, 4, 5] (g := 5) rfl (by kernel_rfl) K.out (fun _ _ d _ _ h => by cases d <;> exact h) ?_
          simp only [pick, List.getD_cons_zero, List.getD_cons_succ]
          ((with_reducible refine wpRead_step (fun K hK => ?_)); go_simp; first | ((with_reducible refine hK _ ?_); clear hK K) | (apply Exists.intro; (with_reducible refine ⟨fun w' hw' => ?_, hK _ ?_⟩); (first | exact rfl | exact ⟨rfl, rfl⟩); clear hK K))
          ((with_reducible refine wpRead_step (fun K hK => ?_)); go_simp; first | ((with_reducible refine hK _ ?_); clear hK K) | (apply Exists.intro; (with_reducible refine ⟨fun w' hw' => ?_, hK _ ?_⟩); (first | exact rfl | exact ⟨rfl, rfl⟩); clear hK K))
          ((with_reducible refine wpRead_step (fun K hK => ?_)); go_simp; first | ((with_reducible refine hK _ ?_); clear hK K) | (apply Exists.intro; (with_reducible refine ⟨fun w' hw' => ?_, hK _ ?_⟩); (first | exact rfl | exact ⟨rfl, rfl⟩); clear hK K))
          ((with_reducible refine wpRead_step (fun K hK => ?_)); go_simp; first | ((with_reducible refine hK _ ?_); clear hK K) | (apply Exists.intro; (with_reducible refine ⟨fun w' hw' => ?_, hK _ ?_⟩); (first | exact rfl | exact ⟨rfl, rfl⟩); clear hK K))
          ((with_reducible refine wpRead_step (fun K hK => ?_)); go_simp; first | ((with_reducible refine hK _ ?_); clear hK K) | (apply Exists.intro; (with_reducible refine ⟨fun w' hw' => ?_, hK _ ?_⟩); (first | exact rfl | exact ⟨rfl, rfl⟩); clear hK K))
          with_reducible refine wpRead_yes ?_ ?_
          rotate_left
          rfl
          intro K hK
          refine read_load 40 _ rfl w2.heap.size 0 #[.int .i64 x0.a.o, .slice x0.a.p.a x0.a.p.n x0.a.p.c, .int .u32 x0.a.nx, .int .i64 x0.a.md, .int .i64 x0.a.pf, .slice x0.a.c.a x0.a.c.n x0.a.c.c] rfl (fun w' hw' => range_box hw') Tryz.underlying40 rfl (by kernel_rfl) (hK _ ?_)
          clear hK K
          with_reducible refine wpRead_nil ?_
          clear hr1 hr2 hfw hf3 hf4 hf5
          refine held_one 6 (by kernel_rfl) ?_
          simp only [pick, List.getD_cons_zero, List.getD_cons_succ]
          go_wp2_with fail
          refine (HC.out).mono ?_
          rintro e V2 ⟨y, rfl, hy1, hy2, hy3, hb2⟩
          have K2 := Lib.hid (K.out.keep hb2)
          have HY := Lib.hid (And.intro hy1 (And.intro hy2 (And.intro hy3 hb2)))
          clear hy1 hy2 hy3 hb2 HC K
          go_wp2_with fail
          refine ⟨K2.out, ?_⟩
          refine held_reads [7] (g := 3) rfl (by kernel_rfl) K2.out (fun _ _ d _ _ h => by cases d <;> exact h) ?_
          simp only [pick, List.getD_cons_zero, List.getD_cons_succ]
          ((with_reducible refine wpRead_step (fun K hK => ?_)); go_simp; first | ((with_reducible refine hK _ ?_); clear hK K) | (apply Exists.intro; (with_reducible refine ⟨fun w' hw' => ?_, hK _ ?_⟩); (first | exact rfl | exact ⟨rfl, rfl⟩); clear hK K))
          with_reducible refine wpRead_nil ?_
          refine held_one 8 (by kernel_rfl) ?_
          simp only [pick, List.getD_cons_zero, List.getD_cons_succ]
          have hal := (Below.refl V2.heap.size V2).alloc (Nat.le_refl _) (.cells #[.slice none 0 0, .slice s1 fi fi, .int .i64 y.o, .slice y.p.a y.p.n y.p.c, .int .u32 y.nx, .int .i64 y.md, .int .i64 y.pf, .slice y.c.a y.c.n y.c.c, .bool false] 42)
          have K3 := Lib.hid (K2.out.keep hal)
          have HAL := Lib.hid hal
          clear hal
          go_wp2_with fail
          refine ⟨K3.out, ?_⟩
          refine held_one 9 (by kernel_rfl) ?_
          simp only [pick, List.getD_cons_zero, List.getD_cons_succ]
          go_wp2_with (at_builtin; refine halt ?_)
          refine Halted.go ?_
          have hVA : Below V.heap.size V (V2.alloc (.cells #[.slice none 0 0, .slice s1 fi fi, .int .i64 y.o, .slice y.p.a y.p.n y.p.c, .int .u32 y.nx, .int .i64 y.md, .int .i64 y.pf, .slice y.c.a y.c.n y.c.c, .bool false] 42)) := bcall HY.out.2.2.2 (Nat.le_refl _) HAL.out
          have hbA : Below w5.heap.size w5 (V2.alloc (.cells #[.slice none 0 0, .slice s1 fi fi, .int .i64 y.o, .slice y.p.a y.p.n y.p.c, .int .u32 y.nx, .int .i64 y.md, .int .i64 y.pf, .slice y.c.a y.c.n y.c.c, .bool false] 42)) := bcall HB5.out (Nat.le_refl _) hVA
          refine Rep.append_listQ TUp rfl _ _ rfl rfl (T0.out.2.2.2.2.2.1.below hbA) rfl (Rep.sl_one (R := RUp) (y := (⟨⟨none, 0, 0, []⟩, ⟨s1, fi, fi, tl.take fi⟩, y, false⟩ : UpV)) (hnew _ _)) (fun h => by cases h) (fun z hz => by
            rw [List.mem_singleton] at hz
            subst hz
            have hg2 : ∀ k, Value.ownBlock (.slice oc2 m2 cc2) = some k → k < V.heap.size := fun k hk => Nat.lt_of_lt_of_le (World.ownsRow.lt T0.out.2.2.2.2.2.1.own k hk).2 HB5.out.size
            have hA : Firm (Value.ownBlock (.slice oc2 m2 cc2)) (V2.alloc (.cells #[.slice none 0 0, .slice s1 fi fi, .int .i64 y.o, .slice y.p.a y.p.n y.p.c, .int .u32 y.nx, .int .i64 y.md, .int .i64 y.pf, .slice y.c.a y.c.n y.c.c, .bool false] 42)) (fun W => AtOk W y) := (HY.out.1.keep HAL.out).firm (HY.out.2.1.far hg2)
            exact fun W hW => ⟨slZ, HS1.out.below hVA W hW, hA W hW⟩) (by have := HM2.out; rw [HM2E.out]; unfold maxLen; omega) (by have := HM2.out; rw [HM2E.out]; omega) (Nat.le_trans T0.out.2.2.2.2.2.2.1.size hbA.size) ?_
          intro v10 V10 hown10 hb10 hz10
          have hVw : w.heap.size ≤ V.heap.size := Nat.le_trans T0.out.2.2.2.2.2.2.1.size HB5.out.size
          have HO := Lib.hid (And.intro (hz10 _ (T0.out.1.below hbA)) (And.intro (hz10 _ (T0.out.2.1.below hbA)) (And.intro (hz10 _ (T0.out.2.2.1.below hbA)) (And.intro (hz10 _ (HS2.out.below hVA)) (And.intro HNW.out.2 (And.intro hown10 (And.intro ((bcall T0.out.2.2.2.2.2.2.1 (Nat.le_refl _) hbA).trans hb10) (T0.out.2.2.2.2.2.2.2.1.step T0.out.2.2.2.2.2.2.2.2.1 T0.out.2.2.2.2.2.2.2.2.2.1 (x := (⟨⟨none, 0, 0, []⟩, ⟨s1, fi, fi, tl.take fi⟩, y, false⟩ : UpV)) (by show (⟨[], tl.take fi, y.at, false⟩ : Up) = _; rw [HY.out.2.2.1]; rfl) ⟨ApS.none, HNW.out.1.ap (Nat.le_refl _), HY.out.2.1.ap hVw⟩))))))))
          have K4 := Lib.hid HO.out.1.now
          clear hVA hbA hVw hown10 hb10 hz10 K3
          go_wp2_with fail
          refine ⟨K4.out, ?_⟩
          refine held_one 10 (by kernel_rfl) ?_
          simp only [pick, List.getD_cons_zero, List.getD_cons_succ]
          go_wp2_with fail
          refine ⟨K4.out, ?_⟩
          refine wpAnyH_done (by kernel_rfl) ?_ _
          obtain ⟨hq1, hq2⟩ := HQ.out
          have hf3 : ((0 : Int) ≤ (fi : Int)) = True := by simp
          have hf5 : ((fi : Int) ≤ (tn : Int)) = True := eq_true (by have := HDN.out.2.2; omega)
          go_wp2_with fail
          exact ⟨⟨⟨s2, dn, tc - fi, tl.drop fi⟩, _, rfl, HO.out⟩, by show dn < tn; have := HDN.out; omega⟩
        · obtain rfl : tn = 0 := by omega
          obtain rfl : tl = [] := List.length_eq_zero_iff.1 htn.symm
          have HE := Lib.hid (And.intro hr (And.intro hct.outer (And.intro hown hb)))
          have HRL := Lib.hid (show lenV (.slice r.a r.n r.c) < lenV (.slice (some ⟨b, o, none⟩) ln lc) from by
            show r.n < ln
            have h1 : r.n = r.l.length := hr.now.sl.len
            have h5 := HRL0.out
            have h6 := G.out.2.2.2.2.2.1
            omega)
          clear hbx hA hr hs hns hown hb hct htn htm htc ht0 hm2 hm2e
          go_wp2_with fail
          exact ⟨⟨r, M2, rfl, HE.out.1, HE.out.2.1, HE.out.2.2.1, HE.out.2.2.2⟩, HRL.out⟩
    · obtain rfl : ln = 0 := by omega
      obtain rfl : ll = [] := List.length_eq_zero_iff.1 hln.symm
      have HE := Lib.hid (And.intro hown (And.intro hg.done (And.intro hg.ap hb)))
      generalize M.length = m at *
      clear hs hg hown hb hln h0
      go_wp2_with fail
      go_ret
      exact ⟨_, M, rfl, HE.out.1, HE.out.2⟩
end Go.Proofs.YtadoflcomienoaaGreat
/- What may be said, as the program tells. -/
namespace Go.Proofs.YtadoflcomienoaaGreat
open Go.RowKit

set_option maxRecDepth 100000 in
set_option maxHeartbeats 2000000 in
theorem oddsay_any {q : Nat} {four : Bool} {w : World} (hq : BxB q four w) {y : SyV} (hy : SyOk w y) : Calls Tryz.prog 53 #[.agg #[.int .u32 (y.k.1 : Int), .int .i64 y.k.2, .int .i64 y.a.o, .slice y.a.p.a y.a.p.n y.a.p.c, .int .u32 y.a.nx, .int .i64 y.a.md, .int .i64 y.a.pf, .slice y.a.c.a y.a.c.n y.a.c.c], .pointer (some ⟨q, 0, none⟩)] w fun e w' => e = .returned (.bool (!okS four y)) ∧ Below w.heap.size w w' := by
  have hal := (Below.refl w.heap.size w).alloc (Nat.le_refl _) (.cells #[.int .u32 (y.k.1 : Int), .int .i64 y.k.2, .int .i64 y.a.o, .slice y.a.p.a y.a.p.n y.a.p.c, .int .u32 y.a.nx, .int .i64 y.a.md, .int .i64 y.a.pf, .slice y.a.c.a y.a.c.n y.a.c.c] 88)
  have hY : BxY w.heap.size y (w.alloc (.cells #[.int .u32 (y.k.1 : Int), .int .i64 y.k.2, .int .i64 y.a.o, .slice y.a.p.a y.a.p.n y.a.p.c, .int .u32 y.a.nx, .int .i64 y.a.md, .int .i64 y.a.pf, .slice y.a.c.a y.a.c.n y.a.c.c] 88)) := hnew _ _
  have F0 := Lib.hid (And.intro hal (And.intro (hq.keep hal) (And.intro hY (hy.keep hal))))
  have HP := Lib.hid (check_any y.k.1 y.k.2 hy.k.1)
  have d0 := F0.out.2.1.cell
  obtain ⟨c0, c1, c2, c3, c4, c5, c6, c7⟩ := hY.cells
  obtain ⟨v, hv⟩ : ∃ v, okS four y = v := ⟨_, rfl⟩
  rw [hv]
  have HV := Lib.hid (show v = (okP y.k.1 y.k.2 && okA four y.a.at) from hv.symm)
  clear hv hal hY hq hy
  obtain ⟨bp, hbp⟩ : ∃ b, okP y.k.1 y.k.2 = b := ⟨_, rfl⟩
  rw [hbp] at HP HV
  clear hbp
  unfold pfx at HP
  cases bp with
  | false =>
    go_enter Tryz.func53, Tryz.ntmps53
    go_wp2_with fail
    refine (HP.out _).mono ?_
    rintro e w1 ⟨rfl, hb⟩
    have F1 := Lib.hid (bcall F0.out.1 (by simp) hb)
    clear hb c0 c1 c2 c3 c4 c5 c6 c7 d0 F0 HP
    go_wp2_with fail
    go_ret
    exact ⟨ret_bool (by rw [HV.out]; rfl), F1.out⟩
  | true =>
    have HC := Lib.hid (fun (W : World) (h : AtOk W y.a) => acheck_any h four)
    obtain ⟨ba, hba⟩ : ∃ b, okA four y.a.at = b := ⟨_, rfl⟩
    rw [hba] at HC HV
    clear hba
    go_enter Tryz.func53, Tryz.ntmps53
    go_wp2_with fail
    refine (HP.out _).mono ?_
    rintro e w1 ⟨rfl, hb⟩
    have F1 := Lib.hid (And.intro (bcall F0.out.1 (by simp) hb) (And.intro (F0.out.2.1.keep hb) (And.intro (F0.out.2.2.1.keep hb) (F0.out.2.2.2.keep hb))))
    clear hb c0 c1 c2 c3 c4 c5 c6 c7 d0 F0 HP
    have d0 := F1.out.2.1.cell
    obtain ⟨c0, c1, c2, c3, c4, c5, c6, c7⟩ := F1.out.2.2.1.cells
    have HC2 := Lib.hid (HC.out w1 F1.out.2.2.2.a)
    unfold AtV.v at HC2
    go_wp2_with fail
    refine (HC2.out).mono ?_
    rintro e w2 ⟨rfl, hb⟩
    have F2 := Lib.hid (bcall F1.out.1 (by simp) hb)
    clear hb c0 c1 c2 c3 c4 c5 c6 c7 d0 F1 HC HC2
    cases ba
    · have e50 : (errI false 50 : Int) = 50 := rfl
      go_wp2_with fail
      go_ret
      exact ⟨ret_bool (by rw [HV.out]; rfl), F2.out⟩
    · have e50 : (errI true 50 : Int) = 0 := rfl
      go_wp2_with fail
      go_ret
      exact ⟨ret_bool (by rw [HV.out]; rfl), F2.out⟩
set_option maxRecDepth 100000 in
set_option maxHeartbeats 1000000 in
theorem idx_say {w : World} {oa : Option Addr} {n c : Nat} {L : List SyV} {P : SyV → Bool} {q : Nat} (h : RSy.Sl w oa n c L) (hc : ∀ (W : World) (y : SyV), Below w.heap.size w W → y ∈ L → Calls Tryz.prog 53 #[.agg #[.int .u32 (y.k.1 : Int), .int .i64 y.k.2, .int .i64 y.a.o, .slice y.a.p.a y.a.p.n y.a.p.c, .int .u32 y.a.nx, .int .i64 y.a.md, .int .i64 y.a.pf, .slice y.a.c.a y.a.c.n y.a.c.c], .pointer (some ⟨q, 0, none⟩)] W fun e w' => e = .returned (.bool (!P y)) ∧ Below W.heap.size W w') : Calls Tryz.prog 110 #[.slice oa n c, .func (.func 53) #[] #[.pointer (some ⟨q, 0, none⟩)]] w fun e w' => (∃ k : Int, e = .returned (.int .i64 k) ∧ decide (0 ≤ k) = !(L.all P)) ∧ Below w.heap.size w w' := by
  have HL := Lib.hid h.len
  have F := Lib.hid (And.intro h hc)
  have hmax := h.max
  clear h hc
  go_enter Tryz.func110, Tryz.ntmps110
  go_wp2_with fail
  go_loopw [8] (fun iv wr => ∃ i : Nat, i ≤ n ∧ iv = .int .i64 i ∧ (L.take i).all P = true ∧ Below w.heap.size w wr) (fun iv _ => n - (intOf iv).toNat)
  case atStart => exact ⟨0, Nat.zero_le _, rfl, rfl, Below.refl _ _⟩
  case round =>
    obtain ⟨i, hi, rfl, hall, hb⟩ := hrel
    obtain ⟨w2, rfl⟩ : ∃ w2 : World, w2 = wr := ⟨_, rfl⟩
    by_cases hlt : i < n
    · have hil : ((i : Int) < (n : Int)) = True := by simp; omega
      have hw3 := wrapS hlt hmax
      have hlen : L.length = n := HL.out.symm
      obtain ⟨b0, o0, rfl, hbb, hat⟩ := (F.out.1.keep hb).at hlt
      have c0 := hat 0 (by decide)
      have c1 := hat 1 (by decide)
      have c2 := hat 2 (by decide)
      have c3 := hat 3 (by decide)
      have c4 := hat 4 (by decide)
      have c5 := hat 5 (by decide)
      have c6 := hat 6 (by decide)
      have c7 := hat 7 (by decide)
      simp only [RSy, Nat.add_zero, List.getElem?_cons_zero, List.getElem?_cons_succ] at c0 c1 c2 c3 c4 c5 c6 c7
      have t1 := all_take_s L P i (by omega)
      rw [hall, Bool.true_and] at t1
      have hmem : L.getD i default ∈ L := getD_mem (by omega)
      have hox := F.out.2 w2 (L.getD i default) hb hmem
      generalize L.getD i default = y at *
      obtain ⟨bo, hbo⟩ : ∃ bo, P y = bo := ⟨_, rfl⟩
      rw [hbo] at hox t1
      have HX := Lib.hid hox
      have HB := Lib.hid hb
      have HT := Lib.hid (And.intro t1 (And.intro hmem hbo))
      clear hox hb hat hlen t1 hmem hall hbo
      go_wp2_with fail
      refine (HX.out).mono ?_
      rintro e W3 ⟨rfl, hb3⟩
      have HB3 := Lib.hid (bcall HB.out (Nat.le_refl _) hb3)
      clear hb3 HB c0 c1 c2 c3 c4 c5 c6 c7 HX
      cases bo with
      | true =>
        rw [Bool.not_true]
        go_wp2_with fail
        exact ⟨⟨i + 1, hlt, by first | rw [hw3] | rw [Int.natCast_succ], HT.out.1, HB3.out⟩, by first | (rw [hw3]; exact mSucc hlt) | (rw [← Int.natCast_succ]; exact mSucc hlt)⟩
      | false =>
        rw [Bool.not_false]
        go_wp2_with fail
        go_ret
        have hno : L.all P = false := by
          rw [List.all_eq_false]
          exact ⟨_, HT.out.2.1, by simp [HT.out.2.2]⟩
        exact ⟨⟨_, rfl, by rw [hno]; simp⟩, HB3.out⟩
    · obtain rfl : n = i := by omega
      have hil : ((n : Int) < (n : Int)) = False := by simp
      have HB := Lib.hid hb
      have HA := Lib.hid (show L.all P = true from by
        have := hall
        rwa [HL.out, List.take_length] at this)
      clear hb hall
      go_wp2_with fail
      go_ret
      exact ⟨⟨_, rfl, by rw [HA.out]; rfl⟩, HB.out⟩
set_option maxRecDepth 100000 in
theorem has_say {w : World} {oa : Option Addr} {n c : Nat} {L : List SyV} {P : SyV → Bool} {q : Nat} (h : RSy.Sl w oa n c L) (hc : ∀ (W : World) (y : SyV), Below w.heap.size w W → y ∈ L → Calls Tryz.prog 53 #[.agg #[.int .u32 (y.k.1 : Int), .int .i64 y.k.2, .int .i64 y.a.o, .slice y.a.p.a y.a.p.n y.a.p.c, .int .u32 y.a.nx, .int .i64 y.a.md, .int .i64 y.a.pf, .slice y.a.c.a y.a.c.n y.a.c.c], .pointer (some ⟨q, 0, none⟩)] W fun e w' => e = .returned (.bool (!P y)) ∧ Below W.heap.size W w') : Calls Tryz.prog 56 #[.slice oa n c, .func (.func 53) #[] #[.pointer (some ⟨q, 0, none⟩)]] w fun e w' => e = .returned (.bool (!(L.all P))) ∧ Below w.heap.size w w' := by
  have HK := Lib.hid (idx_say h hc)
  clear h hc
  go_enter Tryz.func56, Tryz.ntmps56
  go_wp2_with fail
  refine (HK.out).mono ?_
  rintro e w1 ⟨⟨k, rfl, hk⟩, hb⟩
  have HB := Lib.hid (And.intro hk hb)
  clear hk hb
  go_wp2_with fail
  go_ret
  exact ⟨ret_bool (by rw [← HB.out.1]), HB.out.2⟩
set_option maxRecDepth 100000 in
set_option maxHeartbeats 2000000 in
theorem dcheckY_any {w : World} {sa : Option Addr} {sn sc : Nat} {sl : List SyV} (h : SlOk RSy SyOk w ⟨sa, sn, sc, sl⟩) (four : Bool) : Calls Tryz.prog 14 #[.slice sa sn sc, .bool four] w fun e w' => e = .returned (.int .i64 (errI (okY four (sl.map SyV.sy)) 1)) ∧ Below w.heap.size w w' := by
  have hal := (Below.refl w.heap.size w).alloc (Nat.le_refl _) (.cells #[.bool four] 4)
  have hB : BxB w.heap.size four (w.alloc (.cells #[.bool four] 4)) := hnew _ _
  have HL := Lib.hid (show sn = sl.length from h.sl.len)
  have F0 := Lib.hid (And.intro hal (And.intro hB (h.keepY hal)))
  have HO := Lib.hid (of_any (h.keepY hal))
  obtain ⟨v, hv⟩ : ∃ v, okY four (sl.map SyV.sy) = v := ⟨_, rfl⟩
  rw [hv]
  have HV := Lib.hid (hv.symm.trans okY_is)
  clear hv hal hB h
  go_enter Tryz.func14, Tryz.ntmps14
  go_wp2_with fail
  generalize w.alloc (.cells #[.bool four] 4) = W0 at *
  refine (HO.out).mono ?_
  rintro e w1 ⟨bm, rfl, hm, hbm, hb⟩
  have hlen := hm.len w1 rfl 3
  have F1 := Lib.hid (And.intro (bcall F0.out.1 (Nat.le_refl _) hb) (And.intro (F0.out.2.1.keep hb) (F0.out.2.2.keepY hb)))
  obtain ⟨fn, hfn⟩ : ∃ n, (firstsK SyV.k sl).length = n := ⟨_, rfl⟩
  rw [hfn] at hlen
  have HFN := Lib.hid hfn
  clear hm hbm hb F0 HO hfn
  by_cases hnd : (sl.map SyV.k).Nodup
  · have hlt : ((fn : Int) < (sn : Int)) = False := by
      have h1 : ¬ (firstsK SyV.k sl).length < sl.length := fun h => firstsK_len.1 h hnd
      have h2 := HFN.out
      have h3 := HL.out
      simp
      omega
    have HS := Lib.hid (has_say (c := sc) (P := okS four) F1.out.2.2.sl (fun W y hb hy => oddsay_any (F1.out.2.1.keep hb) ((F1.out.2.2.all y hy).keep hb)))
    rw [decide_eq_true hnd, Bool.and_true] at HV
    obtain ⟨ba, hba⟩ : ∃ b, sl.all (okS four) = b := ⟨_, rfl⟩
    rw [hba] at HS HV
    clear hba hnd
    go_wp2_with fail
    refine (HS.out).mono ?_
    rintro e w2 ⟨rfl, hb⟩
    have F2 := Lib.hid (bcall F1.out.1 (Nat.le_refl _) hb)
    clear hb hlen hlt F1 HS
    cases ba
    · go_wp2_with fail
      go_ret
      exact ⟨ret_int (by rw [HV.out]; rfl), F2.out⟩
    · go_wp2_with fail
      go_ret
      exact ⟨ret_int (by rw [HV.out]; rfl), F2.out⟩
  · have hlt : ((fn : Int) < (sn : Int)) = True := by
      have h1 := firstsK_len.2 hnd
      have h2 := HFN.out
      have h3 := HL.out
      simp
      omega
    rw [decide_eq_false hnd, Bool.and_false] at HV
    clear hnd
    go_wp2_with fail
    go_ret
    exact ⟨ret_int (by rw [HV.out]; rfl), F1.out.1⟩
end Go.Proofs.YtadoflcomienoaaGreat
/- The reference's Sort of what is said. -/
namespace Go.Proofs.YtadoflcomienoaaGreat
open Go.RowKit

structure SrY (w : World) (b o : Nat) (x : SyV) (g og : Nat) (z : SyV) (W : World) : Prop where
  s : ElS RSy w b o x W
  at' : RSy.At W g og z
theorem SrY.keep {w : World} {b o : Nat} {x : SyV} {g og : Nat} {z : SyV} {W W' : World} (h : SrY w b o x g og z W) (hb : Below W.heap.size W W') (hl : g < W.heap.size) : SrY w b o x g og z W' := ⟨h.s.keep hb, h.at'.keep (hb.block _ hl)⟩
theorem ins_at {sl out : List SyV} {i k : Nat} {x : SyV} (ho : out = sortK SyV.k (sl.take i)) (hi : i < sl.length) (hx : sl.getD i default = x) (hlow : ∀ a, a < k → ltK (out.getD a default).k x.k = true) (hk : k ≤ out.length) (hup : k < out.length → ltK (out.getD k default).k x.k = false) : out.take k ++ [x] ++ out.drop k = sortK SyV.k (sl.take (i + 1)) := by
  rw [sortK_take hi, ← ho]
  have hxe : sl[i] = x := by rw [← hx, List.getD_eq_getElem?_getD, List.getElem?_eq_getElem hi, Option.getD_some]
  rw [hxe]
  refine (insK_take (fun a h h' => ?_) hk fun h => ?_).symm
  · have := hlow a h
    rwa [List.getD_eq_getElem?_getD, List.getElem?_eq_getElem h', Option.getD_some] at this
  · have := hup h
    rwa [List.getD_eq_getElem?_getD, List.getElem?_eq_getElem h, Option.getD_some] at this
set_option maxRecDepth 100000 in
set_option maxHeartbeats 16000000 in
theorem rsortY_any {w : World} {oa : Option Addr} {n c : Nat} {L : List SyV} (h : RSy.Sl w oa n c L) (hmx : n ≤ 16384) : Calls Tryz.prog 19 #[.slice oa n c] w fun e w' => ∃ v, e = .returned v ∧ RSy.Own w' w.heap.size v (sortK SyV.k L) ∧ Below w.heap.size w w' := by
  have F := Lib.hid (And.intro h h.len)
  clear h
  go_enter Tryz.func19, Tryz.ntmps19
  go_wp2_with fail
  go_loopw [3, 4] (fun ov iv wr => ∃ (i : Nat) (out : List SyV), i ≤ n ∧ iv = .int .i64 i ∧ RSy.Own wr w.heap.size ov out ∧ out = sortK SyV.k (L.take i) ∧ Below w.heap.size w wr) (fun _ iv _ => n - (intOf iv).toNat)
  case atStart => exact ⟨0, [], Nat.zero_le _, rfl, Rep.Own.nil _ _, rfl, Below.refl _ _⟩
  case round =>
    obtain ⟨i, out, hi, rfl, hown, hst, hb⟩ := hrel
    obtain ⟨w2, rfl⟩ : ∃ w2 : World, w2 = wr := ⟨_, rfl⟩
    obtain ⟨oc, cc, rfl, hsl, hn0⟩ := hown.sl0
    by_cases hlt : i < n
    · have hil : ((i : Int) < (n : Int)) = True := by simp; omega
      have hi0 : ((0 : Int) ≤ (i : Int)) = True := by simp
      have hwi := wrapS hlt (show n ≤ maxLen by unfold maxLen; omega)
      obtain ⟨b, o, rfl, hbb, hat⟩ := (F.out.1.keep hb).at hlt
      obtain ⟨x, hx⟩ : ∃ x, L.getD i default = x := ⟨_, rfl⟩
      rw [hx] at hat
      have hS : ElS RSy w2 b (o + i * 8) x w2 := ElS.begin hat hbb
      have hnc : ∃ m, out.length = m ∧ m ≤ cc := by
        rcases hown.cases with ⟨e1, e2⟩ | ⟨g, cap, e1, h1, h2, h3, -⟩
        · injection e1 with e3 e4 e5
          exact ⟨0, by rw [e2]; rfl, Nat.zero_le _⟩
        · injection e1 with e3 e4 e5
          exact ⟨_, rfl, by rw [e5]; exact h3⟩
      obtain ⟨m, hm, hmc⟩ := hnc
      have hmm : m ≤ 16384 := by
        rw [← hm, hst, sortK_length, List.length_take]
        omega
      rw [hm] at hown hsl ⊢
      have hil2 : i < L.length := by have := F.out.2; omega
      have G := Lib.hid (And.intro hown (And.intro hst (And.intro hil2 (And.intro hx (And.intro hm (And.intro hmc hn0))))))
      have GW := Lib.hid (And.intro hS hsl)
      have HJ := Lib.hid (And.intro hlt (And.intro hwi hb))
      clear hown hst hil2 hx hm hmc hn0 hS hsl hlt hat hbb hb hi
      go_wp2_with fail
      go_loopw [5] (fun kv wr => ∃ k : Nat, k ≤ m ∧ kv = .int .i64 k ∧ (∀ a, a < k → ltK (out.getD a default).k x.k = true) ∧ Below w2.heap.size w2 wr) (fun kv _ => m - (intOf kv).toNat)
      case atStart => exact ⟨0, Nat.zero_le _, rfl, fun a ha => absurd ha (Nat.not_lt_zero _), Below.refl _ _⟩
      case round =>
        obtain ⟨k, hk, rfl, hlow, hb⟩ := hrel
        obtain ⟨w5, rfl⟩ : ∃ w5 : World, w5 = wr := ⟨_, rfl⟩
        have hk0 : ((0 : Int) ≤ (k : Int)) = True := by simp
        by_cases hkm : k < m
        · have hkt : ((k : Int) < (m : Int)) = True := by simp; omega
          have hwk := wrapS hkm (show m ≤ maxLen by unfold maxLen; omega)
          obtain ⟨g, og, e, hgl, hat⟩ := GW.out.2.at hkm
          subst e
          obtain ⟨z, hz⟩ : ∃ z, out.getD k default = z := ⟨_, rfl⟩
          rw [hz] at hat
          have hd := (Below.refl w5.heap.size w5).drew
          have K := Lib.hid (And.intro (show SrY w2 b (o + i * 8) x g (og + k * 8) z w5.drew from SrY.keep ⟨GW.out.1.keep hb, hat.keep (hb.block _ hgl)⟩ hd (Nat.lt_of_lt_of_le hgl hb.size)) (show Below w2.heap.size w2 w5.drew from bcall hb (Nat.le_refl _) hd))
          have HF := Lib.hid (And.intro hlow (And.intro hz (And.intro hgl hkm)))
          have HC := Lib.hid (rcompare_any z.k.1 z.k.2 x.k.1 x.k.2)
          have hcl := @cmpK_lt z.k x.k
          unfold cmpK at hcl
          generalize cmpP z.k.1 z.k.2 x.k.1 x.k.2 = cv at *
          unfold pfx at HC
          clear hb hlow hz hat hd hgl
          go_wp2_with fail
          refine wp_region_heldP (SrY w2 b (o + i * 8) x g (og + k * 8) z) (by kernel_rfl) ?_
          generalize w5.drew = V at *
          refine held_reads [0, 1, 2, 3, 4, 5, 6, 7, 8, 9, 10, 11, 12, 13, 14] (g := 3) rfl (by kernel_rfl) K.out.1 (fun _ _ d _ _ h => by cases d <;> exact h) ?_
          simp only [pick, List.getD_cons_zero, List.getD_cons_succ]
          ((with_reducible refine wpRead_step (fun K hK => ?_)); go_simp; first | ((with_reducible refine hK _ ?_); clear hK K) | (apply Exists.intro; (with_reducible refine ⟨fun w' hw' => ?_, hK _ ?_⟩); (first | exact rfl | exact ⟨rfl, rfl⟩); clear hK K))
          ((with_reducible refine wpRead_step (fun K hK => ?_)); go_simp; first | ((with_reducible refine hK _ ?_); clear hK K) | (apply Exists.intro; (with_reducible refine ⟨fun w' hw' => ?_, hK _ ?_⟩); (first | exact rfl | exact ⟨rfl, rfl⟩); clear hK K))
          ((with_reducible refine wpRead_step (fun K hK => ?_)); go_simp; first | ((with_reducible refine hK _ ?_); clear hK K) | (apply Exists.intro; (with_reducible refine ⟨fun w' hw' => ?_, hK _ ?_⟩); (first | exact rfl | exact ⟨rfl, rfl⟩); clear hK K))
          ((with_reducible refine wpRead_step (fun K hK => ?_)); go_simp; first | ((with_reducible refine hK _ ?_); clear hK K) | (apply Exists.intro; (with_reducible refine ⟨fun w' hw' => ?_, hK _ ?_⟩); (first | exact rfl | exact ⟨rfl, rfl⟩); clear hK K))
          ((with_reducible refine wpRead_step (fun K hK => ?_)); go_simp; first | ((with_reducible refine hK _ ?_); clear hK K) | (apply Exists.intro; (with_reducible refine ⟨fun w' hw' => ?_, hK _ ?_⟩); (first | exact rfl | exact ⟨rfl, rfl⟩); clear hK K))
          ((with_reducible refine wpRead_step (fun K hK => ?_)); go_simp; first | ((with_reducible refine hK _ ?_); clear hK K) | (apply Exists.intro; (with_reducible refine ⟨fun w' hw' => ?_, hK _ ?_⟩); (first | exact rfl | exact ⟨rfl, rfl⟩); clear hK K))
          ((with_reducible refine wpRead_step (fun K hK => ?_)); go_simp; first | ((with_reducible refine hK _ ?_); clear hK K) | (apply Exists.intro; (with_reducible refine ⟨fun w' hw' => ?_, hK _ ?_⟩); (first | exact rfl | exact ⟨rfl, rfl⟩); clear hK K))
          ((with_reducible refine wpRead_step (fun K hK => ?_)); go_simp; first | ((with_reducible refine hK _ ?_); clear hK K) | (apply Exists.intro; (with_reducible refine ⟨fun w' hw' => ?_, hK _ ?_⟩); (first | exact rfl | exact ⟨rfl, rfl⟩); clear hK K))
          ((with_reducible refine wpRead_step (fun K hK => ?_)); go_simp; first | ((with_reducible refine hK _ ?_); clear hK K) | (apply Exists.intro; (with_reducible refine ⟨fun w' hw' => ?_, hK _ ?_⟩); (first | exact rfl | exact ⟨rfl, rfl⟩); clear hK K))
          with_reducible refine wpRead_yes ?_ ?_
          rotate_left
          rfl
          intro K hK
          refine read_load 58 _ rfl g (og + k * 8) #[.int .u32 (z.k.1 : Int), .int .i64 z.k.2] rfl (fun w' hw' => hw'.at'.yP) Tryz.underlying58 rfl (by kernel_rfl) (hK _ ?_)
          clear hK K
          ((with_reducible refine wpRead_step (fun K hK => ?_)); go_simp; first | ((with_reducible refine hK _ ?_); clear hK K) | (apply Exists.intro; (with_reducible refine ⟨fun w' hw' => ?_, hK _ ?_⟩); (first | exact rfl | exact ⟨rfl, rfl⟩); clear hK K))
          ((with_reducible refine wpRead_step (fun K hK => ?_)); go_simp; first | ((with_reducible refine hK _ ?_); clear hK K) | (apply Exists.intro; (with_reducible refine ⟨fun w' hw' => ?_, hK _ ?_⟩); (first | exact rfl | exact ⟨rfl, rfl⟩); clear hK K))
          ((with_reducible refine wpRead_step (fun K hK => ?_)); go_simp; first | ((with_reducible refine hK _ ?_); clear hK K) | (apply Exists.intro; (with_reducible refine ⟨fun w' hw' => ?_, hK _ ?_⟩); (first | exact rfl | exact ⟨rfl, rfl⟩); clear hK K))
          ((with_reducible refine wpRead_step (fun K hK => ?_)); go_simp; first | ((with_reducible refine hK _ ?_); clear hK K) | (apply Exists.intro; (with_reducible refine ⟨fun w' hw' => ?_, hK _ ?_⟩); (first | exact rfl | exact ⟨rfl, rfl⟩); clear hK K))
          with_reducible refine wpRead_yes ?_ ?_
          rotate_left
          rfl
          intro K hK
          refine read_load 58 _ rfl b (o + i * 8) #[.int .u32 (x.k.1 : Int), .int .i64 x.k.2] rfl (fun w' hw' => hw'.s.at'.yP) Tryz.underlying58 rfl (by kernel_rfl) (hK _ ?_)
          clear hK K
          with_reducible refine wpRead_nil ?_
          refine held_one 15 (by kernel_rfl) ?_
          simp only [pick, List.getD_cons_zero, List.getD_cons_succ]
          go_wp2_with fail
          refine (HC.out _).mono ?_
          rintro e V2 ⟨rfl, hb⟩
          have K3 := Lib.hid (And.intro (SrY.keep K.out.1 hb (Nat.lt_of_lt_of_le HF.out.2.2.1 K.out.2.size)) (bcall K.out.2 (Nat.le_refl _) hb))
          clear hb
          go_wp2_with fail
          refine ⟨K3.out.1, ?_⟩
          cases hlz : ltK z.k x.k with
          | true =>
            have hcv : (cv < 0) = True := eq_true (hcl.2 hlz)
            have HN := Lib.hid (show ∀ a, a < k + 1 → ltK (out.getD a default).k x.k = true from fun a ha => by
              by_cases e : a = k
              · rw [e, HF.out.2.1]; exact hlz
              · exact HF.out.1 a (by omega))
            clear hcl hlz
            refine held_reads [16, 17] (g := 0) rfl (by kernel_rfl) K3.out.1 (fun _ _ d _ _ h => by cases d <;> exact h) ?_
            simp only [pick, List.getD_cons_zero, List.getD_cons_succ]
            ((with_reducible refine wpRead_step (fun K hK => ?_)); go_simp; first | ((with_reducible refine hK _ ?_); clear hK K) | (apply Exists.intro; (with_reducible refine ⟨fun w' hw' => ?_, hK _ ?_⟩); (first | exact rfl | exact ⟨rfl, rfl⟩); clear hK K))
            ((with_reducible refine wpRead_step (fun K hK => ?_)); go_simp; first | ((with_reducible refine hK _ ?_); clear hK K) | (apply Exists.intro; (with_reducible refine ⟨fun w' hw' => ?_, hK _ ?_⟩); (first | exact rfl | exact ⟨rfl, rfl⟩); clear hK K))
            with_reducible refine wpRead_nil ?_
            refine wpAnyH_done (by kernel_rfl) ?_ _
            go_wp2_with fail
            exact ⟨⟨k + 1, hkm, by first | rw [hwk] | rw [Int.natCast_succ], HN.out, K3.out.2⟩, by first | (rw [hwk]; exact mSucc hkm) | (rw [← Int.natCast_succ]; exact mSucc hkm)⟩
          | false =>
            have hcv : (cv < 0) = False := eq_false (fun h => by rw [hcl.1 h] at hlz; cases hlz)
            have HZ := Lib.hid hlz
            clear hcl hlz
            refine held_reads [16, 17] (g := 0) rfl (by kernel_rfl) K3.out.1 (fun _ _ d _ _ h => by cases d <;> exact h) ?_
            simp only [pick, List.getD_cons_zero, List.getD_cons_succ]
            ((with_reducible refine wpRead_step (fun K hK => ?_)); go_simp; first | ((with_reducible refine hK _ ?_); clear hK K) | (apply Exists.intro; (with_reducible refine ⟨fun w' hw' => ?_, hK _ ?_⟩); (first | exact rfl | exact ⟨rfl, rfl⟩); clear hK K))
            ((with_reducible refine wpRead_step (fun K hK => ?_)); go_simp; first | ((with_reducible refine hK _ ?_); clear hK K) | (apply Exists.intro; (with_reducible refine ⟨fun w' hw' => ?_, hK _ ?_⟩); (first | exact rfl | exact ⟨rfl, rfl⟩); clear hK K))
            with_reducible refine wpRead_nil ?_
            refine wpAnyH_done (by kernel_rfl) ?_ _
            have KW := Lib.hid (And.intro K3.out.1.s (And.intro (G.out.1.below K3.out.2) (And.intro K3.out.2 (GW.out.2.keep K3.out.2))))
            have HLO := Lib.hid HF.out.1
            have HUP := Lib.hid (show k < out.length → ltK (out.getD k default).k x.k = false from fun _ => by rw [HF.out.2.1]; exact HZ.out)
            have hkle : k ≤ m := Nat.le_of_lt hkm
            clear K3 K HF HZ
            obtain ⟨sa, hr1, hr2, hst, hsn, -⟩ := Rep.cut_from TSy KW.out.2.2.2 G.out.2.2.2.2.2.1 G.out.2.2.2.2.2.2 (i := k) hkle
            obtain ⟨sk, hq1, hq2, hsk⟩ := Rep.cut_kk TSy KW.out.2.2.2 G.out.2.2.2.2.2.1 (i := k) hkle
            have hal0 := (Below.refl V2.heap.size V2).alloc (Nat.le_refl _) (.cells #[] 88)
            have hem : RSy.Own (V2.alloc (.cells #[] 88)) V2.heap.size (.slice (some ⟨V2.heap.size, 0, none⟩) 0 0) ([] : List SyV) := Rep.own_empty (hnew _ _) (Nat.le_refl _)
            have N1 := Lib.hid (And.intro hal0 (And.intro hem (And.intro (hst.keep hal0) (And.intro hsn hsk))))
            have HQQ := Lib.hid (And.intro hq1 hq2)
            clear hal0 hem hst hsn hsk hq1 hq2
            go_wp2_with (at_builtin; refine halt ?_)
            refine Halted.go ?_
            clear hr1 hr2
            generalize V2.alloc (.cells #[] 88) = V8 at *
            refine Rep.append_list TSy rfl _ _ rfl rfl N1.out.2.1 (L := []) (M := out.drop k) rfl N1.out.2.2.1 N1.out.2.2.2.1 (by rw [List.length_nil]; unfold maxLen; omega) (by rw [List.length_nil]; omega) N1.out.1.size ?_
            intro v9 V9 hown9 hb9 _
            rw [List.nil_append] at hown9
            obtain ⟨a9, c9, rfl, hsl9, hn9⟩ := hown9.sl0
            have hl9 : (out.drop k).length = m - k := by rw [List.length_drop, G.out.2.2.2.2.1]
            rw [hl9] at hsl9 ⊢
            have hb79 := N1.out.1.trans hb9
            have N2 := Lib.hid (And.intro (KW.out.1.keep hb79) (And.intro (N1.out.2.2.2.2.keep hb79) (And.intro hsl9 (And.intro hn9 (bcall KW.out.2.2.1 (Nat.le_refl _) hb79)))))
            clear hown9 hb9 hsl9 hn9 hl9 hb79 N1 KW
            obtain ⟨hq1, hq2⟩ := HQQ.out
            go_wp2_with fail
            refine wp_region_heldP (ElS RSy w2 b (o + i * 8) x) (by kernel_rfl) ?_
            have hd := (Below.refl V9.heap.size V9).drew
            have N3 := Lib.hid (And.intro (N2.out.1.keep hd) (And.intro (N2.out.2.1.keep hd) (And.intro (N2.out.2.2.1.keep hd) (And.intro N2.out.2.2.2.1 (bcall N2.out.2.2.2.2 (Nat.le_refl _) hd)))))
            clear hd N2
            generalize V9.drew = V10 at *
            refine held_reads [0, 1, 2, 3, 4, 5, 6, 7, 10] (g := 4) rfl (by kernel_rfl) N3.out.1 (fun _ _ d _ _ h => by cases d <;> exact h) ?_
            simp only [pick, List.getD_cons_zero, List.getD_cons_succ]
            ((with_reducible refine wpRead_step (fun K hK => ?_)); go_simp; first | ((with_reducible refine hK _ ?_); clear hK K) | (apply Exists.intro; (with_reducible refine ⟨fun w' hw' => ?_, hK _ ?_⟩); (first | exact rfl | exact ⟨rfl, rfl⟩); clear hK K))
            ((with_reducible refine wpRead_step (fun K hK => ?_)); go_simp; first | ((with_reducible refine hK _ ?_); clear hK K) | (apply Exists.intro; (with_reducible refine ⟨fun w' hw' => ?_, hK _ ?_⟩); (first | exact rfl | exact ⟨rfl, rfl⟩); clear hK K))
            ((with_reducible refine wpRead_step (fun K hK => ?_)); go_simp; first | ((with_reducible refine hK _ ?_); clear hK K) | (apply Exists.intro; (with_reducible refine ⟨fun w' hw' => ?_, hK _ ?_⟩); (first | exact rfl | exact ⟨rfl, rfl⟩); clear hK K))
            ((with_reducible refine wpRead_step (fun K hK => ?_)); go_simp; first | ((with_reducible refine hK _ ?_); clear hK K) | (apply Exists.intro; (with_reducible refine ⟨fun w' hw' => ?_, hK _ ?_⟩); (first | exact rfl | exact ⟨rfl, rfl⟩); clear hK K))
            ((with_reducible refine wpRead_step (fun K hK => ?_)); go_simp; first | ((with_reducible refine hK _ ?_); clear hK K) | (apply Exists.intro; (with_reducible refine ⟨fun w' hw' => ?_, hK _ ?_⟩); (first | exact rfl | exact ⟨rfl, rfl⟩); clear hK K))
            ((with_reducible refine wpRead_step (fun K hK => ?_)); go_simp; first | ((with_reducible refine hK _ ?_); clear hK K) | (apply Exists.intro; (with_reducible refine ⟨fun w' hw' => ?_, hK _ ?_⟩); (first | exact rfl | exact ⟨rfl, rfl⟩); clear hK K))
            ((with_reducible refine wpRead_step (fun K hK => ?_)); go_simp; first | ((with_reducible refine hK _ ?_); clear hK K) | (apply Exists.intro; (with_reducible refine ⟨fun w' hw' => ?_, hK _ ?_⟩); (first | exact rfl | exact ⟨rfl, rfl⟩); clear hK K))
            with_reducible refine wpRead_yes ?_ ?_
            rotate_left
            rfl
            intro K hK
            refine read_load 88 _ rfl b (o + i * 8) #[.int .u32 (x.k.1 : Int), .int .i64 x.k.2, .int .i64 x.a.o, .slice x.a.p.a x.a.p.n x.a.p.c, .int .u32 x.a.nx, .int .i64 x.a.md, .int .i64 x.a.pf, .slice x.a.c.a x.a.c.n x.a.c.c] rfl (fun w' hw' => hw'.at'.range) Tryz.underlying88 rfl (by kernel_rfl) (hK _ ?_)
            clear hK K
            ((with_reducible refine wpRead_step (fun K hK => ?_)); go_simp; first | ((with_reducible refine hK _ ?_); clear hK K) | (apply Exists.intro; (with_reducible refine ⟨fun w' hw' => ?_, hK _ ?_⟩); (first | exact rfl | exact ⟨rfl, rfl⟩); clear hK K))
            with_reducible refine wpRead_nil ?_
            clear hq1 hq2
            refine held_one 8 (by kernel_rfl) ?_
            simp only [pick, List.getD_cons_zero, List.getD_cons_succ]
            have hal := (Below.refl V10.heap.size V10).alloc (Nat.le_refl _) (.cells #[.int .u32 (x.k.1 : Int), .int .i64 x.k.2, .int .i64 x.a.o, .slice x.a.p.a x.a.p.n x.a.p.c, .int .u32 x.a.nx, .int .i64 x.a.md, .int .i64 x.a.pf, .slice x.a.c.a x.a.c.n x.a.c.c] 88)
            have hone : RSy.Sl (V10.alloc (.cells #[.int .u32 (x.k.1 : Int), .int .i64 x.k.2, .int .i64 x.a.o, .slice x.a.p.a x.a.p.n x.a.p.c, .int .u32 x.a.nx, .int .i64 x.a.md, .int .i64 x.a.pf, .slice x.a.c.a x.a.c.n x.a.c.c] 88)) (some ⟨V10.heap.size, 0, none⟩) 1 1 [x] := Rep.sl_one (R := RSy) (y := x) (hnew _ _)
            have N4 := Lib.hid (And.intro (N3.out.1.keep hal) (And.intro (N3.out.2.1.keep hal) (And.intro (N3.out.2.2.1.keep hal) (And.intro N3.out.2.2.2.1 (And.intro hone (bcall N3.out.2.2.2.2 (Nat.le_refl _) hal))))))
            clear hal hone N3
            go_wp2_with fail
            refine ⟨N4.out.1, ?_⟩
            generalize V10.alloc (.cells #[.int .u32 (x.k.1 : Int), .int .i64 x.k.2, .int .i64 x.a.o, .slice x.a.p.a x.a.p.n x.a.p.c, .int .u32 x.a.nx, .int .i64 x.a.md, .int .i64 x.a.pf, .slice x.a.c.a x.a.c.n x.a.c.c] 88) = V11 at *
            generalize V10.heap.size = q11 at *
            refine held_one 9 (by kernel_rfl) ?_
            simp only [pick, List.getD_cons_zero, List.getD_cons_succ]
            go_wp2_with (at_builtin; refine halt ?_)
            refine Halted.go ?_
            refine Rep.append_cut TSy rfl _ _ rfl rfl N4.out.2.1 rfl N4.out.2.2.2.2.1 (by omega) (by unfold maxLen; omega) (by omega) ?_
            intro v12 V12 hown12 hb12
            have N5 := Lib.hid (And.intro hb12 (And.intro (N4.out.2.2.1.keep hb12) hown12))
            clear hown12 hb12
            go_wp2_with fail
            refine ⟨N4.out.1.keep N5.out.1, ?_⟩
            refine held_one 11 (by kernel_rfl) ?_
            simp only [pick, List.getD_cons_zero, List.getD_cons_succ]
            go_wp2_with (at_builtin; refine halt ?_)
            refine Halted.go ?_
            have hlt : (out.take k ++ [x]).length = k + 1 := by have := G.out.2.2.2.2.1; rw [List.length_append, List.length_take, this, List.length_singleton]; omega
            refine Rep.append_list TSy rfl _ _ rfl rfl N5.out.2.2 rfl N5.out.2.1 N4.out.2.2.2.1 (by rw [hlt]; unfold maxLen; omega) (by rw [hlt]; omega) N5.out.1.size ?_
            intro v13 V13 hown13 hb13 _
            have HIN := Lib.hid (ins_at G.out.2.1 G.out.2.2.1 G.out.2.2.2.1 HLO.out (by rw [G.out.2.2.2.2.1]; exact hkle) HUP.out)
            have hb13' := N5.out.1.trans hb13
            have N6 := Lib.hid (And.intro (N4.out.1.keep hb13') (And.intro (hown13.mono (Nat.le_trans HJ.out.2.2.size N4.out.2.2.2.2.2.size)) (bcall HJ.out.2.2 (Nat.le_refl _) (bcall N4.out.2.2.2.2.2 (Nat.le_refl _) hb13'))))
            clear hlt hown13 hb13 hb13' N5 N4
            go_wp2_with fail
            refine ⟨N6.out.1, ?_⟩
            refine held_one 12 (by kernel_rfl) ?_
            simp only [pick, List.getD_cons_zero, List.getD_cons_succ]
            go_wp2_with fail
            refine ⟨N6.out.1, ?_⟩
            refine wpAnyH_done (by kernel_rfl) ?_ _
            go_wp2_with fail
            exact ⟨⟨i + 1, _, HJ.out.1, by first | rw [HJ.out.2.1] | rw [Int.natCast_succ], N6.out.2.1, HIN.out, N6.out.2.2⟩, by first | (rw [HJ.out.2.1]; exact mSucc HJ.out.1) | (rw [← Int.natCast_succ]; exact mSucc HJ.out.1)⟩
        · obtain rfl : k = m := by omega
          have hkt : ((k : Int) < (k : Int)) = False := by simp
          have hd := (Below.refl w5.heap.size w5).drew
          have hbd : Below w2.heap.size w2 w5.drew := bcall hb (Nat.le_refl _) hd
          have KW := Lib.hid (And.intro (GW.out.1.keep hbd) (And.intro (G.out.1.below hbd) (And.intro hbd (GW.out.2.keep hbd))))
          have HLO := Lib.hid hlow
          have HUP := Lib.hid (show k < out.length → ltK (out.getD k default).k x.k = false from fun h => absurd h (by rw [G.out.2.2.2.2.1]; exact Nat.lt_irrefl _))
          have hkle : k ≤ k := Nat.le_refl _
          clear hb hd hbd hlow
          go_wp2_with fail
          refine wp_region_heldP (ElS RSy w2 b (o + i * 8) x) (by kernel_rfl) ?_
          generalize w5.drew = V at *
          refine held_reads [0, 1, 2, 3, 4, 5, 6, 7, 8, 9, 10, 11, 12, 13, 14, 15, 16, 17] (g := 0) rfl (by kernel_rfl) KW.out.1 (fun _ _ d _ _ h => by cases d <;> exact h) ?_
          simp only [pick, List.getD_cons_zero, List.getD_cons_succ]
          ((with_reducible refine wpRead_step (fun K hK => ?_)); go_simp; first | ((with_reducible refine hK _ ?_); clear hK K) | (apply Exists.intro; (with_reducible refine ⟨fun w' hw' => ?_, hK _ ?_⟩); (first | exact rfl | exact ⟨rfl, rfl⟩); clear hK K))
          ((with_reducible refine wpRead_step (fun K hK => ?_)); go_simp; first | ((with_reducible refine hK _ ?_); clear hK K) | (apply Exists.intro; (with_reducible refine ⟨fun w' hw' => ?_, hK _ ?_⟩); (first | exact rfl | exact ⟨rfl, rfl⟩); clear hK K))
          ((with_reducible refine wpRead_step (fun K hK => ?_)); go_simp; first | ((with_reducible refine hK _ ?_); clear hK K) | (apply Exists.intro; (with_reducible refine ⟨fun w' hw' => ?_, hK _ ?_⟩); (first | exact rfl | exact ⟨rfl, rfl⟩); clear hK K))
          ((with_reducible refine wpRead_step (fun K hK => ?_)); go_simp; first | ((with_reducible refine hK _ ?_); clear hK K) | (apply Exists.intro; (with_reducible refine ⟨fun w' hw' => ?_, hK _ ?_⟩); (first | exact rfl | exact ⟨rfl, rfl⟩); clear hK K))
          ((with_reducible refine wpRead_step (fun K hK => ?_)); go_simp; first | ((with_reducible refine hK _ ?_); clear hK K) | (apply Exists.intro; (with_reducible refine ⟨fun w' hw' => ?_, hK _ ?_⟩); (first | exact rfl | exact ⟨rfl, rfl⟩); clear hK K))
          ((with_reducible refine wpRead_step (fun K hK => ?_)); go_simp; first | ((with_reducible refine hK _ ?_); clear hK K) | (apply Exists.intro; (with_reducible refine ⟨fun w' hw' => ?_, hK _ ?_⟩); (first | exact rfl | exact ⟨rfl, rfl⟩); clear hK K))
          ((with_reducible refine wpRead_step (fun K hK => ?_)); go_simp; first | ((with_reducible refine hK _ ?_); clear hK K) | (apply Exists.intro; (with_reducible refine ⟨fun w' hw' => ?_, hK _ ?_⟩); (first | exact rfl | exact ⟨rfl, rfl⟩); clear hK K))
          ((with_reducible refine wpRead_step (fun K hK => ?_)); go_simp; first | ((with_reducible refine hK _ ?_); clear hK K) | (apply Exists.intro; (with_reducible refine ⟨fun w' hw' => ?_, hK _ ?_⟩); (first | exact rfl | exact ⟨rfl, rfl⟩); clear hK K))
          ((with_reducible refine wpRead_step (fun K hK => ?_)); go_simp; first | ((with_reducible refine hK _ ?_); clear hK K) | (apply Exists.intro; (with_reducible refine ⟨fun w' hw' => ?_, hK _ ?_⟩); (first | exact rfl | exact ⟨rfl, rfl⟩); clear hK K))
          ((with_reducible refine wpRead_step (fun K hK => ?_)); go_simp; first | ((with_reducible refine hK _ ?_); clear hK K) | (apply Exists.intro; (with_reducible refine ⟨fun w' hw' => ?_, hK _ ?_⟩); (first | exact rfl | exact ⟨rfl, rfl⟩); clear hK K))
          ((with_reducible refine wpRead_step (fun K hK => ?_)); go_simp; first | ((with_reducible refine hK _ ?_); clear hK K) | (apply Exists.intro; (with_reducible refine ⟨fun w' hw' => ?_, hK _ ?_⟩); (first | exact rfl | exact ⟨rfl, rfl⟩); clear hK K))
          ((with_reducible refine wpRead_step (fun K hK => ?_)); go_simp; first | ((with_reducible refine hK _ ?_); clear hK K) | (apply Exists.intro; (with_reducible refine ⟨fun w' hw' => ?_, hK _ ?_⟩); (first | exact rfl | exact ⟨rfl, rfl⟩); clear hK K))
          ((with_reducible refine wpRead_step (fun K hK => ?_)); go_simp; first | ((with_reducible refine hK _ ?_); clear hK K) | (apply Exists.intro; (with_reducible refine ⟨fun w' hw' => ?_, hK _ ?_⟩); (first | exact rfl | exact ⟨rfl, rfl⟩); clear hK K))
          ((with_reducible refine wpRead_step (fun K hK => ?_)); go_simp; first | ((with_reducible refine hK _ ?_); clear hK K) | (apply Exists.intro; (with_reducible refine ⟨fun w' hw' => ?_, hK _ ?_⟩); (first | exact rfl | exact ⟨rfl, rfl⟩); clear hK K))
          ((with_reducible refine wpRead_step (fun K hK => ?_)); go_simp; first | ((with_reducible refine hK _ ?_); clear hK K) | (apply Exists.intro; (with_reducible refine ⟨fun w' hw' => ?_, hK _ ?_⟩); (first | exact rfl | exact ⟨rfl, rfl⟩); clear hK K))
          ((with_reducible refine wpRead_step (fun K hK => ?_)); go_simp; first | ((with_reducible refine hK _ ?_); clear hK K) | (apply Exists.intro; (with_reducible refine ⟨fun w' hw' => ?_, hK _ ?_⟩); (first | exact rfl | exact ⟨rfl, rfl⟩); clear hK K))
          ((with_reducible refine wpRead_step (fun K hK => ?_)); go_simp; first | ((with_reducible refine hK _ ?_); clear hK K) | (apply Exists.intro; (with_reducible refine ⟨fun w' hw' => ?_, hK _ ?_⟩); (first | exact rfl | exact ⟨rfl, rfl⟩); clear hK K))
          ((with_reducible refine wpRead_step (fun K hK => ?_)); go_simp; first | ((with_reducible refine hK _ ?_); clear hK K) | (apply Exists.intro; (with_reducible refine ⟨fun w' hw' => ?_, hK _ ?_⟩); (first | exact rfl | exact ⟨rfl, rfl⟩); clear hK K))
          with_reducible refine wpRead_nil ?_
          refine wpAnyH_done (by kernel_rfl) ?_ _
          obtain ⟨sa, hr1, hr2, hst, hsn, -⟩ := Rep.cut_from TSy KW.out.2.2.2 G.out.2.2.2.2.2.1 G.out.2.2.2.2.2.2 (i := k) hkle
          simp only [Nat.sub_self] at hr1 hr2 hst
          obtain ⟨sk, hq1, hq2, hsk⟩ := Rep.cut_kk TSy KW.out.2.2.2 G.out.2.2.2.2.2.1 (i := k) hkle
          have hal0 := (Below.refl V.heap.size V).alloc (Nat.le_refl _) (.cells #[] 88)
          have hem : RSy.Own (V.alloc (.cells #[] 88)) V.heap.size (.slice (some ⟨V.heap.size, 0, none⟩) 0 0) ([] : List SyV) := Rep.own_empty (hnew _ _) (Nat.le_refl _)
          have N1 := Lib.hid (And.intro hal0 (And.intro hem (And.intro (hst.keep hal0) (And.intro hsn hsk))))
          have HQQ := Lib.hid (And.intro hq1 hq2)
          clear hal0 hem hst hsn hsk hq1 hq2
          go_wp2_with (at_builtin; refine halt ?_)
          refine Halted.go ?_
          clear hr1 hr2
          generalize V.alloc (.cells #[] 88) = V8 at *
          refine Rep.append_list TSy rfl _ _ rfl rfl N1.out.2.1 (L := []) (M := out.drop k) rfl N1.out.2.2.1 N1.out.2.2.2.1 (by rw [List.length_nil]; unfold maxLen; omega) (by rw [List.length_nil]; omega) N1.out.1.size ?_
          intro v9 V9 hown9 hb9 _
          rw [List.nil_append] at hown9
          obtain ⟨a9, c9, rfl, hsl9, hn9⟩ := hown9.sl0
          have hl9 : (out.drop k).length = 0 := by rw [List.length_drop, G.out.2.2.2.2.1, Nat.sub_self]
          rw [hl9] at hsl9 ⊢
          have hb79 := N1.out.1.trans hb9
          have N2 := Lib.hid (And.intro (KW.out.1.keep hb79) (And.intro (N1.out.2.2.2.2.keep hb79) (And.intro hsl9 (And.intro hn9 (bcall KW.out.2.2.1 (Nat.le_refl _) hb79)))))
          clear hown9 hb9 hsl9 hn9 hl9 hb79 N1 KW
          obtain ⟨hq1, hq2⟩ := HQQ.out
          go_wp2_with fail
          refine wp_region_heldP (ElS RSy w2 b (o + i * 8) x) (by kernel_rfl) ?_
          have hd := (Below.refl V9.heap.size V9).drew
          have N3 := Lib.hid (And.intro (N2.out.1.keep hd) (And.intro (N2.out.2.1.keep hd) (And.intro (N2.out.2.2.1.keep hd) (And.intro N2.out.2.2.2.1 (bcall N2.out.2.2.2.2 (Nat.le_refl _) hd)))))
          clear hd N2
          generalize V9.drew = V10 at *
          refine held_reads [0, 1, 2, 3, 4, 5, 6, 7, 10] (g := 4) rfl (by kernel_rfl) N3.out.1 (fun _ _ d _ _ h => by cases d <;> exact h) ?_
          simp only [pick, List.getD_cons_zero, List.getD_cons_succ]
          ((with_reducible refine wpRead_step (fun K hK => ?_)); go_simp; first | ((with_reducible refine hK _ ?_); clear hK K) | (apply Exists.intro; (with_reducible refine ⟨fun w' hw' => ?_, hK _ ?_⟩); (first | exact rfl | exact ⟨rfl, rfl⟩); clear hK K))
          ((with_reducible refine wpRead_step (fun K hK => ?_)); go_simp; first | ((with_reducible refine hK _ ?_); clear hK K) | (apply Exists.intro; (with_reducible refine ⟨fun w' hw' => ?_, hK _ ?_⟩); (first | exact rfl | exact ⟨rfl, rfl⟩); clear hK K))
          ((with_reducible refine wpRead_step (fun K hK => ?_)); go_simp; first | ((with_reducible refine hK _ ?_); clear hK K) | (apply Exists.intro; (with_reducible refine ⟨fun w' hw' => ?_, hK _ ?_⟩); (first | exact rfl | exact ⟨rfl, rfl⟩); clear hK K))
          ((with_reducible refine wpRead_step (fun K hK => ?_)); go_simp; first | ((with_reducible refine hK _ ?_); clear hK K) | (apply Exists.intro; (with_reducible refine ⟨fun w' hw' => ?_, hK _ ?_⟩); (first | exact rfl | exact ⟨rfl, rfl⟩); clear hK K))
          ((with_reducible refine wpRead_step (fun K hK => ?_)); go_simp; first | ((with_reducible refine hK _ ?_); clear hK K) | (apply Exists.intro; (with_reducible refine ⟨fun w' hw' => ?_, hK _ ?_⟩); (first | exact rfl | exact ⟨rfl, rfl⟩); clear hK K))
          ((with_reducible refine wpRead_step (fun K hK => ?_)); go_simp; first | ((with_reducible refine hK _ ?_); clear hK K) | (apply Exists.intro; (with_reducible refine ⟨fun w' hw' => ?_, hK _ ?_⟩); (first | exact rfl | exact ⟨rfl, rfl⟩); clear hK K))
          ((with_reducible refine wpRead_step (fun K hK => ?_)); go_simp; first | ((with_reducible refine hK _ ?_); clear hK K) | (apply Exists.intro; (with_reducible refine ⟨fun w' hw' => ?_, hK _ ?_⟩); (first | exact rfl | exact ⟨rfl, rfl⟩); clear hK K))
          with_reducible refine wpRead_yes ?_ ?_
          rotate_left
          rfl
          intro K hK
          refine read_load 88 _ rfl b (o + i * 8) #[.int .u32 (x.k.1 : Int), .int .i64 x.k.2, .int .i64 x.a.o, .slice x.a.p.a x.a.p.n x.a.p.c, .int .u32 x.a.nx, .int .i64 x.a.md, .int .i64 x.a.pf, .slice x.a.c.a x.a.c.n x.a.c.c] rfl (fun w' hw' => hw'.at'.range) Tryz.underlying88 rfl (by kernel_rfl) (hK _ ?_)
          clear hK K
          ((with_reducible refine wpRead_step (fun K hK => ?_)); go_simp; first | ((with_reducible refine hK _ ?_); clear hK K) | (apply Exists.intro; (with_reducible refine ⟨fun w' hw' => ?_, hK _ ?_⟩); (first | exact rfl | exact ⟨rfl, rfl⟩); clear hK K))
          with_reducible refine wpRead_nil ?_
          clear hq1 hq2
          refine held_one 8 (by kernel_rfl) ?_
          simp only [pick, List.getD_cons_zero, List.getD_cons_succ]
          have hal := (Below.refl V10.heap.size V10).alloc (Nat.le_refl _) (.cells #[.int .u32 (x.k.1 : Int), .int .i64 x.k.2, .int .i64 x.a.o, .slice x.a.p.a x.a.p.n x.a.p.c, .int .u32 x.a.nx, .int .i64 x.a.md, .int .i64 x.a.pf, .slice x.a.c.a x.a.c.n x.a.c.c] 88)
          have hone : RSy.Sl (V10.alloc (.cells #[.int .u32 (x.k.1 : Int), .int .i64 x.k.2, .int .i64 x.a.o, .slice x.a.p.a x.a.p.n x.a.p.c, .int .u32 x.a.nx, .int .i64 x.a.md, .int .i64 x.a.pf, .slice x.a.c.a x.a.c.n x.a.c.c] 88)) (some ⟨V10.heap.size, 0, none⟩) 1 1 [x] := Rep.sl_one (R := RSy) (y := x) (hnew _ _)
          have N4 := Lib.hid (And.intro (N3.out.1.keep hal) (And.intro (N3.out.2.1.keep hal) (And.intro (N3.out.2.2.1.keep hal) (And.intro N3.out.2.2.2.1 (And.intro hone (bcall N3.out.2.2.2.2 (Nat.le_refl _) hal))))))
          clear hal hone N3
          go_wp2_with fail
          refine ⟨N4.out.1, ?_⟩
          generalize V10.alloc (.cells #[.int .u32 (x.k.1 : Int), .int .i64 x.k.2, .int .i64 x.a.o, .slice x.a.p.a x.a.p.n x.a.p.c, .int .u32 x.a.nx, .int .i64 x.a.md, .int .i64 x.a.pf, .slice x.a.c.a x.a.c.n x.a.c.c] 88) = V11 at *
          generalize V10.heap.size = q11 at *
          refine held_one 9 (by kernel_rfl) ?_
          simp only [pick, List.getD_cons_zero, List.getD_cons_succ]
          go_wp2_with (at_builtin; refine halt ?_)
          refine Halted.go ?_
          refine Rep.append_cut TSy rfl _ _ rfl rfl N4.out.2.1 rfl N4.out.2.2.2.2.1 (by omega) (by unfold maxLen; omega) (by omega) ?_
          intro v12 V12 hown12 hb12
          have N5 := Lib.hid (And.intro hb12 (And.intro (N4.out.2.2.1.keep hb12) hown12))
          clear hown12 hb12
          go_wp2_with fail
          refine ⟨N4.out.1.keep N5.out.1, ?_⟩
          refine held_one 11 (by kernel_rfl) ?_
          simp only [pick, List.getD_cons_zero, List.getD_cons_succ]
          go_wp2_with (at_builtin; refine halt ?_)
          refine Halted.go ?_
          have hlt : (out.take k ++ [x]).length = k + 1 := by have := G.out.2.2.2.2.1; rw [List.length_append, List.length_take, this, List.length_singleton]; omega
          refine Rep.append_list TSy rfl _ _ rfl rfl N5.out.2.2 rfl N5.out.2.1 N4.out.2.2.2.1 (by rw [hlt]; unfold maxLen; omega) (by rw [hlt]; omega) N5.out.1.size ?_
          intro v13 V13 hown13 hb13 _
          have HIN := Lib.hid (ins_at G.out.2.1 G.out.2.2.1 G.out.2.2.2.1 HLO.out (by rw [G.out.2.2.2.2.1]; exact hkle) HUP.out)
          have hb13' := N5.out.1.trans hb13
          have N6 := Lib.hid (And.intro (N4.out.1.keep hb13') (And.intro (hown13.mono (Nat.le_trans HJ.out.2.2.size N4.out.2.2.2.2.2.size)) (bcall HJ.out.2.2 (Nat.le_refl _) (bcall N4.out.2.2.2.2.2 (Nat.le_refl _) hb13'))))
          clear hlt hown13 hb13 hb13' N5 N4
          go_wp2_with fail
          refine ⟨N6.out.1, ?_⟩
          refine held_one 12 (by kernel_rfl) ?_
          simp only [pick, List.getD_cons_zero, List.getD_cons_succ]
          go_wp2_with fail
          refine ⟨N6.out.1, ?_⟩
          refine wpAnyH_done (by kernel_rfl) ?_ _
          go_wp2_with fail
          exact ⟨⟨i + 1, _, HJ.out.1, by first | rw [HJ.out.2.1] | rw [Int.natCast_succ], N6.out.2.1, HIN.out, N6.out.2.2⟩, by first | (rw [HJ.out.2.1]; exact mSucc HJ.out.1) | (rw [← Int.natCast_succ]; exact mSucc HJ.out.1)⟩
    · obtain rfl : i = n := by omega
      have hil : ((i : Int) < (i : Int)) = False := by simp
      have G2 := Lib.hid (And.intro hown (And.intro hst hb))
      generalize out.length = m at *
      clear hown hst hb hsl hn0
      go_wp2_with fail
      go_ret
      refine ⟨_, rfl, ?_, G2.out.2.2⟩
      have hst := G2.out.2.1
      rw [F.out.2, List.take_length] at hst
      rw [← hst]
      exact G2.out.1
end Go.Proofs.YtadoflcomienoaaGreat
