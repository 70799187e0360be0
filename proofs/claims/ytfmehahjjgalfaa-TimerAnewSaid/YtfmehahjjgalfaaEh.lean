/- Timers: Due, at most one. -/
import Derived.Test.YtfmehahjjgalfaaEg
namespace Go.Proofs.Ytfmehahjjgalfaa.Tim
open Go.RowKit
open Go.ChangeMaps (setBlock)

structure TDue (w w' : World) (t bm : Nat) (L : List Tm) (now : Int) (v : Value) : Prop where
  own : RTk.Own w' w.heap.size v ((L.filter (dueP now)).map Tm.k)
  tab : TimAt w' t bm (L.filter fun x => !dueP now x)
  but : But w w' [bm]
theorem one_perm {A B : List TK} (h : A.Perm B) (h1 : A.length ≤ 1) : A = B := by
  match A, h1 with
  | [], _ => exact (List.nil_perm.1 h).symm
  | [a], _ => exact List.singleton_perm.1 h
def KX (q : Nat) (k : TK) (w : World) : Prop := w.heap[q]? = some (.cells #[.int .i64 k.1, .int .i64 k.2] 31)
set_option maxRecDepth 100000 in
set_option maxHeartbeats 4000000 in
theorem due_few {w : World} {t bm : Nat} {L : List Tm} (H : TimAt w t bm L) (hlen : L.length ≤ 4611686) (now : Int) (hfew : (L.filter (dueP now)).length ≤ 1) : Calls Try.prog 23 #[.pointer (some ⟨t, 0, none⟩), .int .i64 now] w fun e w' => ∃ v, e = .returned v ∧ TDue w w' t bm L now v := by
  have c0 := H.c0
  have hlt := H.lt
  have HT := Lib.hid H
  obtain ⟨clk, es, k1, k2, k3⟩ := H.out
  have hrg := MR.run_range TN k2 Try.underlying104
  have hal := (Below.refl w.heap.size w).alloc (Nat.le_refl _) (.mapIter (some bm) clk #[] clk)
  have hit : (w.alloc (.mapIter (some bm) clk #[] clk)).heap[w.heap.size]? = some (.mapIter (some bm) clk #[] clk) := hnew _ _
  have HF := Lib.hid (And.intro k2 (And.intro k3 (And.intro hlt.2.1 hfew)))
  have HLE := Lib.hid (show es.length ≤ 4611686 from by rw [k3.len]; exact hlen)
  have HW := Lib.hid (And.intro hal hit)
  clear k1 k2 k3 hal hit hlt hlen hfew H
  go_enter Try.func23, Try.ntmps23
  go_wp2_with fail
  go_loopw [5] (fun ov wr => ∃ (done : List (MR.Ent TK)) (seen : Array Nat), RTk.Own wr (w.heap.size + 1) ov (((done.map (Kl.ofE Tm.k L)).filter (dueP now)).map Tm.k) ∧ wr.heap[w.heap.size]? = some (.mapIter (some bm) clk seen clk) ∧ MR.Ran es seen done ∧ Below w.heap.size w wr ∧ w.heap.size + 1 ≤ wr.heap.size) (fun _ wr => es.length - seenN wr w.heap.size)
  case atStart => exact ⟨[], #[], Rep.Own.nil _ _, HW.out.2, MR.Ran.none _, HW.out.1, by simp⟩
  case round =>
    obtain ⟨done, seen, hown, hit, hran, hb, hsz⟩ := hrel
    obtain ⟨w2, rfl⟩ : ∃ w2 : World, w2 = wr := ⟨_, rfl⟩
    have hm2 : MR.MapAt TN w2 bm es clk := HF.out.1.blk_iff TN (hb.block _ HF.out.2.2.1)
    obtain ⟨hdl, hsd⟩ := Ran_len hran HF.out.1.bnodup
    rcases MR.next_step TN hm2 hit 0 with ⟨hall, hnx⟩ | ⟨e, hein, hens, w3, hnx, hset⟩
    · have hpe := ((hran.all HF.out.1.bnodup hall).map (Kl.ofE Tm.k L)).trans HF.out.2.1.perm
      have hpf := (hpe.filter (dueP now)).map Tm.k
      have hone : ((done.map (Kl.ofE Tm.k L)).filter (dueP now)).map Tm.k = (L.filter (dueP now)).map Tm.k := one_perm hpf (by rw [hpf.length_eq, List.length_map]; exact HF.out.2.2.2)
      rw [hone] at hown
      obtain ⟨G, hG⟩ : ∃ G, (L.filter (dueP now)).map Tm.k = G := ⟨_, rfl⟩
      have hG1 : G.length ≤ 1 := by rw [← hG, List.length_map]; exact HF.out.2.2.2
      rw [hG] at hown
      obtain ⟨a1, c1, rfl, hsl, -⟩ := hown.sl0
      have hfar : ∀ b o, a1 = some ⟨b, o, none⟩ → w.heap.size ≤ b := fun b o e => by
        rcases hown.cases with ⟨h1, -⟩ | ⟨g, cap, h1, hg, -⟩
        · injection h1 with h1; rw [h1] at e; cases e
        · injection h1 with h1; rw [h1] at e; injection e with e; injection e with e1; subst e1
          omega
      obtain ⟨n, hn⟩ : ∃ n, G.length = n := ⟨_, rfl⟩
      rw [hn] at hown hsl hG1 ⊢
      have HGE := Lib.hid (And.intro hG hn)
      have F2 := Lib.hid (And.intro hb (And.intro (HT.out.keep hb) (And.intro (hown.mono (Nat.le_succ _) : RTk.Own w2 w.heap.size _ G) (And.intro hsl hfar))))
      have HLT := Lib.hid (HF.out.2.2.1)
      have hmax : n ≤ maxLen := hsl.max
      have HS := Lib.hid (fun p c fv => sort_few p hG1 c fv w2)
      clear hown hm2 hit hran hb hdl hsd hall hpe hpf hone hG hn hsl hfar hG1 hsz HF HW HLE hrg c0
      go_wp2_with fail
      refine (HS.out _ _ _).mono ?_
      rintro e W1 ⟨rfl, hw⟩
      subst hw
      clear HS
      go_wp2_with fail
      go_loopw [35] (fun iv wr => ∃ i : Nat, i ≤ n ∧ iv = .int .i64 i ∧ TimAt wr t bm (delK L (G.take i)) ∧ But W1 wr [bm]) (fun iv _ => n - (intOf iv).toNat)
      case atStart => exact ⟨0, Nat.zero_le _, rfl, F2.out.2.1, But.refl _ _⟩
      case round =>
        obtain ⟨i, hi, rfl, htab, hbt⟩ := hrel
        obtain ⟨w2, rfl⟩ : ∃ w2 : World, w2 = wr := ⟨_, rfl⟩
        by_cases hlt : i < n
        · have hil : ((i : Int) < (n : Int)) = True := by simp; omega
          have hi0 : ((0 : Int) ≤ (i : Int)) = True := by simp
          have hw3 := wrapS hlt hmax
          have hgm : G.getD i default ∈ G := getD_mem (by rw [HGE.out.2]; exact hlt)
          have hok : TN.ok (G.getD i default) := by
            have := hgm
            rw [← HGE.out.1] at this
            obtain ⟨o, ho, he⟩ := List.mem_map.1 this
            rw [← HGE.out.1, ← he]
            exact okK HT.out (List.mem_filter.1 ho).1
          have t1 := delK_succ (L := L) (G := G) (i := i) (by rw [HGE.out.2]; exact hlt)
          obtain ⟨b, o, hbo, hrow⟩ := F2.out.2.2.2.1.row (by omega)
          subst hbo
          have hbne : b ≠ bm := by have := F2.out.2.2.2.2 b o rfl; have := HLT.out; omega
          have hat := (hrow.keep (hbt.block b hrow.lt (by simp; exact hbne))).get i (by rw [HGE.out.2]; exact hlt)
          generalize G.getD i default = y at *
          have y0 := hat 0 (by decide)
          have y1 := hat 1 (by decide)
          simp only [RTk, Nat.add_zero, List.getElem?_cons_zero, List.getElem?_cons_succ] at y0 y1
          have hal := (Below.refl w2.heap.size w2).alloc (Nat.le_refl _) (.cells #[.int .i64 y.1, .int .i64 y.2] 31)
          have hxs : KS w2.heap.size y (w2.alloc (.cells #[.int .i64 y.1, .int .i64 y.2] 31)) := hnew _ _
          obtain ⟨x0, x1⟩ := hxs.cells
          have htab2 := htab.keep hal
          have c0 := htab2.c0
          obtain ⟨O, hup, htab3⟩ := (htab2.on (w' := (w2.alloc (.cells #[.int .i64 y.1, .int .i64 y.2] 31)).drew) rfl rfl).delete hok 31 0
          rw [← t1] at htab3
          have F3 := Lib.hid (And.intro htab3 ((hbt.trans (But.of_below hal _)).drew.setBlock (b := bm) (.inr (by simp)) O))
          clear htab hbt hgm hok t1 hrow hbne hat hal hxs htab2 htab3
          go_wp2_with fail
          clear y0 y1
          generalize w2.alloc (.cells #[.int .i64 y.1, .int .i64 y.2] 31) = W5 at *
          generalize w2.heap.size = q2 at *
          refine wp_region_pieces (by kernel_rfl) ?_
          refine wpAny_seg (fun w' => w' = W5.drew) [0, 1, 2, 3, 4] (g := 1) rfl (by kernel_rfl) rfl ?_
          simp only [pick, List.getD_cons_zero, List.getD_cons_succ]
          iterate 5 ((with_reducible refine wpQuiet_step (fun K hK => ?_)); go_simp; first | ((with_reducible refine hK _ ?_); clear hK K) | (apply Exists.intro; (with_reducible refine ⟨fun w' hw' => ?_, hK _ ?_⟩); (subst hw'; go_simp; first | exact rfl | exact ⟨rfl, rfl⟩); clear hK K))
          refine wpQuiet_nil ?_
          rintro _ rfl
          refine wpAny_one 5 (by kernel_rfl) ?_
          simp only [pick, List.getD_cons_zero, List.getD_cons_succ]
          go_wp2_with fail
          refine wpAny_done (by kernel_rfl) ?_ _
          go_wp2_with fail
          exact ⟨⟨i + 1, hlt, by first | rw [hw3] | rw [Int.natCast_succ], F3.out⟩, by first | (rw [hw3]; exact mSucc hlt) | (rw [← Int.natCast_succ]; exact mSucc hlt)⟩
        · obtain rfl : n = i := by omega
          have hil : ((n : Int) < (n : Int)) = False := by simp
          rw [List.take_of_length_le (by rw [HGE.out.2]; exact Nat.le_refl _), delK_filter HT.out.nd (dueP now) (by rw [HGE.out.1])] at htab
          have hbw : But w w2 [bm] := (But.of_below F2.out.1 [bm]).trans hbt
          have hown := Rep.Own.but F2.out.2.2.1 hbt (by simp; exact HLT.out)
          have F3 := Lib.hid (show TDue w w2 t bm L now (.slice a1 n c1) from ⟨by rw [HGE.out.1]; exact hown, htab, hbw⟩)
          clear htab hbt hbw hown
          go_wp2_with fail
          go_ret
          exact ⟨_, rfl, F3.out⟩
    · have hm3 := hm2.blk_iff TN (hset.other (show bm ≠ w.heap.size from by have := HF.out.2.2.1; omega))
      have hen := MR.run_entry TN hm3 hein (hset.at hsz)
      have hent0 := HF.out.2.1.ent hein
      rw [hent0.2.1] at hnx hen
      have hown3 := Rep.Own.but hown (But.of_set hset (bs := [w.heap.size]) (by simp)) (by simp)
      have hb3 : Below w.heap.size w w3 := hb.trans (hset.below (Nat.le_refl _))
      have hr3 := hran.more hein hens
      have hit3 := hset.at hsz
      have hs3 : w.heap.size + 1 ≤ w3.heap.size := by rw [hset.size]; exact hsz
      have hms : seenN w2 w.heap.size = seen.size := seenN_of hit
      have hdl3 := (Ran_len hr3 HF.out.1.bnodup)
      have hme : (((done ++ [e]).map (Kl.ofE Tm.k L)).filter (dueP now)).map Tm.k = if dueP now (Kl.ofE Tm.k L e) then ((done.map (Kl.ofE Tm.k L)).filter (dueP now)).map Tm.k ++ [(Kl.ofE Tm.k L e).k] else ((done.map (Kl.ofE Tm.k L)).filter (dueP now)).map Tm.k := by
        rw [List.map_append]
        have := filter_snoc (dueP now) (done.map (Kl.ofE Tm.k L)) (Kl.ofE Tm.k L e)
        simp only [List.map_cons, List.map_nil]
        rw [this]
        split <;> simp
      have hln : (((done.map (Kl.ofE Tm.k L)).filter (dueP now)).map Tm.k).length ≤ done.length := by
        have h1 := List.length_filter_le (dueP now) (done.map (Kl.ofE Tm.k L))
        rw [List.length_map] at h1
        rw [List.length_map]
        exact h1
      have hke : TN.enc e.1 = .agg #[.int .i64 (Kl.ofE Tm.k L e).k.1, .int .i64 (Kl.ofE Tm.k L e).k.2] := by rw [hent0.2.2.1]; rfl
      rw [hke] at hnx hen
      obtain ⟨oa, cc, rfl, -, -⟩ := hown.sl0
      obtain ⟨n, hn⟩ : ∃ n, (((done.map (Kl.ofE Tm.k L)).filter (dueP now)).map Tm.k).length = n := ⟨_, rfl⟩
      have HN := Lib.hid hn
      rw [hn] at hown3 hln ⊢
      have HG := Lib.hid (And.intro hown3 (And.intro hr3 (And.intro hb3 (And.intro hs3 (And.intro hit3 (And.intro hme (And.intro hdl3 (And.intro hln hms))))))))
      generalize Kl.ofE Tm.k L e = x at *
      unfold Tm.v at hnx hen
      clear hown hran hb hdl hsd hm2 hit hm3 hset hens hown3 hr3 hb3 hs3 hit3 hme hdl3 hln hein hent0 hms hn hke c0 hrg
      go_wp2_with (with_reducible refine halt_store 31 rfl ?_)
      refine Halted.go ?_
      have hal := (Below.refl w3.heap.size w3).alloc (Nat.le_refl _) (.cells #[.int .i64 0, .int .i64 0] 31)
      refine store_whole rfl 31 _ _ rfl w3.heap.size #[.int .i64 x.k.1, .int .i64 x.k.2] rfl rfl (hnew _ _) rfl (by kernel_rfl) (by simp [Value.oneCell']) ?_
      intro wz hwz hsz
      have hzb : Below w3.heap.size w3 wz := Below.trans hal (hsz.below (Nat.le_refl _))
      obtain ⟨z0, z1⟩ := KS.cells (k := x.k) hwz
      have HZ := Lib.hid (And.intro (HG.out.1.below hzb) (And.intro (show KS w3.heap.size x.k wz from hwz) (And.intro (hzb.mono HG.out.2.2.2.1) (Nat.le_trans HG.out.2.2.2.1 hzb.size))))
      clear hwz hsz hal hzb
      generalize w3.heap.size = q3 at *
      by_cases hpx : x.at' ≤ now
      · have hpt : (x.at' ≤ now) = True := by simp [hpx]
        have HPX := Lib.hid (show dueP now x = true from by simp [dueP, hpx])
        clear hpx
        go_wp2_with (at_builtin; refine halt ?_)
        refine Halted.go ?_
        have hn2 : n ≤ 4611686 := by
          have h1 := HG.out.2.2.2.2.2.2.2.1
          have h2 := HG.out.2.2.2.2.2.2.1.1
          have h3 := HLE.out
          have h4 := HN.out
          rw [List.length_append] at h2
          omega
        have hal := (Below.refl wz.heap.size wz).alloc (Nat.le_refl _) (.cells #[.int .i64 x.k.1, .int .i64 x.k.2] 31)
        refine Rep.append_one T38 rfl _ _ rfl rfl (HZ.out.1.below hal) x.k _ 1 rfl (hnewAt (by simp)) (n := n) HN.out (by unfold maxLen; omega) (by show (n + 1) * 16 ≤ _; omega) (Nat.le_trans HZ.out.2.2.2 hal.size) ?_
        intro v6 w6 hown6 hb6 _
        obtain ⟨o6, c6, rfl, -, -⟩ := hown6.sl0
        obtain ⟨k1, hk1⟩ : ∃ k1, (((done.map (Kl.ofE Tm.k L)).filter (dueP now)).map Tm.k ++ [x.k]).length = k1 := ⟨_, rfl⟩
        rw [hk1] at hown6 ⊢
        clear hk1
        have hbz : Below (w.heap.size + 1) w3 w6 := HZ.out.2.2.1.trans ((hal.mono HZ.out.2.2.2).trans hb6)
        have HK := Lib.hid (And.intro hown6 (And.intro hbz (Nat.le_trans HZ.out.2.2.2 (Nat.le_trans hal.size hb6.size))))
        clear hown6 hb6 hbz hal hn2
        go_wp2_with fail
        obtain ⟨g1, g2, g3, g4, g5, g6, g7, g8, g9⟩ := HG.out
        rw [HPX.out, if_pos rfl] at g6
        refine ⟨⟨done ++ [e], seen.push e.2.2, ?_, (HK.out.2.1.block _ (Nat.lt_succ_self _)).trans g5, g2, g3.trans (HK.out.2.1.mono (Nat.le_succ _)), HK.out.2.2⟩, ?_⟩
        · rw [g6]; exact HK.out.1
        · have h5 : seenN w6 w.heap.size = (seen.push e.2.2).size := seenN_of ((HK.out.2.1.block _ (Nat.lt_succ_self _)).trans g5)
          have h6 := g7.2
          have h7 := g7.1
          rw [h5, g9]
          rw [Array.size_push] at h6 ⊢
          omega
      · have hpt : (x.at' ≤ now) = False := by simp; omega
        have HPX := Lib.hid (show dueP now x = false from by simp [dueP]; omega)
        clear hpx
        go_wp2_with fail
        obtain ⟨g1, g2, g3, g4, g5, g6, g7, g8, g9⟩ := HG.out
        rw [HPX.out, if_neg (by simp)] at g6
        refine ⟨⟨done ++ [e], seen.push e.2.2, ?_, (HZ.out.2.2.1.block _ (Nat.lt_succ_self _)).trans g5, g2, g3.trans (HZ.out.2.2.1.mono (Nat.le_succ _)), HZ.out.2.2.2⟩, ?_⟩
        · rw [g6]; exact HZ.out.1
        · have h5 : seenN wz w.heap.size = (seen.push e.2.2).size := seenN_of ((HZ.out.2.2.1.block _ (Nat.lt_succ_self _)).trans g5)
          have h6 := g7.2
          have h7 := g7.1
          rw [h5, g9]
          rw [Array.size_push] at h6 ⊢
          omega
end Go.Proofs.Ytfmehahjjgalfaa.Tim
