/- Templates that are learnt. -/
import Derived.Test.YtcbpdjenncbbeaaQap
import Derived.Test.YtcbpdjenncbbeaaQaf
namespace Go.Proofs.Ytcbpdjenncbbeaa.Ip
open Go.RowKit
open Go.ChangeMaps (setBlock)

theorem zeroT : ∀ w, (zeroValue 93).run Try.prog w = .ok (.agg #[.int .i64 0, .slice none 0 0]) w := fun w => by kernel_rfl
structure LeS (cb kb nb : Nat) (es : List (MR.Ent TK)) (k1 : Nat) (lost bad : Int) (q9 q10 : Nat) (d : Int) (fa : Option Addr) (fc : Nat) (W : World) : Prop where
  col : W.heap[cb]? = some (.cells #[.map (some kb), .map (some nb), .int .i64 lost, .int .i64 bad] 89)
  kn : MR.MapAt TN W kb es k1
  tm : W.heap[q9]? = some (.cells #[.int .i64 300, .slice fa 2 fc] 93)
  ky : W.heap[q10]? = some (.cells #[.int .i64 d, .int .i64 300] 119)
theorem LeS.keep {cb kb nb : Nat} {es : List (MR.Ent TK)} {k1 : Nat} {lost bad : Int} {q9 q10 : Nat} {d : Int} {fa : Option Addr} {fc : Nat} {W W' : World} (h : LeS cb kb nb es k1 lost bad q9 q10 d fa fc W) (hb : Below W.heap.size W W') : LeS cb kb nb es k1 lost bad q9 q10 d fa fc W' :=
  ⟨(hb.block _ (lt_of_blk h.col)).trans h.col, h.kn.blk_iff TN (hb.block _ (lt_of_blk h.kn.blk)), (hb.block _ (lt_of_blk h.tm)).trans h.tm, (hb.block _ (lt_of_blk h.ky)).trans h.ky⟩
theorem wf300 : (Lit.int .i64 300).wf = true := rfl
theorem LeS.look {cb kb nb : Nat} {es : List (MR.Ent TK)} {k1 : Nat} {lost bad : Int} {q9 q10 : Nat} {d : Int} {fa : Option Addr} {fc : Nat} {W : World} (h : LeS cb kb nb es k1 lost bad q9 q10 d fa fc W) (hd : (Lit.int .i64 d).wf = true) {x1 : Int} {x2 : Option Addr} {x3 x4 : Nat} (hl : (MR.get? es (d, 300)).getD (.agg #[.int .i64 0, .slice none 0 0]) = .agg #[.int .i64 x1, .slice x2 x3 x4]) {li : Bool} (hi : (MR.get? es (d, 300)).isSome = li) : (Instr.lookup 86 (.map (some kb)) (.agg #[.int .i64 d, .int .i64 300]) true).run Try.prog W = .ok (.tuple #[.agg #[.int .i64 x1, .slice x2 x3 x4], .bool li]) W := by
  have h1 := MR.run_lookup TN h.kn (x := (d, 300)) ⟨hd, wf300⟩ Try.underlying86 zeroT true
  rw [hl, hi] at h1
  exact h1
theorem fd_but {W W' : World} {kb : Nat} {es : List (MR.Ent TK)} {k1 : Nat} (hm : MR.MapAt TN W kb es k1) {fa : Option Addr} {fc : Nat} (h : RFd.Sl W fa 2 fc usF) (hb : But W W' [kb]) : RFd.Sl W' fa 2 fc usF := ⟨h.len, h.max, fun h0 => by
  obtain ⟨b, o, e, hr⟩ := h.row h0
  have hne : b ≠ kb := fun e2 => by
    have h1 := hr.get 0 (by simp) 0 (by decide)
    rw [e2] at h1
    unfold World.cell? at h1
    simp [hm.blk, RFd] at h1
  exact ⟨b, o, e, hr.keep (hb.block b hr.lt (by simpa using hne))⟩⟩
set_option maxRecDepth 100000 in
set_option maxHeartbeats 16000000 in
theorem learn_us {w : World} {cb kb nb : Nat} {es : List (MR.Ent TK)} {k1 : Nat} {ns : List (MR.Ent Int)} {k2 : Nat} {lost bad : Int} (h : ColAt w cb kb nb es k1 ns k2 lost bad) (hes : es.length < 1024) {d : Int} (hd : (Lit.int .i64 d).wf = true) {x1 : Int} {x2 : Option Addr} {x3 x4 : Nat} (hl : (MR.get? es (d, 300)).getD (.agg #[.int .i64 0, .slice none 0 0]) = .agg #[.int .i64 x1, .slice x2 x3 x4]) {oa : Option Addr} {n c : Nat} (hb : RB.Sl w oa n c usB) (hnil : oa = none → c = 0) :
    Calls Try.prog 34 #[.pointer (some ⟨cb, 0, none⟩), .int .i64 d, .slice oa n c] w fun e w' => e = .returned (.tuple #[]) ∧ ∃ fa fc, ColAt w' cb kb nb (MR.put es (d, 300) (.agg #[.int .i64 300, .slice fa 2 fc]) k1) (MR.clock' es (d, 300) k1) ns k2 lost bad ∧ FdsOk w' ⟨fa, 2, fc, [(12, 4), (1, 4)]⟩ ∧ But w w' [kb] := by
  have F0 := Lib.hid (And.intro h (And.intro hes (And.intro hd hl)))
  have HG := Lib.hid (gett_usual hb hnil)
  clear h hes hd hl hb hnil
  go_enter Try.func34, Try.ntmps34
  go_wp2_with fail
  refine HG.out.mono ?_
  rintro e W1 ⟨⟨oa', c', x, rfl, htm, hx1, hx2⟩, hb1⟩
  obtain ⟨xi, fa, fn, fc, fl⟩ := x
  dsimp only at hx1 hx2
  subst hx1 hx2
  have htm : SlOk RTm TmOk W1 ⟨oa', 1, c', [(300, ⟨fa, fn, fc, [(12, 4), (1, 4)]⟩)]⟩ := htm
  obtain ⟨tb, tof, rfl, hrw⟩ := htm.sl.row Nat.one_pos
  have hat := hrw.get 0 (by simp)
  have hfd : FdsOk W1 ⟨fa, fn, fc, [(12, 4), (1, 4)]⟩ := htm.all (300, ⟨fa, fn, fc, [(12, 4), (1, 4)]⟩) (by simp)
  have hfn : fn = 2 := hfd.sl.len
  subst hfn
  have c0 := hat 0 (by decide)
  have c1 := hat 1 (by decide)
  rw [Nat.zero_mul, Nat.add_zero] at c0 c1
  simp only [RTm, List.getD_cons_zero, List.getElem?_cons_zero, List.getElem?_cons_succ] at c0 c1
  have F1 := Lib.hid (And.intro (F0.out.1.keep hb1) (And.intro hfd hb1))
  have hlt0 : ((0 : Int) < 1) = True := by simp
  clear htm hrw hat hfd hb1 HG
  go_wp2_with fail
  go_loopw [29] (fun iv wr => (iv = .int .i64 0 ∧ wr = W1) ∨ (iv = .int .i64 1 ∧ ColAt wr cb kb nb (MR.put es (d, 300) (.agg #[.int .i64 300, .slice fa 2 fc]) k1) (MR.clock' es (d, 300) k1) ns k2 lost bad ∧ But W1 wr [kb])) (fun iv _ => 1 - (intOf iv).toNat)
  case atStart => exact .inl ⟨rfl, rfl⟩
  case round =>
    rcases hrel with ⟨rfl, hwr⟩ | ⟨rfl, hcol, hbut⟩
    · have hwr := hwr.symm
      subst hwr
      go_wp2_with (with_reducible refine halt_store 93 rfl ?_)
      refine Halted.go ?_
      clear c0 c1
      have hal := (Below.refl W1.heap.size W1).alloc (Nat.le_refl _) (.cells #[.int .i64 0, .slice none 0 0] 93)
      refine store_whole rfl 93 _ _ rfl W1.heap.size #[.int .i64 300, .slice fa 2 fc] rfl rfl (hnew _ _) rfl (by kernel_rfl) (by simp [Value.oneCell']) ?_
      intro W2 hz hsz
      have hb2 : Below W1.heap.size W1 W2 := Below.trans hal (hsz.below (Nat.le_refl _))
      have z0 := cell_of (o := 0) hz rfl
      have F2 := Lib.hid (And.intro hz hb2)
      clear hal hz hsz hb2
      go_wp2_with (with_reducible refine halt_store 119 rfl ?_)
      refine Halted.go ?_
      clear z0
      have hal := (Below.refl W2.heap.size W2).alloc (Nat.le_refl _) (.cells #[.int .i64 0, .int .i64 0] 119)
      refine store_whole rfl 119 _ _ rfl W2.heap.size #[.int .i64 d, .int .i64 300] rfl rfl (hnew _ _) rfl (by kernel_rfl) (by simp [Value.oneCell']) ?_
      intro W3 hz hsz
      have hb3 : Below W2.heap.size W2 W3 := Below.trans hal (hsz.below (Nat.le_refl _))
      have hdr := (Below.refl W3.heap.size W3).drew
      have hb4 := bcall hb3 (Nat.le_refl _) hdr
      have hb5 := bcall F2.out.2 (Nat.le_refl _) hb4
      have hc3 := F1.out.1.keep hb5
      have hS0 : LeS cb kb nb es k1 lost bad W1.heap.size W2.heap.size d fa fc W3.drew := ⟨hc3.col, hc3.kn, (hb4.block _ (lt_of_blk F2.out.1)).trans F2.out.1, (hdr.block _ (lt_of_blk hz)).trans hz⟩
      obtain ⟨q9, hq9⟩ : ∃ q, W1.heap.size = q := ⟨_, rfl⟩
      obtain ⟨q10, hq10⟩ : ∃ q, W2.heap.size = q := ⟨_, rfl⟩
      rw [hq9, hq10] at hS0
      have FX := Lib.hid (And.intro hb5 hS0)
      have HQ9 := Lib.hid hq9
      try rw [hq10]
      clear hal hz hsz hb3 hdr hb4 hb5 hc3 hS0
      obtain ⟨li, hli⟩ : ∃ li, (MR.get? es (d, 300)).isSome = li := ⟨_, rfl⟩
      have HLI := Lib.hid hli
      clear hli
      go_wp2_with fail
      refine wp_region_heldP (LeS cb kb nb es k1 lost bad q9 q10 d fa fc) (by kernel_rfl) ?_
      clear hq9 hq10
      try rw [HQ9.out]
      generalize W3.drew = V at *
      refine held_reads [0, 1, 2, 3, 4, 5, 6, 7, 8] (g := 3) rfl (by kernel_rfl) FX.out.2 (fun _ _ d _ _ h => by cases d <;> exact h) ?_
      simp only [pick, List.getD_cons_zero, List.getD_cons_succ]
      ((with_reducible refine wpRead_step (fun K hK => ?_)); go_simp; first | ((with_reducible refine hK _ ?_); clear hK K) | (apply Exists.intro; (with_reducible refine ⟨fun w' hw' => ?_, hK _ ?_⟩); ((have f0 : w'.cell? ⟨cb, 0, none⟩ = _ := cell_of hw'.col rfl; have f1 := hw'.look F0.out.2.2.1 F0.out.2.2.2 HLI.out; go_simp; first | exact rfl | exact ⟨rfl, rfl⟩)); clear hK K))
      ((with_reducible refine wpRead_step (fun K hK => ?_)); go_simp; first | ((with_reducible refine hK _ ?_); clear hK K) | (apply Exists.intro; (with_reducible refine ⟨fun w' hw' => ?_, hK _ ?_⟩); ((have f0 : w'.cell? ⟨cb, 0, none⟩ = _ := cell_of hw'.col rfl; have f1 := hw'.look F0.out.2.2.1 F0.out.2.2.2 HLI.out; go_simp; first | exact rfl | exact ⟨rfl, rfl⟩)); clear hK K))
      ((with_reducible refine wpRead_step (fun K hK => ?_)); go_simp; first | ((with_reducible refine hK _ ?_); clear hK K) | (apply Exists.intro; (with_reducible refine ⟨fun w' hw' => ?_, hK _ ?_⟩); ((have f0 : w'.cell? ⟨cb, 0, none⟩ = _ := cell_of hw'.col rfl; have f1 := hw'.look F0.out.2.2.1 F0.out.2.2.2 HLI.out; go_simp; first | exact rfl | exact ⟨rfl, rfl⟩)); clear hK K))
      ((with_reducible refine wpRead_step (fun K hK => ?_)); go_simp; first | ((with_reducible refine hK _ ?_); clear hK K) | (apply Exists.intro; (with_reducible refine ⟨fun w' hw' => ?_, hK _ ?_⟩); ((have f0 : w'.cell? ⟨cb, 0, none⟩ = _ := cell_of hw'.col rfl; have f1 := hw'.look F0.out.2.2.1 F0.out.2.2.2 HLI.out; go_simp; first | exact rfl | exact ⟨rfl, rfl⟩)); clear hK K))
      with_reducible refine wpRead_yes ?_ ?_
      rotate_left
      rfl
      intro K hK
      refine read_load 119 _ rfl q10 0 #[.int .i64 d, .int .i64 300] rfl (fun w' hw' => rangeAt_block hw'.ky 0 _ rfl) Try.underlying119 rfl (by kernel_rfl) (hK _ ?_)
      clear hK K
      ((with_reducible refine wpRead_step (fun K hK => ?_)); go_simp; first | ((with_reducible refine hK _ ?_); clear hK K) | (apply Exists.intro; (with_reducible refine ⟨fun w' hw' => ?_, hK _ ?_⟩); ((have f0 : w'.cell? ⟨cb, 0, none⟩ = _ := cell_of hw'.col rfl; have f1 := hw'.look F0.out.2.2.1 F0.out.2.2.2 HLI.out; go_simp; first | exact rfl | exact ⟨rfl, rfl⟩)); clear hK K))
      ((with_reducible refine wpRead_step (fun K hK => ?_)); go_simp; first | ((with_reducible refine hK _ ?_); clear hK K) | (apply Exists.intro; (with_reducible refine ⟨fun w' hw' => ?_, hK _ ?_⟩); (first | exact rfl | exact ⟨rfl, rfl⟩); clear hK K))
      ((with_reducible refine wpRead_step (fun K hK => ?_)); go_simp; first | ((with_reducible refine hK _ ?_); clear hK K) | (apply Exists.intro; (with_reducible refine ⟨fun w' hw' => ?_, hK _ ?_⟩); (first | exact rfl | exact ⟨rfl, rfl⟩); clear hK K))
      ((with_reducible refine wpRead_step (fun K hK => ?_)); go_simp; first | ((with_reducible refine hK _ ?_); clear hK K) | (apply Exists.intro; (with_reducible refine ⟨fun w' hw' => ?_, hK _ ?_⟩); (first | exact rfl | exact ⟨rfl, rfl⟩); clear hK K))
      with_reducible refine wpRead_nil ?_
      refine held_one 9 (by kernel_rfl) ?_
      simp only [pick, List.getD_cons_zero, List.getD_cons_succ]
      have hal := (Below.refl V.heap.size V).alloc (Nat.le_refl _) (.cells #[.int .i64 0, .slice none 0 0] 93)
      have FA := Lib.hid (And.intro (bcall FX.out.1 (Nat.le_refl _) hal) (And.intro (FX.out.2.keep hal) (hnew V (.cells #[.int .i64 0, .slice none 0 0] 93))))
      clear hal
      go_wp2_with fail
      refine ⟨FA.out.2.1, ?_⟩
      obtain ⟨q11, hq11⟩ : ∃ q, V.heap.size = q := ⟨_, rfl⟩
      have HQ := Lib.hid (show W1.heap.size ≤ q11 from hq11 ▸ FX.out.1.size)
      have HV := Lib.hid hq11
      rw [hq11] at FA
      try rw [hq11]
      clear hq11
      generalize V.alloc (.cells #[.int .i64 0, .slice none 0 0] 93) = V2 at *
      refine held_one 10 (by kernel_rfl) ?_
      simp only [pick, List.getD_cons_zero, List.getD_cons_succ]
      go_wp2_with (with_reducible refine halt_store 93 rfl ?_)
      refine Halted.go ?_
      refine store_whole rfl 93 _ _ rfl q11 #[.int .i64 x1, .slice x2 x3 x4] rfl rfl FA.out.2.2 rfl (by kernel_rfl) (by simp [Value.oneCell']) ?_
      intro V3 hz hsz
      have hqo : q9 ≠ q11 ∧ q10 ≠ q11 ∧ cb ≠ q11 ∧ kb ≠ q11 := by
        have h1 := lt_of_blk FX.out.2.tm
        have h2 := lt_of_blk FX.out.2.ky
        have h3 := lt_of_blk FX.out.2.col
        have h4 := lt_of_blk FX.out.2.kn.blk
        have h5 := HV.out
        omega
      have FB := Lib.hid (And.intro (FA.out.1.trans (hsz.below HQ.out)) (show LeS cb kb nb es k1 lost bad q9 q10 d fa fc V3 from ⟨(hsz.other hqo.2.2.1).trans FA.out.2.1.col, FA.out.2.1.kn.blk_iff TN (hsz.other hqo.2.2.2), (hsz.other hqo.1).trans FA.out.2.1.tm, (hsz.other hqo.2.1).trans FA.out.2.1.ky⟩))
      clear hz hsz hqo
      go_wp2_with fail
      refine ⟨FB.out.2, ?_⟩
      refine held_one 11 (by kernel_rfl) ?_
      simp only [pick, List.getD_cons_zero, List.getD_cons_succ]
      go_wp2_with fail
      refine ⟨FB.out.2, ?_⟩
      refine wpAnyH_done (by kernel_rfl) ?_ _
      have e0 : V3.cell? ⟨cb, 0, none⟩ = some (.map (some kb)) := cell_of FB.out.2.col rfl
      have hl := fun ty => MR.run_len TN FB.out.2.kn Try.underlying86 ty
      have hge : ((1024 : Int) ≤ (es.length : Int)) = False := by have := F0.out.2.1; simp; omega
      cases li with
      | false =>
        go_wp2_with fail
        clear e0 hl hge
        refine wp_region_T 6 (LeS cb kb nb es k1 lost bad q9 q10 d fa fc) (by kernel_rfl) ?_
        have hdr := (Below.refl V3.heap.size V3).drew
        have FY := Lib.hid (And.intro (bcall FB.out.1 (Nat.le_refl _) hdr) (FB.out.2.keep hdr))
        clear hdr
        generalize V3.drew = V9 at *
        refine T_reads [0, 1, 2, 3, 4, 5] (g := 1) rfl (by kernel_rfl) FY.out.2 (fun _ _ d _ _ h => by cases d <;> exact h) ?_
        simp only [pick, List.getD_cons_zero, List.getD_cons_succ]
        ((with_reducible refine wpRead_step (fun K hK => ?_)); go_simp; first | ((with_reducible refine hK _ ?_); clear hK K) | (apply Exists.intro; (with_reducible refine ⟨fun w' hw' => ?_, hK _ ?_⟩); ((have f0 : w'.cell? ⟨cb, 0, none⟩ = _ := cell_of hw'.col rfl; have f1 := hw'.look F0.out.2.2.1 F0.out.2.2.2 HLI.out; go_simp; first | exact rfl | exact ⟨rfl, rfl⟩)); clear hK K))
        ((with_reducible refine wpRead_step (fun K hK => ?_)); go_simp; first | ((with_reducible refine hK _ ?_); clear hK K) | (apply Exists.intro; (with_reducible refine ⟨fun w' hw' => ?_, hK _ ?_⟩); ((have f0 : w'.cell? ⟨cb, 0, none⟩ = _ := cell_of hw'.col rfl; have f1 := hw'.look F0.out.2.2.1 F0.out.2.2.2 HLI.out; go_simp; first | exact rfl | exact ⟨rfl, rfl⟩)); clear hK K))
        ((with_reducible refine wpRead_step (fun K hK => ?_)); go_simp; first | ((with_reducible refine hK _ ?_); clear hK K) | (apply Exists.intro; (with_reducible refine ⟨fun w' hw' => ?_, hK _ ?_⟩); ((have f0 : w'.cell? ⟨cb, 0, none⟩ = _ := cell_of hw'.col rfl; have f1 := hw'.look F0.out.2.2.1 F0.out.2.2.2 HLI.out; go_simp; first | exact rfl | exact ⟨rfl, rfl⟩)); clear hK K))
        ((with_reducible refine wpRead_step (fun K hK => ?_)); go_simp; first | ((with_reducible refine hK _ ?_); clear hK K) | (apply Exists.intro; (with_reducible refine ⟨fun w' hw' => ?_, hK _ ?_⟩); ((have f0 : w'.cell? ⟨cb, 0, none⟩ = _ := cell_of hw'.col rfl; have f1 := hw'.look F0.out.2.2.1 F0.out.2.2.2 HLI.out; go_simp; first | exact rfl | exact ⟨rfl, rfl⟩)); clear hK K))
        with_reducible refine wpRead_yes ?_ ?_
        rotate_left
        rfl
        intro K hK
        refine read_load 119 _ rfl q10 0 #[.int .i64 d, .int .i64 300] rfl (fun w' hw' => rangeAt_block hw'.ky 0 _ rfl) Try.underlying119 rfl (by kernel_rfl) (hK _ ?_)
        clear hK K
        with_reducible refine wpRead_yes ?_ ?_
        rotate_left
        rfl
        intro K hK
        refine read_load 93 _ rfl q9 0 #[.int .i64 300, .slice fa 2 fc] rfl (fun w' hw' => rangeAt_block hw'.tm 0 _ rfl) Try.underlying93 rfl (by kernel_rfl) (hK _ ?_)
        clear hK K
        with_reducible refine wpRead_nil ?_
        obtain ⟨O1, hO1⟩ : ∃ O, O = Obj.map (MR.ents TN.enc (MR.put es (d, 300) (.agg #[.int .i64 300, .slice fa 2 fc]) k1)).toArray (MR.clock' es (d, 300) k1) := ⟨_, rfl⟩
        have hup := MR.run_update TN FY.out.2.kn (x := (d, 300)) ⟨F0.out.2.2.1, wf300⟩ Try.underlying86 (.agg #[.int .i64 300, .slice fa 2 fc])
        rw [← hO1] at hup
        have hu1 : (Instr.mapUpdate 86 (.map (some kb)) (.agg #[.int .i64 d, .int .i64 300]) (.agg #[.int .i64 300, .slice fa 2 fc])).run Try.prog V9 = .ok () (setBlock V9 kb O1) := hup.1
        have hc9 := F1.out.1.keep FY.out.1
        have hne := hc9.nes
        have HN := Lib.hid (And.intro (show ColAt (setBlock V9 kb O1) cb kb nb (MR.put es (d, 300) (.agg #[.int .i64 300, .slice fa 2 fc]) k1) (MR.clock' es (d, 300) k1) ns k2 lost bad from ⟨(setBlock_other hne.1).trans hc9.col, hup.2, hc9.nx.blk_iff IN (setBlock_other (Ne.symm hc9.ne)), hc9.ne⟩) ((But.of_below FY.out.1 [kb]).trans ((But.refl V9 [kb]).setBlock (b := kb) (.inr List.mem_cons_self) O1)))
        clear hO1 hup hc9 hne
        refine T_one 6 (by kernel_rfl) ?_
        simp only [pick, List.getD_cons_zero, List.getD_cons_succ]
        go_wp2_with fail
        refine ⟨fun h => absurd rfl h, ?_⟩
        refine T_done (by kernel_rfl) ?_ _
        clear hu1
        go_wp2_with fail
        exact ⟨.inr ⟨rfl, HN.out⟩, by decide⟩
      | true =>
        go_wp2_with fail
        clear e0 hl hge
        refine wp_region_T 6 (LeS cb kb nb es k1 lost bad q9 q10 d fa fc) (by kernel_rfl) ?_
        have hdr := (Below.refl V3.heap.size V3).drew
        have FY := Lib.hid (And.intro (bcall FB.out.1 (Nat.le_refl _) hdr) (FB.out.2.keep hdr))
        clear hdr
        generalize V3.drew = V9 at *
        refine T_reads [0, 1, 2, 3, 4, 5] (g := 1) rfl (by kernel_rfl) FY.out.2 (fun _ _ d _ _ h => by cases d <;> exact h) ?_
        simp only [pick, List.getD_cons_zero, List.getD_cons_succ]
        ((with_reducible refine wpRead_step (fun K hK => ?_)); go_simp; first | ((with_reducible refine hK _ ?_); clear hK K) | (apply Exists.intro; (with_reducible refine ⟨fun w' hw' => ?_, hK _ ?_⟩); ((have f0 : w'.cell? ⟨cb, 0, none⟩ = _ := cell_of hw'.col rfl; have f1 := hw'.look F0.out.2.2.1 F0.out.2.2.2 HLI.out; go_simp; first | exact rfl | exact ⟨rfl, rfl⟩)); clear hK K))
        ((with_reducible refine wpRead_step (fun K hK => ?_)); go_simp; first | ((with_reducible refine hK _ ?_); clear hK K) | (apply Exists.intro; (with_reducible refine ⟨fun w' hw' => ?_, hK _ ?_⟩); ((have f0 : w'.cell? ⟨cb, 0, none⟩ = _ := cell_of hw'.col rfl; have f1 := hw'.look F0.out.2.2.1 F0.out.2.2.2 HLI.out; go_simp; first | exact rfl | exact ⟨rfl, rfl⟩)); clear hK K))
        ((with_reducible refine wpRead_step (fun K hK => ?_)); go_simp; first | ((with_reducible refine hK _ ?_); clear hK K) | (apply Exists.intro; (with_reducible refine ⟨fun w' hw' => ?_, hK _ ?_⟩); ((have f0 : w'.cell? ⟨cb, 0, none⟩ = _ := cell_of hw'.col rfl; have f1 := hw'.look F0.out.2.2.1 F0.out.2.2.2 HLI.out; go_simp; first | exact rfl | exact ⟨rfl, rfl⟩)); clear hK K))
        ((with_reducible refine wpRead_step (fun K hK => ?_)); go_simp; first | ((with_reducible refine hK _ ?_); clear hK K) | (apply Exists.intro; (with_reducible refine ⟨fun w' hw' => ?_, hK _ ?_⟩); ((have f0 : w'.cell? ⟨cb, 0, none⟩ = _ := cell_of hw'.col rfl; have f1 := hw'.look F0.out.2.2.1 F0.out.2.2.2 HLI.out; go_simp; first | exact rfl | exact ⟨rfl, rfl⟩)); clear hK K))
        with_reducible refine wpRead_yes ?_ ?_
        rotate_left
        rfl
        intro K hK
        refine read_load 119 _ rfl q10 0 #[.int .i64 d, .int .i64 300] rfl (fun w' hw' => rangeAt_block hw'.ky 0 _ rfl) Try.underlying119 rfl (by kernel_rfl) (hK _ ?_)
        clear hK K
        with_reducible refine wpRead_yes ?_ ?_
        rotate_left
        rfl
        intro K hK
        refine read_load 93 _ rfl q9 0 #[.int .i64 300, .slice fa 2 fc] rfl (fun w' hw' => rangeAt_block hw'.tm 0 _ rfl) Try.underlying93 rfl (by kernel_rfl) (hK _ ?_)
        clear hK K
        with_reducible refine wpRead_nil ?_
        obtain ⟨O1, hO1⟩ : ∃ O, O = Obj.map (MR.ents TN.enc (MR.put es (d, 300) (.agg #[.int .i64 300, .slice fa 2 fc]) k1)).toArray (MR.clock' es (d, 300) k1) := ⟨_, rfl⟩
        have hup := MR.run_update TN FY.out.2.kn (x := (d, 300)) ⟨F0.out.2.2.1, wf300⟩ Try.underlying86 (.agg #[.int .i64 300, .slice fa 2 fc])
        rw [← hO1] at hup
        have hu1 : (Instr.mapUpdate 86 (.map (some kb)) (.agg #[.int .i64 d, .int .i64 300]) (.agg #[.int .i64 300, .slice fa 2 fc])).run Try.prog V9 = .ok () (setBlock V9 kb O1) := hup.1
        have hc9 := F1.out.1.keep FY.out.1
        have hne := hc9.nes
        have HN := Lib.hid (And.intro (show ColAt (setBlock V9 kb O1) cb kb nb (MR.put es (d, 300) (.agg #[.int .i64 300, .slice fa 2 fc]) k1) (MR.clock' es (d, 300) k1) ns k2 lost bad from ⟨(setBlock_other hne.1).trans hc9.col, hup.2, hc9.nx.blk_iff IN (setBlock_other (Ne.symm hc9.ne)), hc9.ne⟩) ((But.of_below FY.out.1 [kb]).trans ((But.refl V9 [kb]).setBlock (b := kb) (.inr List.mem_cons_self) O1)))
        clear hO1 hup hc9 hne
        refine T_one 6 (by kernel_rfl) ?_
        simp only [pick, List.getD_cons_zero, List.getD_cons_succ]
        go_wp2_with fail
        refine ⟨fun h => absurd rfl h, ?_⟩
        refine T_done (by kernel_rfl) ?_ _
        clear hu1
        go_wp2_with fail
        exact ⟨.inr ⟨rfl, HN.out⟩, by decide⟩
    · have G0 := Lib.hid (And.intro hcol (And.intro F1.out.2.1 (And.intro hbut F1.out.2.2)))
      clear hcol hbut c0 c1
      go_wp2_with fail
      go_end0
      exact ⟨rfl, fa, fc, G0.out.1, ⟨fd_but F1.out.1.kn G0.out.2.1.sl G0.out.2.2.1, G0.out.2.1.nil, G0.out.2.1.nc, G0.out.2.1.cm, G0.out.2.1.all⟩, (But.of_below G0.out.2.2.2 _).trans G0.out.2.2.1⟩
end Go.Proofs.Ytcbpdjenncbbeaa.Ip

