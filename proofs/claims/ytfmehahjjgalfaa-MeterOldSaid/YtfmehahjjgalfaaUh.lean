/- Meter: Demands. -/
import Derived.Test.YtfmehahjjgalfaaUg
import Derived.Test.YtfmehahjjgalfaaPx
namespace Go.Proofs.Ytfmehahjjgalfaa.Me
open Go.RowKit
open Go.ChangeMaps (setBlock)

theorem size_setBlock (w : World) (b : Nat) (O : Obj) : (setBlock w b O).heap.size = w.heap.size := by simp [setBlock]
theorem demands_nil (w : World) : Calls Try.prog 55 #[.pointer none] w fun e w' => e = .returned (.slice none 0 0) ∧ w' = w := by
  go_enter Try.func55, Try.ntmps55
  go_wp2_with fail
  go_ret
  exact ⟨rfl, rfl⟩
theorem ran_new {es done : List (MR.Ent PK)} {seen : Array Nat} (h : MR.Ran es seen done) (hn : (es.map (·.1)).Nodup) {e : MR.Ent PK} (he : e ∈ es) (hs : e.2.2 ∉ seen) : e.1 ∉ done.map (·.1) := by
  intro hm
  obtain ⟨x, hx, hxe⟩ := List.mem_map.1 hm
  have h1 := MR.inj_of_nodup hn (h.sub x hx) he hxe
  subst h1
  have h2 : x.2.2 ∈ seen.toList := by rw [h.seen]; exact List.mem_map.2 ⟨x, hx, rfl⟩
  exact hs (by simpa using h2)
theorem lay_keys {es : List (MR.Ent PK)} {L : List Ct} (h : Kl.Lay Ct.p Ct.v es L) : (es.map (·.1)).Perm (L.map Ct.p) := by
  have h1 := h.perm.map Ct.p
  rw [List.map_map] at h1
  have h2 : es.map (Ct.p ∘ Kl.ofE Ct.p L) = es.map (·.1) := List.map_congr_left fun e he => (h.ent he).2.2.1
  rw [h2] at h1
  exact h1
theorem rangeAt_keep {w w' : World} {m o : Nat} {l : List Value} (h : w.rangeAt m o l) (hb : w'.heap[m]? = w.heap[m]?) : w'.rangeAt m o l := fun j v hv => (cell_same hb).trans (h j v hv)
structure DmC (q3 qs bm : Nat) (k : PK) (p q : Option Addr) (D : List Ct) (W : World) : Prop where
  key : BxP q3 k W
  src : SrS qs p q W
  all : CntAt W bm D
theorem DmC.keep {q3 qs bm : Nat} {k : PK} {p q : Option Addr} {D : List Ct} {w w' : World} (h : DmC q3 qs bm k p q D w) (hb : Below w.heap.size w w') : DmC q3 qs bm k p q D w' := ⟨h.key.keep hb, h.src.keep hb, h.all.keep hb⟩
theorem DmC.facts {q3 qs bm : Nat} {k : PK} {p q : Option Addr} {D : List Ct} {W : World} (h : DmC q3 qs bm k p q D W) (hk : PN.ok k) : (W.cell? ⟨q3, 0, none⟩ = some (.int .u32 (k.1 : Int)) ∧ W.cell? ⟨q3, 1, none⟩ = some (.int .i64 k.2)) ∧ (W.cell? ⟨qs, 0, none⟩ = some (.pointer p) ∧ W.cell? ⟨qs, 1, none⟩ = some (.pointer q)) ∧ (Instr.lookup 129 (.map (some bm)) (.agg #[.int .u32 (k.1 : Int), .int .i64 k.2]) false).run Try.prog W = .ok (.int .i64 (cnt D k)) W := ⟨h.key.cells, h.src.cells, h.all.lookup1 hk W rfl⟩
structure DemsR (w w' : World) (X : Nat → Src) (v : Value) (L : List Ct) : Prop where
  own : RCt.Own w' w.heap.size v L
  dem : Dem X L
  bel : Below w.heap.size w w'
set_option maxRecDepth 100000 in
set_option maxHeartbeats 8000000 in
theorem demands_any {w : World} {m : Nat} {X : Nat → Src} (H : MetAt w m X) : Calls Try.prog 55 #[.pointer (some ⟨m, 0, none⟩)] w fun e w' => ∃ v L, e = .returned v ∧ DemsR w w' X v L := by
  have hmm := @run_makeMap Try.prog
  obtain ⟨A, hA, hra0, hall⟩ := H.all
  have hal0 := (Below.refl w.heap.size w).alloc (Nat.le_refl _) (.map #[] 0)
  have hra := rangeAt_keep hra0 (hal0.block m H.lt)
  have HM := Lib.hid (And.intro H hall)
  have HO := Lib.hid H.ok
  have F0 := Lib.hid (And.intro (CntAt.made (b := w.heap.size) (hnew w (.map #[] 0))) hal0)
  clear H hall hra0 hal0
  go_enter Try.func55, Try.ntmps55
  go_wp2_with (with_reducible refine halt_load 124 rfl ?_)
  refine Halted.go ?_
  refine load_mid rfl 124 _ rfl m 0 A rfl hra Try.underlying124 rfl (by rw [hA]; exact infoA) ?_
  clear hra hA hmm
  go_wp2_with fail
  go_loopw [17] (fun iv wr => ∃ (i : Nat) (D : List Ct), i ≤ 16 ∧ iv = .int .i64 i ∧ CntAt wr w.heap.size D ∧ DemMap X i D ∧ Below w.heap.size w wr) (fun iv _ => 16 - (intOf iv).toNat)
  case atStart => exact ⟨0, [], Nat.zero_le _, rfl, F0.out.1, DemMap.none X, F0.out.2⟩
  case round =>
    obtain ⟨i, D, hi, rfl, hcn, hdm, hb⟩ := hrel
    obtain ⟨w2, rfl⟩ : ∃ w2 : World, w2 = wr := ⟨_, rfl⟩
    clear F0
    by_cases hlt : i < 16
    · have hil : ((i : Int) < 16) = True := by simp; omega
      have hw3 := wrapS hlt (show 16 ≤ maxLen by unfold maxLen; omega)
      obtain ⟨p, q, hix, hp, hq⟩ := HM.out.2.ix i hlt
      cases hl : (X i).last with
      | none =>
        rw [hl] at hp
        obtain rfl : p = none := hp
        have hal := (Below.refl w2.heap.size w2).alloc (Nat.le_refl _) (.cells #[.pointer none, .pointer q] 123)
        have hxs : SrS w2.heap.size none q (w2.alloc (.cells #[.pointer none, .pointer q] 123)) := hnew _ _
        obtain ⟨x0, x1⟩ := hxs.cells
        have F := Lib.hid (And.intro (hcn.keep hal) (And.intro (hdm.skip HO.out hlt hl) (bcall hb (Nat.le_refl _) hal)))
        clear hal hxs hcn hdm hb hq hl
        go_wp2_with fail
        exact ⟨⟨i + 1, D, hlt, by first | rw [hw3] | rw [Int.natCast_succ], F.out⟩, by first | (rw [hw3]; exact mSucc hlt) | (rw [← Int.natCast_succ]; exact mSucc hlt)⟩
      | some r =>
        have hp0 := hp
        rw [hl] at hp0
        obtain ⟨b, br, rfl, htk⟩ := hp0.two
        have hal := (Below.refl w2.heap.size w2).alloc (Nat.le_refl _) (.cells #[.pointer (some ⟨b, 0, none⟩), .pointer q] 123)
        have hxs : SrS w2.heap.size (some ⟨b, 0, none⟩) q (w2.alloc (.cells #[.pointer (some ⟨b, 0, none⟩), .pointer q] 123)) := hnew _ _
        have hb2 := bcall hb (Nat.le_refl _) hal
        obtain ⟨x0, x1⟩ := hxs.cells
        have htk2 := htk.keep hb2
        obtain ⟨y0, y1, y2⟩ := htk2.cells
        obtain ⟨clk, es, k2, k3⟩ := htk.2.out
        have hrg := MR.run_range PN (k2.blk_iff PN (hb2.block _ htk.2.lt)) Try.underlying129
        have hal2 := (Below.refl (w2.alloc (.cells #[.pointer (some ⟨b, 0, none⟩), .pointer q] 123)).heap.size (w2.alloc (.cells #[.pointer (some ⟨b, 0, none⟩), .pointer q] 123))).alloc (Nat.le_refl _) (.mapIter (some br) clk #[] clk)
        have hit : ((w2.alloc (.cells #[.pointer (some ⟨b, 0, none⟩), .pointer q] 123)).alloc (.mapIter (some br) clk #[] clk)).heap[w2.heap.size + 1]? = some (.mapIter (some br) clk #[] clk) := hnewAt (by simp)
        have F := Lib.hid (And.intro ((hcn.keep hal).keep hal2) (And.intro hdm.enter (And.intro hit (And.intro (bcall hb2 (Nat.le_refl _) hal2) (And.intro (hxs.keep hal2) (show w2.heap.size + 1 + 1 ≤ ((w2.alloc (.cells #[.pointer (some ⟨b, 0, none⟩), .pointer q] 123)).alloc (.mapIter (some br) clk #[] clk)).heap.size from by simp))))))
        have HL := Lib.hid (And.intro k2 (And.intro k3 (And.intro hl (And.intro hp hq))))
        have HBR := Lib.hid (show br < w.heap.size ∧ w.heap.size ≤ w2.heap.size ∧ w.heap.size ≠ w2.heap.size + 1 ∧ w.heap.size < w2.heap.size from ⟨htk.2.lt, hb.size, by have := hcn.lt; omega, hcn.lt⟩)
        clear hal hxs hcn hdm hb hq hp hl hb2 htk htk2 k2 k3 hal2 hit hp0
        go_wp2_with fail
        clear x0 x1 y0 y1 y2 hrg
        go_loopw [6] (fun _ wr => ∃ (E : List Ct) (done : List (MR.Ent PK)) (seen : Array Nat), CntAt wr w.heap.size E ∧ DemIn X i (done.map (·.1)) E ∧ wr.heap[w2.heap.size + 1]? = some (.mapIter (some br) clk seen clk) ∧ MR.Ran es seen done ∧ Below w.heap.size w wr ∧ SrS w2.heap.size (some ⟨b, 0, none⟩) q wr ∧ w2.heap.size + 1 + 1 ≤ wr.heap.size) (fun _ wr => es.length - seenN wr (w2.heap.size + 1))
        case atStart => exact ⟨D, [], #[], F.out.1, F.out.2.1, F.out.2.2.1, MR.Ran.none _, F.out.2.2.2.1, F.out.2.2.2.2.1, F.out.2.2.2.2.2⟩
        case round =>
          obtain ⟨E, done, seen, hcn, hdi, hit, hran, hb, hss, hsz⟩ := hrel
          obtain ⟨w5, rfl⟩ : ∃ w5 : World, w5 = wr := ⟨_, rfl⟩
          have hm2 : MR.MapAt PN w5 br es clk := HL.out.1.blk_iff PN (hb.block _ HBR.out.1)
          obtain ⟨hdl, hsd⟩ := Ran_len hran HL.out.1.bnodup
          rcases MR.next_step PN hm2 hit 0 with ⟨hall, hnx⟩ | ⟨e, hein, hens, w6, hnx, hset⟩
          · have hK := ((hran.all HL.out.1.bnodup hall).map (·.1)).trans (lay_keys HL.out.2.1)
            have G := Lib.hid (And.intro hcn (And.intro (hdi.leave HO.out hlt HL.out.2.2.1 hK) hb))
            clear hcn hdi hit hran hb hss hsz hm2 hdl hsd hall hK
            go_wp2_with fail
            exact ⟨⟨i + 1, E, hlt, by first | rw [hw3] | rw [Int.natCast_succ], G.out⟩, by first | (rw [hw3]; exact mSucc hlt) | (rw [← Int.natCast_succ]; exact mSucc hlt)⟩
          · have hm3 := hm2.blk_iff PN (hset.other (show br ≠ w2.heap.size + 1 from by have := HBR.out; omega))
            have hen := MR.run_entry PN hm3 hein (hset.at hsz)
            have hent0 := HL.out.2.1.ent hein
            rw [hent0.2.1] at hnx hen
            have hnew1 := ran_new hran HL.out.1.nodup hein hens
            have hok := HL.out.1.ok e hein
            have hb3 : Below w.heap.size w w6 := hb.trans (hset.below (by have := HBR.out; omega))
            have hr3 := hran.more hein hens
            have hit3 := hset.at hsz
            have hs3 : w2.heap.size + 1 + 1 ≤ w6.heap.size := by rw [hset.size]; exact hsz
            have hms : seenN w5 (w2.heap.size + 1) = seen.size := seenN_of hit
            have hdl3 := (Ran_len hr3 HL.out.1.bnodup)
            have hmr := hdi.more HO.out hlt hcn.nd hnew1
            rw [show done.map (·.1) ++ [e.1] = (done ++ [e]).map (·.1) from by simp] at hmr
            have hcn3 := hcn.on (hset.other (show w.heap.size ≠ w2.heap.size + 1 from HBR.out.2.2.1))
            have hss3 : SrS w2.heap.size (some ⟨b, 0, none⟩) q w6 := (hset.other (Nat.ne_of_lt (Nat.lt_succ_self _))).trans hss
            have hke : PN.enc e.1 = .agg #[.int .u32 (e.1.1 : Int), .int .i64 e.1.2] := rfl
            rw [hke] at hnx hen
            have HG := Lib.hid (And.intro hmr (And.intro hr3 (And.intro hit3 (And.intro hdl3 hms))))
            have HW := Lib.hid (And.intro hb3 (And.intro hcn3 (And.intro hss3 hs3)))
            have HOK := Lib.hid hok
            generalize Kl.ofE Ct.p r.cs e = x at *
            unfold Ct.v at hnx hen
            obtain ⟨k, hk0⟩ : ∃ k, e.1 = k := ⟨_, rfl⟩
            have HE := Lib.hid hk0
            rw [hk0] at hen HG HOK
            clear hcn hdi hit hran hb hss hsz hm2 hdl hsd hm3 hens hein hent0 hnew1 hok hb3 hr3 hit3 hs3 hms hdl3 hmr hcn3 hss3 hset hke hk0
            go_wp2_with (with_reducible refine halt_store 58 rfl ?_)
            refine Halted.go ?_
            have hal := (Below.refl w6.heap.size w6).alloc (Nat.le_refl _) (.cells #[.int .u32 0, .int .i64 0] 58)
            refine store_whole rfl 58 _ _ rfl w6.heap.size #[.int .u32 (k.1 : Int), .int .i64 k.2] rfl rfl (hnew _ _) rfl (by kernel_rfl) (by simp [Value.oneCell']) ?_
            intro wz hwz hsz
            have hzb : Below w6.heap.size w6 wz := Below.trans hal (hsz.below (Nat.le_refl _))
            have HZ := Lib.hid (And.intro (show DmC w6.heap.size w2.heap.size w.heap.size k (some ⟨b, 0, none⟩) q E wz from ⟨hwz, HW.out.2.2.1.keep hzb, HW.out.2.1.keep hzb⟩) (And.intro (bcall HW.out.1 (Nat.le_refl _) hzb) (And.intro ((hzb.block _ HW.out.2.2.2).trans HG.out.2.2.1) (Nat.le_trans HW.out.2.2.2 hzb.size))))
            have HC := Lib.hid (fun w' (hw' : DmC w6.heap.size w2.heap.size w.heap.size k (some ⟨b, 0, none⟩) q E w') => hw'.facts HOK.out)
            clear hwz hsz hal hzb HW
            generalize w6.heap.size = q3 at *
            go_wp2_with fail
            refine wp_region_T 9 (DmC q3 w2.heap.size w.heap.size k (some ⟨b, 0, none⟩) q E) (by kernel_rfl) ?_
            have hd := (Below.refl wz.heap.size wz).drew
            have HR := Lib.hid (rate_any ((HL.out.2.2.2.1.keep HZ.out.2.1).keep hd) ((HL.out.2.2.2.2.keep HZ.out.2.1).keep hd) (HO.out i hlt) HOK.out)
            have HZ2 := Lib.hid (And.intro (HZ.out.1.keep hd) (And.intro (bcall HZ.out.2.1 (Nat.le_refl _) hd) (And.intro (show wz.drew.heap[w2.heap.size + 1]? = _ from HZ.out.2.2.1) (show w2.heap.size + 1 + 1 ≤ wz.drew.heap.size from HZ.out.2.2.2))))
            have HA := Lib.hid (add_any (cnt E k) (rateS (X i) k))
            clear hd HZ
            generalize wz.drew = V at *
            generalize rateS (X i) k = rv at *
            refine T_reads [0, 1, 2, 3, 4, 5, 6] (g := 3) rfl (by kernel_rfl) HZ2.out.1 (fun _ _ d _ _ h => by cases d <;> exact h) ?_
            simp only [pick, List.getD_cons_zero, List.getD_cons_succ]
            ((with_reducible refine wpRead_step (fun K hK => ?_)); go_simp; first | ((with_reducible refine hK _ ?_); clear hK K) | (apply Exists.intro; (with_reducible refine ⟨fun w' hw' => ?_, hK _ ?_⟩); (first | exact rfl | exact ⟨rfl, rfl⟩); clear hK K))
            ((with_reducible refine wpRead_step (fun K hK => ?_)); go_simp; first | ((with_reducible refine hK _ ?_); clear hK K) | (apply Exists.intro; (with_reducible refine ⟨fun w' hw' => ?_, hK _ ?_⟩); (obtain ⟨⟨f0, f1⟩, ⟨f2, f3⟩, l0⟩ := HC.out w' hw'; go_simp; first | exact rfl | exact ⟨rfl, rfl⟩); clear hK K))
            ((with_reducible refine wpRead_step (fun K hK => ?_)); go_simp; first | ((with_reducible refine hK _ ?_); clear hK K) | (apply Exists.intro; (with_reducible refine ⟨fun w' hw' => ?_, hK _ ?_⟩); (first | exact rfl | exact ⟨rfl, rfl⟩); clear hK K))
            ((with_reducible refine wpRead_step (fun K hK => ?_)); go_simp; first | ((with_reducible refine hK _ ?_); clear hK K) | (apply Exists.intro; (with_reducible refine ⟨fun w' hw' => ?_, hK _ ?_⟩); (obtain ⟨⟨f0, f1⟩, ⟨f2, f3⟩, l0⟩ := HC.out w' hw'; go_simp; first | exact rfl | exact ⟨rfl, rfl⟩); clear hK K))
            ((with_reducible refine wpRead_step (fun K hK => ?_)); go_simp; first | ((with_reducible refine hK _ ?_); clear hK K) | (apply Exists.intro; (with_reducible refine ⟨fun w' hw' => ?_, hK _ ?_⟩); (obtain ⟨⟨f0, f1⟩, ⟨f2, f3⟩, l0⟩ := HC.out w' hw'; go_simp; first | exact rfl | exact ⟨rfl, rfl⟩); clear hK K))
            ((with_reducible refine wpRead_step (fun K hK => ?_)); go_simp; first | ((with_reducible refine hK _ ?_); clear hK K) | (apply Exists.intro; (with_reducible refine ⟨fun w' hw' => ?_, hK _ ?_⟩); (obtain ⟨⟨f0, f1⟩, ⟨f2, f3⟩, l0⟩ := HC.out w' hw'; go_simp; first | exact rfl | exact ⟨rfl, rfl⟩); clear hK K))
            ((with_reducible refine wpRead_step (fun K hK => ?_)); go_simp; first | ((with_reducible refine hK _ ?_); clear hK K) | (apply Exists.intro; (with_reducible refine ⟨fun w' hw' => ?_, hK _ ?_⟩); (obtain ⟨⟨f0, f1⟩, ⟨f2, f3⟩, l0⟩ := HC.out w' hw'; go_simp; first | exact rfl | exact ⟨rfl, rfl⟩); clear hK K))
            with_reducible refine wpRead_nil ?_
            refine T_one 7 (by kernel_rfl) ?_
            simp only [pick, List.getD_cons_zero, List.getD_cons_succ]
            go_wp2_with fail
            refine HR.out.mono ?_
            rintro ev V2 ⟨rfl, hb⟩
            have HZ3 := Lib.hid (And.intro (HZ2.out.1.keep hb) (And.intro (bcall HZ2.out.2.1 (Nat.le_refl _) hb) (And.intro ((hb.block _ HZ2.out.2.2.2).trans HZ2.out.2.2.1) (Nat.le_trans HZ2.out.2.2.2 hb.size))))
            clear hb HR HZ2
            go_wp2_with fail
            refine ⟨fun _ => HZ3.out.1, ?_⟩
            refine T_one 8 (by kernel_rfl) ?_
            simp only [pick, List.getD_cons_zero, List.getD_cons_succ]
            go_wp2_with fail
            refine (HA.out _).mono ?_
            rintro ev V3 ⟨rfl, hw⟩
            subst hw
            go_wp2_with fail
            refine ⟨fun _ => HZ3.out.1, ?_⟩
            obtain ⟨O, hup, htab⟩ := HZ3.out.1.all.update HOK.out (addI (cnt E k) rv)
            have HZ4 := Lib.hid (And.intro htab (And.intro (below_put HZ3.out.2.1 (Nat.le_refl _) O) (And.intro ((setBlock_other (W := V3) (b := w.heap.size) (o := O) (Ne.symm HBR.out.2.2.1)).trans HZ3.out.2.2.1) (And.intro (show SrS w2.heap.size (some ⟨b, 0, none⟩) q (setBlock V3 w.heap.size O) from (setBlock_other (Nat.ne_of_gt HBR.out.2.2.2)).trans HZ3.out.1.src) (show w2.heap.size + 1 + 1 ≤ (setBlock V3 w.heap.size O).heap.size from by rw [size_setBlock]; exact HZ3.out.2.2.2)))))
            clear htab
            generalize addI (cnt E k) rv = av at *
            refine T_one 9 (by kernel_rfl) ?_
            simp only [pick, List.getD_cons_zero, List.getD_cons_succ]
            go_wp2_with fail
            refine ⟨fun h => absurd rfl h, ?_⟩
            refine T_done (by kernel_rfl) ?_ _
            go_wp2_with fail
            obtain ⟨g1, g2, g3, g4, g5⟩ := HG.out
            refine ⟨⟨_, done ++ [e], seen.push e.2.2, HZ4.out.1, g1, HZ4.out.2.2.1, g2, HZ4.out.2.1, HZ4.out.2.2.2.1, HZ4.out.2.2.2.2⟩, ?_⟩
            have h5 : seenN (setBlock V3 w.heap.size O) (w2.heap.size + 1) = (seen.push e.2.2).size := seenN_of HZ4.out.2.2.1
            have h6 := g4.2
            have h7 := g4.1
            rw [h5, g5]
            rw [Array.size_push] at h6 ⊢
            omega
    · obtain rfl : 16 = i := by omega
      have hdm16 := hdm
      have hnd := hcn.nd
      obtain ⟨clk, es, k2, k3⟩ := hcn.out
      have hrg := MR.run_range PN k2 Try.underlying129
      have hal := (Below.refl w2.heap.size w2).alloc (Nat.le_refl _) (.mapIter (some w.heap.size) clk #[] clk)
      have hit : (w2.alloc (.mapIter (some w.heap.size) clk #[] clk)).heap[w2.heap.size]? = some (.mapIter (some w.heap.size) clk #[] clk) := hnew _ _
      have HF := Lib.hid (And.intro k2 (And.intro k3 (And.intro hcn.lt (And.intro hdm16 hnd))))
      have HLE := Lib.hid (show es.length ≤ 4611686 from by rw [k3.len]; exact Nat.le_trans hdm.len (by decide))
      have HW := Lib.hid (And.intro (bcall hb (Nat.le_refl _) hal) hit)
      have HB2 := Lib.hid hb
      clear k2 k3 hal hit hcn hdm hdm16 hb hnd
      go_wp2_with fail
      go_loopw [7] (fun ov wr => ∃ (done : List (MR.Ent PK)) (seen : Array Nat), RCt.Own wr (w2.heap.size + 1) ov ((done.map (Kl.ofE Ct.p D)).filter posC) ∧ wr.heap[w2.heap.size]? = some (.mapIter (some w.heap.size) clk seen clk) ∧ MR.Ran es seen done ∧ Below w2.heap.size w2 wr ∧ w2.heap.size + 1 ≤ wr.heap.size) (fun _ wr => es.length - seenN wr w2.heap.size)
      case atStart => exact ⟨[], #[], Rep.Own.nil _ _, HW.out.2, MR.Ran.none _, (Below.refl _ _).alloc (Nat.le_refl _) _, by simp⟩
      case round =>
        obtain ⟨done, seen, hown, hit, hran, hb, hsz⟩ := hrel
        obtain ⟨w5, rfl⟩ : ∃ w5 : World, w5 = wr := ⟨_, rfl⟩
        have hm2 : MR.MapAt PN w5 w.heap.size es clk := HF.out.1.blk_iff PN (hb.block _ HF.out.2.2.1)
        obtain ⟨hdl, hsd⟩ := Ran_len hran HF.out.1.bnodup
        rcases MR.next_step PN hm2 hit 0 with ⟨hall, hnx⟩ | ⟨e, hein, hens, w6, hnx, hset⟩
        · have hpe := ((hran.all HF.out.1.bnodup hall).map (Kl.ofE Ct.p D)).trans HF.out.2.1.perm
          have hpf := hpe.filter posC
          obtain ⟨oa, cc, rfl, -, -⟩ := hown.sl0
          have hln : ((done.map (Kl.ofE Ct.p D)).filter posC).length < 4611686018427387904 := by
            have h1 := List.length_filter_le posC (done.map (Kl.ofE Ct.p D))
            rw [List.length_map] at h1
            have := HLE.out
            omega
          have HS := Lib.hid (Rep.sort_own (R := RCt) sortCt Try.isAgg128 Try.sizeOf128 cmpC swoC 82 #[] enters_cl hown (fun g => cmpC_lays g _ _) hln hsz)
          have G := Lib.hid (And.intro hpf hb)
          generalize ((done.map (Kl.ofE Ct.p D)).filter posC).length = mm at *
          clear hown hm2 hit hran hb hdl hsd hall hpe hpf hln
          go_wp2_with fail
          refine HS.out.mono ?_
          rintro ev w9 ⟨rfl, M, hp, hs, hown9, hb9⟩
          have HE := Lib.hid (show DemsR w w9 X (.slice oa mm cc) M from ⟨hown9.mono (by have := HB2.out.size; omega), dem_sorted HO.out HF.out.2.2.2.1 HF.out.2.2.2.2 (hp.trans G.out.1) hs, bcall HB2.out (Nat.le_refl _) (G.out.2.trans (hb9.mono (Nat.le_succ _)))⟩)
          clear hp hs hown9 hb9 HS G
          go_wp2_with fail
          go_ret
          exact ⟨_, M, rfl, HE.out⟩
        · have hm3 := hm2.blk_iff PN (hset.other (show w.heap.size ≠ w2.heap.size from by have := HF.out.2.2.1; omega))
          have hen := MR.run_entry PN hm3 hein (hset.at hsz)
          have hent0 := HF.out.2.1.ent hein
          rw [hent0.2.1] at hnx hen
          have hown3 := Rep.Own.but hown (But.of_set hset (bs := [w2.heap.size]) (by simp)) (by simp)
          have hb3 : Below w2.heap.size w2 w6 := hb.trans (hset.below (Nat.le_refl _))
          have hr3 := hran.more hein hens
          have hit3 := hset.at hsz
          have hs3 : w2.heap.size + 1 ≤ w6.heap.size := by rw [hset.size]; exact hsz
          have hms : seenN w5 w2.heap.size = seen.size := seenN_of hit
          have hdl3 := (Ran_len hr3 HF.out.1.bnodup)
          have hme : ((done ++ [e]).map (Kl.ofE Ct.p D)).filter posC = if posC (Kl.ofE Ct.p D e) then (done.map (Kl.ofE Ct.p D)).filter posC ++ [Kl.ofE Ct.p D e] else (done.map (Kl.ofE Ct.p D)).filter posC := by
            rw [List.map_append]
            exact filter_snoc posC (done.map (Kl.ofE Ct.p D)) (Kl.ofE Ct.p D e)
          have hln : ((done.map (Kl.ofE Ct.p D)).filter posC).length ≤ done.length := by
            have h1 := List.length_filter_le posC (done.map (Kl.ofE Ct.p D))
            rw [List.length_map] at h1
            exact h1
          have hke : PN.enc e.1 = .agg #[.int .u32 ((Kl.ofE Ct.p D e).p.1 : Int), .int .i64 (Kl.ofE Ct.p D e).p.2] := by rw [hent0.2.2.1]; rfl
          rw [hke] at hnx hen
          obtain ⟨oa, cc, rfl, -, -⟩ := hown.sl0
          obtain ⟨n, hn⟩ : ∃ n, ((done.map (Kl.ofE Ct.p D)).filter posC).length = n := ⟨_, rfl⟩
          have HN := Lib.hid hn
          rw [hn] at hown3 hln ⊢
          have HG := Lib.hid (And.intro hown3 (And.intro hr3 (And.intro hb3 (And.intro hs3 (And.intro hit3 (And.intro hme (And.intro hdl3 (And.intro hln hms))))))))
          generalize Kl.ofE Ct.p D e = x at *
          unfold Ct.v at hnx hen
          clear hown hran hb hdl hsd hm2 hit hm3 hset hens hown3 hr3 hb3 hs3 hit3 hme hdl3 hln hein hent0 hms hn hke hrg
          go_wp2_with (with_reducible refine halt_store 58 rfl ?_)
          refine Halted.go ?_
          have hal := (Below.refl w6.heap.size w6).alloc (Nat.le_refl _) (.cells #[.int .u32 0, .int .i64 0] 58)
          refine store_whole rfl 58 _ _ rfl w6.heap.size #[.int .u32 (x.p.1 : Int), .int .i64 x.p.2] rfl rfl (hnew _ _) rfl (by kernel_rfl) (by simp [Value.oneCell']) ?_
          intro wz hwz hsz
          have hzb : Below w6.heap.size w6 wz := Below.trans hal (hsz.below (Nat.le_refl _))
          obtain ⟨z0, z1⟩ := BxP.cells (k := x.p) hwz
          have HZ := Lib.hid (And.intro (HG.out.1.below hzb) (And.intro (show BxP w6.heap.size x.p wz from hwz) (And.intro (hzb.mono HG.out.2.2.2.1) (Nat.le_trans HG.out.2.2.2.1 hzb.size))))
          clear hwz hsz hal hzb
          generalize w6.heap.size = q3 at *
          by_cases hpx : 0 < x.n
          · have hpt : (0 < x.n) = True := by simp [hpx]
            have HPX := Lib.hid (show posC x = true from by simp [posC, hpx])
            clear hpx
            go_wp2_with (at_builtin; refine halt ?_)
            refine Halted.go ?_
            have hn2 : n ≤ 4611686 := by
              have h1 := HG.out.2.2.2.2.2.2.2.1
              have h2 := HG.out.2.2.2.2.2.2.1.1
              have h3 := HLE.out
              have h4 := HN.out
              rw [List.length_append] at h2
              omega
            have hal := (Below.refl wz.heap.size wz).alloc (Nat.le_refl _) (.cells #[.int .u32 (x.p.1 : Int), .int .i64 x.p.2, .int .i64 x.n] 128)
            refine Rep.append_one T80 rfl _ _ rfl rfl (HZ.out.1.below hal) x _ 1 rfl (hnewAt (by simp)) (n := n) HN.out (by unfold maxLen; omega) (by show (n + 1) * 24 ≤ _; omega) (Nat.le_trans HZ.out.2.2.2 hal.size) ?_
            intro v6 w7 hown6 hb6 _
            obtain ⟨o6, c6, rfl, -, -⟩ := hown6.sl0
            obtain ⟨k1, hk1⟩ : ∃ k1, ((done.map (Kl.ofE Ct.p D)).filter posC ++ [x]).length = k1 := ⟨_, rfl⟩
            rw [hk1] at hown6 ⊢
            clear hk1
            have hbz : Below (w2.heap.size + 1) w6 w7 := HZ.out.2.2.1.trans ((hal.mono HZ.out.2.2.2).trans hb6)
            have HK := Lib.hid (And.intro hown6 (And.intro hbz (Nat.le_trans HZ.out.2.2.2 (Nat.le_trans hal.size hb6.size))))
            clear hown6 hb6 hbz hal hn2
            go_wp2_with fail
            obtain ⟨g1, g2, g3, g4, g5, g6, g7, g8, g9⟩ := HG.out
            rw [HPX.out, if_pos rfl] at g6
            refine ⟨⟨_, _, _, _, _, _, _, _, _, _, _, _, _, _, _, _, ⟨done ++ [e], seen.push e.2.2, ?_, (HK.out.2.1.block _ (Nat.lt_succ_self _)).trans g5, g2, g3.trans (HK.out.2.1.mono (Nat.le_succ _)), HK.out.2.2⟩, rfl⟩, ?_⟩
            · rw [g6]; exact HK.out.1
            · have h5 : seenN w7 w2.heap.size = (seen.push e.2.2).size := seenN_of ((HK.out.2.1.block _ (Nat.lt_succ_self _)).trans g5)
              have h6 := g7.2
              have h7 := g7.1
              rw [h5, g9]
              rw [Array.size_push] at h6 ⊢
              omega
          · have hpt : (0 < x.n) = False := by simp; omega
            have HPX := Lib.hid (show posC x = false from by simp [posC]; omega)
            clear hpx
            go_wp2_with fail
            obtain ⟨g1, g2, g3, g4, g5, g6, g7, g8, g9⟩ := HG.out
            rw [HPX.out, if_neg (by simp)] at g6
            refine ⟨⟨_, _, _, _, _, _, _, _, _, _, _, _, _, _, _, _, ⟨done ++ [e], seen.push e.2.2, ?_, (HZ.out.2.2.1.block _ (Nat.lt_succ_self _)).trans g5, g2, g3.trans (HZ.out.2.2.1.mono (Nat.le_succ _)), HZ.out.2.2.2⟩, rfl⟩, ?_⟩
            · rw [g6]; exact HZ.out.1
            · have h5 : seenN wz w2.heap.size = (seen.push e.2.2).size := seenN_of ((HZ.out.2.2.1.block _ (Nat.lt_succ_self _)).trans g5)
              have h6 := g7.2
              have h7 := g7.1
              rw [h5, g9]
              rw [Array.size_push] at h6 ⊢
              omega
end Go.Proofs.Ytfmehahjjgalfaa.Me
