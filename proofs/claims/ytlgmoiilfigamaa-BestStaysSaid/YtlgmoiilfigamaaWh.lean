/- meds: the walk. -/
import Derived.Test.YtlgmoiilfigamaaWg
import Derived.Carry
namespace Go.Proofs.Ytlgmoiilfigamaa
open Go.RowKit Go.Maps

/-- what the map holds behind some candidates -/
structure MSt (w wx : World) (L' : List Cd) : Prop where
  but : But w wx []
  fb : wx.heap[w.heap.size + 1]? = some (.cells #[.map (some w.heap.size)] 62 (0, 0))
  map : ∃ l clock, MR.MapAt KI wx w.heap.size l clock ∧ ∀ a, MR.get? l a = (mm a L').map (.int .i64 ·)

set_option maxHeartbeats 2000000 in
theorem meds (b cap : Nat) (L : List Cd) (cur : Array Value) (w : World) (B : Nat) (hB : B ≤ b) (hBw : B ≤ w.heap.size) (hr : RowC w b cap L cur) (hok : AllOk w B L) :
    Calls Try.prog 35 #[.slice (some ⟨b, 0, none⟩) L.length cap] w fun e w' => e = .returned (.slice (some ⟨b, 0, none⟩) (medsOf L).length cap) ∧ (∃ cur', RowC w' b cap (medsOf L) cur') ∧ But w w' [b] := by
  obtain ⟨n, hn⟩ : ∃ n, n = L.length := ⟨_, rfl⟩
  rw [← hn]
  have hm : n ≤ 9223372036854775807 := by have h1 := hr.le; have h2 := hr.max; unfold maxLen at h2; omega
  have lb := lt_of_blk hr.blk
  have HD := Lib.hid (And.intro hr (And.intro hok hn))
  clear hr hok hn
  have hmm := @run_makeMap Try.prog
  go_enter Try.func35, Try.ntmps35
  go_wp2_with fail
  go_loopw [12] (fun i wr => ∃ k : Nat, k ≤ n ∧ i = .int .i64 k ∧ MSt w wr (L.take k)) (fun i _ => n - (intOf i).toNat)
  case atStart =>
    refine ⟨0, Nat.zero_le _, rfl, ?_⟩
    refine ⟨((But.refl w []).alloc _).alloc _, hnewAt (by simp), [], 0, MR.mapAt_made KI (hold (hnew _ _)), ?_⟩
    intro a; rfl
  case round =>
    obtain ⟨k, hk, rfl, hF⟩ := hrel
    obtain ⟨hr, hok, hn⟩ := HD.out
    by_cases hlt : k < n
    · have hrw := hr.keep (hF.but.block b lb (by simp))
      obtain ⟨c0, c1, c2, c3, c4, c5, c6, c7, c8, c9, c10⟩ := hrw.at (i := k) (by omega)
      have hmem : L.getD k default ∈ L := by rw [List.getD_eq_getElem?_getD, List.getElem?_eq_getElem (by omega : k < L.length)]; exact List.getElem_mem _
      have hmt := fun a => mm_take a L k (by omega)
      generalize hq : L.getD k default = q at *
      obtain ⟨y, my⟩ := q
      dsimp only at c0 c1 c2 c3 c4 c5 c6 c7 c8 c9 c10
      have hy := (hok _ hmem).1
      dsimp only at hy
      have HF1 := Lib.hid (fun w' (h : But w w' []) => first_any y w' B (Nat.le_trans hBw h.size) (hy.below (h.below hBw (by simp))))
      have HM1 := Lib.hid (fun w' => med_any y w')
      obtain ⟨l, clock, hM, hget⟩ := hF.map
      have hB0 := hF.but
      have hfb := hF.fb
      have hki : KI.ok (pfirst y.path) := hy.fr
      have lm := lt_of_blk hM.blk
      have lf := lt_of_blk hfb
      have hMq := fun (w' : World) (h : Below (wr.heap.size + 1) (wr.alloc (.cells #[.int .i64 y.r, .int .u32 y.a, .int .i64 y.l, .int .i64 y.i, .int .i64 y.o, .slice y.pa y.pn y.pc, .int .u32 y.nx, .int .i64 y.md, .int .i64 y.pf, .slice y.ca y.cn y.cc, .int .i64 my] 50)) w') => hM.blk_iff KI ((h.block w.heap.size (by omega)).trans (hold (w := wr) (o := (.cells #[.int .i64 y.r, .int .u32 y.a, .int .i64 y.l, .int .i64 y.i, .int .i64 y.o, .slice y.pa y.pn y.pc, .int .u32 y.nx, .int .i64 y.md, .int .i64 y.pf, .slice y.ca y.cn y.cc, .int .i64 my] 50)) hM.blk |>.trans hM.blk.symm))
      have hlk := fun (w' : World) (h : Below (wr.heap.size + 1) (wr.alloc (.cells #[.int .i64 y.r, .int .u32 y.a, .int .i64 y.l, .int .i64 y.i, .int .i64 y.o, .slice y.pa y.pn y.pc, .int .u32 y.nx, .int .i64 y.md, .int .i64 y.pf, .slice y.ca y.cn y.cc, .int .i64 my] 50)) w') => MR.run_lookup KI (hMq w' h) hki Try.underlying62 zero3 true
      rw [hget] at hlk
      have hCM : ∀ w', Below (wr.heap.size + 1) (wr.alloc (.cells #[.int .i64 y.r, .int .u32 y.a, .int .i64 y.l, .int .i64 y.i, .int .i64 y.o, .slice y.pa y.pn y.pc, .int .u32 y.nx, .int .i64 y.md, .int .i64 y.pf, .slice y.ca y.cn y.cc, .int .i64 my] 50)) w' → w'.cell? ⟨w.heap.size + 1, 0, none⟩ = some (.map (some w.heap.size)) := fun w' h => (h.cell (p := ⟨w.heap.size + 1, 0, none⟩) (by dsimp only; omega)).trans (cell_hold (cell_of hfb rfl) _)
      have hCE0 : ∀ w', Below (wr.heap.size + 1) (wr.alloc (.cells #[.int .i64 y.r, .int .u32 y.a, .int .i64 y.l, .int .i64 y.i, .int .i64 y.o, .slice y.pa y.pn y.pc, .int .u32 y.nx, .int .i64 y.md, .int .i64 y.pf, .slice y.ca y.cn y.cc, .int .i64 my] 50)) w' → w'.cell? ⟨wr.heap.size, 0, none⟩ = some (.int .i64 y.r) := fun w' h => (h.cell (p := ⟨wr.heap.size, 0, none⟩) (by dsimp only; omega)).trans (cell_of (hnew _ _) rfl)
      have hCE1 : ∀ w', Below (wr.heap.size + 1) (wr.alloc (.cells #[.int .i64 y.r, .int .u32 y.a, .int .i64 y.l, .int .i64 y.i, .int .i64 y.o, .slice y.pa y.pn y.pc, .int .u32 y.nx, .int .i64 y.md, .int .i64 y.pf, .slice y.ca y.cn y.cc, .int .i64 my] 50)) w' → w'.cell? ⟨wr.heap.size, 1, none⟩ = some (.int .u32 y.a) := fun w' h => (h.cell (p := ⟨wr.heap.size, 1, none⟩) (by dsimp only; omega)).trans (cell_of (hnew _ _) rfl)
      have hCE2 : ∀ w', Below (wr.heap.size + 1) (wr.alloc (.cells #[.int .i64 y.r, .int .u32 y.a, .int .i64 y.l, .int .i64 y.i, .int .i64 y.o, .slice y.pa y.pn y.pc, .int .u32 y.nx, .int .i64 y.md, .int .i64 y.pf, .slice y.ca y.cn y.cc, .int .i64 my] 50)) w' → w'.cell? ⟨wr.heap.size, 2, none⟩ = some (.int .i64 y.l) := fun w' h => (h.cell (p := ⟨wr.heap.size, 2, none⟩) (by dsimp only; omega)).trans (cell_of (hnew _ _) rfl)
      have hCE3 : ∀ w', Below (wr.heap.size + 1) (wr.alloc (.cells #[.int .i64 y.r, .int .u32 y.a, .int .i64 y.l, .int .i64 y.i, .int .i64 y.o, .slice y.pa y.pn y.pc, .int .u32 y.nx, .int .i64 y.md, .int .i64 y.pf, .slice y.ca y.cn y.cc, .int .i64 my] 50)) w' → w'.cell? ⟨wr.heap.size, 3, none⟩ = some (.int .i64 y.i) := fun w' h => (h.cell (p := ⟨wr.heap.size, 3, none⟩) (by dsimp only; omega)).trans (cell_of (hnew _ _) rfl)
      have hCE4 : ∀ w', Below (wr.heap.size + 1) (wr.alloc (.cells #[.int .i64 y.r, .int .u32 y.a, .int .i64 y.l, .int .i64 y.i, .int .i64 y.o, .slice y.pa y.pn y.pc, .int .u32 y.nx, .int .i64 y.md, .int .i64 y.pf, .slice y.ca y.cn y.cc, .int .i64 my] 50)) w' → w'.cell? ⟨wr.heap.size, 4, none⟩ = some (.int .i64 y.o) := fun w' h => (h.cell (p := ⟨wr.heap.size, 4, none⟩) (by dsimp only; omega)).trans (cell_of (hnew _ _) rfl)
      have hCE5 : ∀ w', Below (wr.heap.size + 1) (wr.alloc (.cells #[.int .i64 y.r, .int .u32 y.a, .int .i64 y.l, .int .i64 y.i, .int .i64 y.o, .slice y.pa y.pn y.pc, .int .u32 y.nx, .int .i64 y.md, .int .i64 y.pf, .slice y.ca y.cn y.cc, .int .i64 my] 50)) w' → w'.cell? ⟨wr.heap.size, 5, none⟩ = some (.slice y.pa y.pn y.pc) := fun w' h => (h.cell (p := ⟨wr.heap.size, 5, none⟩) (by dsimp only; omega)).trans (cell_of (hnew _ _) rfl)
      have hCE6 : ∀ w', Below (wr.heap.size + 1) (wr.alloc (.cells #[.int .i64 y.r, .int .u32 y.a, .int .i64 y.l, .int .i64 y.i, .int .i64 y.o, .slice y.pa y.pn y.pc, .int .u32 y.nx, .int .i64 y.md, .int .i64 y.pf, .slice y.ca y.cn y.cc, .int .i64 my] 50)) w' → w'.cell? ⟨wr.heap.size, 6, none⟩ = some (.int .u32 y.nx) := fun w' h => (h.cell (p := ⟨wr.heap.size, 6, none⟩) (by dsimp only; omega)).trans (cell_of (hnew _ _) rfl)
      have hCE7 : ∀ w', Below (wr.heap.size + 1) (wr.alloc (.cells #[.int .i64 y.r, .int .u32 y.a, .int .i64 y.l, .int .i64 y.i, .int .i64 y.o, .slice y.pa y.pn y.pc, .int .u32 y.nx, .int .i64 y.md, .int .i64 y.pf, .slice y.ca y.cn y.cc, .int .i64 my] 50)) w' → w'.cell? ⟨wr.heap.size, 7, none⟩ = some (.int .i64 y.md) := fun w' h => (h.cell (p := ⟨wr.heap.size, 7, none⟩) (by dsimp only; omega)).trans (cell_of (hnew _ _) rfl)
      have hCE8 : ∀ w', Below (wr.heap.size + 1) (wr.alloc (.cells #[.int .i64 y.r, .int .u32 y.a, .int .i64 y.l, .int .i64 y.i, .int .i64 y.o, .slice y.pa y.pn y.pc, .int .u32 y.nx, .int .i64 y.md, .int .i64 y.pf, .slice y.ca y.cn y.cc, .int .i64 my] 50)) w' → w'.cell? ⟨wr.heap.size, 8, none⟩ = some (.int .i64 y.pf) := fun w' h => (h.cell (p := ⟨wr.heap.size, 8, none⟩) (by dsimp only; omega)).trans (cell_of (hnew _ _) rfl)
      have hCE9 : ∀ w', Below (wr.heap.size + 1) (wr.alloc (.cells #[.int .i64 y.r, .int .u32 y.a, .int .i64 y.l, .int .i64 y.i, .int .i64 y.o, .slice y.pa y.pn y.pc, .int .u32 y.nx, .int .i64 y.md, .int .i64 y.pf, .slice y.ca y.cn y.cc, .int .i64 my] 50)) w' → w'.cell? ⟨wr.heap.size, 9, none⟩ = some (.slice y.ca y.cn y.cc) := fun w' h => (h.cell (p := ⟨wr.heap.size, 9, none⟩) (by dsimp only; omega)).trans (cell_of (hnew _ _) rfl)
      have hCE10 : ∀ w', Below (wr.heap.size + 1) (wr.alloc (.cells #[.int .i64 y.r, .int .u32 y.a, .int .i64 y.l, .int .i64 y.i, .int .i64 y.o, .slice y.pa y.pn y.pc, .int .u32 y.nx, .int .i64 y.md, .int .i64 y.pf, .slice y.ca y.cn y.cc, .int .i64 my] 50)) w' → w'.cell? ⟨wr.heap.size, 10, none⟩ = some (.int .i64 my) := fun w' h => (h.cell (p := ⟨wr.heap.size, 10, none⟩) (by dsimp only; omega)).trans (cell_of (hnew _ _) rfl)
      have HQ := Lib.hid (And.intro hmt (And.intro hget (And.intro hki (And.intro hMq (And.intro hB0 (And.intro hfb hn))))))
      clear hmt hget hki hMq hB0 hfb hn hy hmem hok hr hrw hq hF hM
      unfold Rt.attrs at HF1 HM1
      cases ho : mm (pfirst y.path) (L.take k) with
      | none =>
        rw [ho] at hlk
        simp only [KI, if_true, Option.map_none, Option.getD_none, Option.isSome_none] at hlk
        have HO := Lib.hid ho
        clear ho
        go_wp2_with fail
        refine (HF1.out _ (HQ.out.2.2.2.2.1.alloc _)).mono ?_
        rintro e w1 ⟨rfl, hb⟩
        simp only [World.size_alloc] at hb
        have hlk1 := hlk w1 hb
        have hCM1 := hCM w1 hb
        go_wp2_with fail
        refine wp_region_quiet_tail (fun w' => Below (wr.heap.size + 1) (wr.alloc (.cells #[.int .i64 y.r, .int .u32 y.a, .int .i64 y.l, .int .i64 y.i, .int .i64 y.o, .slice y.pa y.pn y.pc, .int .u32 y.nx, .int .i64 y.md, .int .i64 y.pf, .slice y.ca y.cn y.cc, .int .i64 my] 50)) w') 6 (by kernel_rfl) (by kernel_rfl) (by first | exact hb | exact hb.drew) ?_
        simp only [List.take_succ_cons, List.take_zero, List.drop_succ_cons, List.drop_zero]
        iterate 6 (refine wpQuiet_step (fun K hK => ?_); go_simp; first | (refine hK _ ?_; clear hK K) | (apply Exists.intro; refine ⟨fun w' hw' => ?_, hK _ ?_⟩; first | (go_simp; first | exact rfl | exact ⟨rfl, rfl⟩) | (go_at_call 40; refine (HM1.out _).mono ?_; rintro e w2 ⟨rfl, hb⟩; exact ⟨rfl, hw'.trans (hb.mono (by have := hw'.size; simp at this; exact this))⟩); clear hK K))
        refine wpQuiet_nil ?_
        intro wq hq
        have hMw := HQ.out.2.2.2.1 wq hq
        obtain ⟨u1, u2⟩ := MR.run_update KI hMw HQ.out.2.2.1 Try.underlying62 (.int .i64 (medOf y))
        have u3 : But w (Go.ChangeMaps.setBlock wq w.heap.size (.map (MR.ents KI.enc (MR.put l (pfirst y.path) (.int .i64 (medOf y)) clock)).toArray (MR.clock' l (pfirst y.path) clock))) [] := ((HQ.out.2.2.2.2.1.alloc _).trans (But.of_below (hq.mono (by simp)) [])).setBlock (.inl (Nat.le_refl _)) _
        have u4 : (Go.ChangeMaps.setBlock wq w.heap.size (.map (MR.ents KI.enc (MR.put l (pfirst y.path) (.int .i64 (medOf y)) clock)).toArray (MR.clock' l (pfirst y.path) clock))).heap[w.heap.size + 1]? = some (.cells #[.map (some w.heap.size)] 62 (0, 0)) := by
          simp only [Go.ChangeMaps.setBlock, Array.getElem?_setIfInBounds]
          rw [if_neg (by omega)]
          exact (hq.block _ (by omega)).trans (hold HQ.out.2.2.2.2.2.1)
        generalize Go.ChangeMaps.setBlock wq w.heap.size (.map (MR.ents KI.enc (MR.put l (pfirst y.path) (.int .i64 (medOf y)) clock)).toArray (MR.clock' l (pfirst y.path) clock)) = wz at u1 u2 u3 u4
        change (Instr.mapUpdate 62 (.map (some w.heap.size)) (.int .i64 (pfirst y.path)) (.int .i64 (medOf y))).run Try.prog wq = .ok () wz at u1
        have HU := Lib.hid (And.intro u2 (And.intro u3 u4))
        clear u2 u3 u4 hMw hlk hCM hCE0 hCE1 hCE2 hCE3 hCE4 hCE5 hCE6 hCE7 hCE8 hCE9 hCE10
        go_wp2_with fail
        go_roundw
        case rel =>
          obtain ⟨u2, u3, u4⟩ := HU.out
          obtain ⟨hmt, hget, -⟩ := HQ.out
          refine ⟨k + 1, by omega, by go_num, u3, u4, _, _, u2, ?_⟩
          intro a
          rw [hmt a, MR.get?_put, hget]
          unfold mmStep
          by_cases ha : a = pfirst y.path
          · subst ha
            rw [HO.out]
            simp
          · rw [if_neg ha, if_neg (fun h => ha h.symm)]
        case measure => simp [intOf]; omega
      | some nv =>
        rw [ho] at hlk
        simp only [KI, if_true, Option.map_some, Option.getD_some, Option.isSome_some] at hlk
        have HO := Lib.hid ho
        clear ho
        by_cases ht : medOf y < nv
        · have HT := Lib.hid ht
          go_wp2_with fail
          refine (HF1.out _ (HQ.out.2.2.2.2.1.alloc _)).mono ?_
          rintro e w1 ⟨rfl, hb⟩
          simp only [World.size_alloc] at hb
          have hlk1 := hlk w1 hb
          have hCM1 := hCM w1 hb
          have e4 := hCE4 w1 hb
          have e5 := hCE5 w1 hb
          have e6 := hCE6 w1 hb
          have e7 := hCE7 w1 hb
          have e8 := hCE8 w1 hb
          have e9 := hCE9 w1 hb
          go_wp2_with fail
          refine (HM1.out _).mono ?_
          rintro e w2 ⟨rfl, hb2⟩
          have hbb := hb.trans (hb2.mono (by have := hb.size; simpa using this))
          clear hb hb2 e4 e5 e6 e7 e8 e9 hlk1 hCM1
          have hb := hbb
          clear hbb
          go_wp2_with fail
          refine wp_region_quiet_tail (fun w' => Below (wr.heap.size + 1) (wr.alloc (.cells #[.int .i64 y.r, .int .u32 y.a, .int .i64 y.l, .int .i64 y.i, .int .i64 y.o, .slice y.pa y.pn y.pc, .int .u32 y.nx, .int .i64 y.md, .int .i64 y.pf, .slice y.ca y.cn y.cc, .int .i64 my] 50)) w') 6 (by kernel_rfl) (by kernel_rfl) (by first | exact hb | exact hb.drew) ?_
          simp only [List.take_succ_cons, List.take_zero, List.drop_succ_cons, List.drop_zero]
          iterate 6 (refine wpQuiet_step (fun K hK => ?_); go_simp; first | (refine hK _ ?_; clear hK K) | (apply Exists.intro; refine ⟨fun w' hw' => ?_, hK _ ?_⟩; first | (go_simp; first | exact rfl | exact ⟨rfl, rfl⟩) | (go_at_call 40; refine (HM1.out _).mono ?_; rintro e w2 ⟨rfl, hb⟩; exact ⟨rfl, hw'.trans (hb.mono (by have := hw'.size; simp at this; exact this))⟩); clear hK K))
          refine wpQuiet_nil ?_
          intro wq hq
          have hMw := HQ.out.2.2.2.1 wq hq
          obtain ⟨u1, u2⟩ := MR.run_update KI hMw HQ.out.2.2.1 Try.underlying62 (.int .i64 (medOf y))
          have u3 : But w (Go.ChangeMaps.setBlock wq w.heap.size (.map (MR.ents KI.enc (MR.put l (pfirst y.path) (.int .i64 (medOf y)) clock)).toArray (MR.clock' l (pfirst y.path) clock))) [] := ((HQ.out.2.2.2.2.1.alloc _).trans (But.of_below (hq.mono (by simp)) [])).setBlock (.inl (Nat.le_refl _)) _
          have u4 : (Go.ChangeMaps.setBlock wq w.heap.size (.map (MR.ents KI.enc (MR.put l (pfirst y.path) (.int .i64 (medOf y)) clock)).toArray (MR.clock' l (pfirst y.path) clock))).heap[w.heap.size + 1]? = some (.cells #[.map (some w.heap.size)] 62 (0, 0)) := by
            simp only [Go.ChangeMaps.setBlock, Array.getElem?_setIfInBounds]
            rw [if_neg (by omega)]
            exact (hq.block _ (by omega)).trans (hold HQ.out.2.2.2.2.2.1)
          generalize Go.ChangeMaps.setBlock wq w.heap.size (.map (MR.ents KI.enc (MR.put l (pfirst y.path) (.int .i64 (medOf y)) clock)).toArray (MR.clock' l (pfirst y.path) clock)) = wz at u1 u2 u3 u4
          change (Instr.mapUpdate 62 (.map (some w.heap.size)) (.int .i64 (pfirst y.path)) (.int .i64 (medOf y))).run Try.prog wq = .ok () wz at u1
          have HU := Lib.hid (And.intro u2 (And.intro u3 u4))
          clear u2 u3 u4 hMw hlk hCM hCE0 hCE1 hCE2 hCE3 hCE4 hCE5 hCE6 hCE7 hCE8 hCE9 hCE10
          go_wp2_with fail
          go_roundw
          case rel =>
            obtain ⟨u2, u3, u4⟩ := HU.out
            obtain ⟨hmt, hget, -⟩ := HQ.out
            refine ⟨k + 1, by omega, by go_num, u3, u4, _, _, u2, ?_⟩
            intro a
            rw [hmt a, MR.get?_put, hget]
            unfold mmStep
            by_cases ha : a = pfirst y.path
            · subst ha
              rw [HO.out]
              simp [HT.out]
            · rw [if_neg ha, if_neg (fun h => ha h.symm)]
          case measure => simp [intOf]; omega
        · have HT := Lib.hid ht
          go_wp2_with fail
          refine (HF1.out _ (HQ.out.2.2.2.2.1.alloc _)).mono ?_
          rintro e w1 ⟨rfl, hb⟩
          simp only [World.size_alloc] at hb
          have hlk1 := hlk w1 hb
          have hCM1 := hCM w1 hb
          have e4 := hCE4 w1 hb
          have e5 := hCE5 w1 hb
          have e6 := hCE6 w1 hb
          have e7 := hCE7 w1 hb
          have e8 := hCE8 w1 hb
          have e9 := hCE9 w1 hb
          go_wp2_with fail
          refine (HM1.out _).mono ?_
          rintro e w2 ⟨rfl, hb2⟩
          have hbb := hb.trans (hb2.mono (by have := hb.size; simpa using this))
          clear hb hb2 e4 e5 e6 e7 e8 e9 hlk1 hCM1
          have hb := hbb
          clear hbb
          go_wp2_with fail
          have hMw := HQ.out.2.2.2.1 w2 hb
          have u3 : But w w2 [] := (HQ.out.2.2.2.2.1.alloc _).trans (But.of_below (hb.mono (by simp)) [])
          have u4 : w2.heap[w.heap.size + 1]? = some (.cells #[.map (some w.heap.size)] 62 (0, 0)) := (hb.block _ (by omega)).trans (hold HQ.out.2.2.2.2.2.1)
          go_roundw
          case rel =>
            obtain ⟨hmt, hget, -⟩ := HQ.out
            refine ⟨k + 1, by omega, by go_num, u3, u4, _, _, hMw, ?_⟩
            intro a
            rw [hmt a, hget]
            unfold mmStep
            by_cases ha : a = pfirst y.path
            · subst ha
              rw [HO.out]
              rw [if_pos rfl]
              dsimp only
              rw [if_neg (by have := HT.out; omega)]
            · rw [if_neg (fun h => ha h.symm)]
          case measure => simp [intOf]; omega
    · have hf : ¬ ((k : Int) < n) := by omega
      have hkn : k = n := by omega
      obtain ⟨l, clock, hM, hget⟩ := hF.map
      have hrw := hr.keep (hF.but.block b lb (by simp))
      have hdel := deletem (w.heap.size + 1) (fun c => medOf c.1 != (mm (pfirst c.1.path) L).getD 0) b cap L cur wr hrw (by
        intro w' hw' c hc
        have hb1 : Below B w w' := (hF.but.below hBw (by simp)).trans (hw'.below (Nat.le_trans hBw hF.but.size) (by simpa using hB))
        refine neqm c.1 c.2 _ (w.heap.size + 1) w.heap.size clock l w' B (Nat.le_trans hBw (Nat.le_trans hF.but.size hw'.size)) ((hok c hc).1.below hb1) ((hw'.block _ (lt_of_blk hF.fb) (by simp; omega)).trans hF.fb) (hM.blk_iff KI (hw'.block _ (lt_of_blk hM.blk) (by simp; omega))) ?_
        rw [hget, hkn, hn, List.take_length]
        cases mm (pfirst c.1.path) L <;> rfl)
      rw [← hn] at hdel
      have HDL := Lib.hid hdel
      have HFB := Lib.hid (And.intro hF.but hn)
      clear hdel hF hr hok hn hrw hM hget
      go_wp2_with fail
      refine (HDL.out).mono ?_
      rintro e w2 ⟨rfl, hrow, hbut⟩
      go_wp2_with fail
      go_ret
      obtain ⟨hb1, hn⟩ := HFB.out
      exact ⟨rfl, hrow, (hb1.mono (by simp)).trans hbut⟩
end Go.Proofs.Ytlgmoiilfigamaa
