/- The reference's Over. -/
import Derived.Test.YtfmehahjjgalfaaQap
import Derived.Test.YtfmehahjjgalfaaQah
import Derived.Test.YtfmehahjjgalfaaQao
import Derived.Test.YtfmehahjjgalfaaQai
namespace Go.Proofs.Ytfmehahjjgalfaa.Me
open Go.RowKit

set_option maxRecDepth 100000 in
set_option maxHeartbeats 2000000 in
theorem rover_any {w0 w : World} (hb0 : Below w0.heap.size w0 w) {x : Nat} {X : Nat → Src} (H : RMet w0 w x X) : Calls Try.prog 58 #[.pointer (some ⟨x, 0, none⟩)] w fun e w' => ∃ L, Dem X L ∧ e = .returned (.bool (sumC L == 9007199254740991)) ∧ Below w.heap.size w w' := by
  have HD := Lib.hid (rdemands_any hb0 H)
  clear H hb0
  go_enter Try.func58, Try.ntmps58
  go_wp2_with fail
  refine HD.out.mono ?_
  rintro e W1 ⟨v, L, rfl, hr⟩
  obtain ⟨oa, cc, rfl, hsl, -⟩ := hr.own.sl0
  have hmax : L.length ≤ maxLen := hsl.max
  have F := Lib.hid (And.intro hr.dem (And.intro hr.bel hsl))
  clear hr hsl
  obtain ⟨n, hn⟩ : ∃ n, L.length = n := ⟨_, rfl⟩
  have HN := Lib.hid hn
  rw [hn] at hmax ⊢
  clear hn
  go_wp2_with fail
  go_loopw [4, 5] (fun sv iv wr => ∃ i : Nat, i ≤ n ∧ iv = .int .i64 i ∧ sv = .int .i64 (sumC (L.take i)) ∧ Below W1.heap.size W1 wr) (fun _ iv _ => n - (intOf iv).toNat)
  case atStart => exact ⟨0, Nat.zero_le _, rfl, rfl, Below.refl _ _⟩
  case round =>
    obtain ⟨i, hi, rfl, rfl, hb⟩ := hrel
    obtain ⟨w2, rfl⟩ : ∃ w2 : World, w2 = wr := ⟨_, rfl⟩
    by_cases hlt : i < n
    · have hil : ((i : Int) < (n : Int)) = True := by simp; omega
      have hi0 : ((0 : Int) ≤ (i : Int)) = True := by simp
      have hw3 := wrapS hlt hmax
      have hsc := sumC_succ (L := L) (i := i) (by rw [HN.out]; exact hlt)
      obtain ⟨b, o, hbo, hrow⟩ := F.out.2.2.row (by rw [HN.out]; omega)
      subst hbo
      have hat := (hrow.below hb).get i (by rw [HN.out]; exact hlt)
      generalize L.getD i default = y at *
      have y2 := hat 2 (by decide)
      simp only [RCt, List.getElem?_cons_zero, List.getElem?_cons_succ] at y2
      have G := Lib.hid (And.intro hb hsc)
      have HA := Lib.hid (radd_any (sumC (L.take i)) y.n)
      clear hb hat hrow hsc
      generalize sumC (L.take i) = s at *
      generalize hav : addI s y.n = av at *
      go_wp2_with fail
      refine (HA.out _).mono ?_
      rintro e W5 ⟨rfl, hw5⟩
      subst hw5
      go_wp2_with fail
      exact ⟨⟨i + 1, hlt, by first | rw [hw3] | rw [Int.natCast_succ], by rw [G.out.2], G.out.1⟩, by first | (rw [hw3]; exact mSucc hlt) | (rw [← Int.natCast_succ]; exact mSucc hlt)⟩
    · obtain rfl : n = i := by omega
      have hil : ((n : Int) < (n : Int)) = False := by simp
      rw [List.take_of_length_le (by rw [HN.out]; exact Nat.le_refl _)]
      have G := Lib.hid (F.out.2.1.trans (hb.mono F.out.2.1.size))
      clear hb
      have HL := Lib.hid (show ∃ M, Dem X M ∧ sumC M = sumC L from ⟨L, F.out.1, rfl⟩)
      generalize sumC L = s at *
      go_wp2_with fail
      go_ret
      obtain ⟨M, h1, h2⟩ := HL.out
      exact ⟨M, h1, ret_bool (by rw [h2]), G.out⟩
end Go.Proofs.Ytfmehahjjgalfaa.Me
/- The reference's meter: Take. -/
namespace Go.Proofs.Ytfmehahjjgalfaa.Me
open Go.RowKit

def LsS (q : Nat) (y : Ls) (w : World) : Prop := w.heap[q]? = some (.cells #[.int .i64 y.is, .int .i64 y.src, .int .i64 y.seq, .slice y.s.a y.s.n y.s.c, .int .i64 y.at', .int .i64 y.wsrc, .int .i64 y.wseq, .slice y.ws.a y.ws.n y.ws.c, .int .i64 y.wat] 84)
theorem LsS.cells {q : Nat} {y : Ls} {w : World} (h : LsS q y w) : w.cell? ⟨q, 0, none⟩ = some (.int .i64 y.is) ∧ w.cell? ⟨q, 1, none⟩ = some (.int .i64 y.src) ∧ w.cell? ⟨q, 2, none⟩ = some (.int .i64 y.seq) ∧ w.cell? ⟨q, 3, none⟩ = some (.slice y.s.a y.s.n y.s.c) ∧ w.cell? ⟨q, 4, none⟩ = some (.int .i64 y.at') :=
  ⟨cell_of h rfl, cell_of h rfl, cell_of h rfl, cell_of h rfl, cell_of h rfl⟩
theorem LsS.on {q : Nat} {y : Ls} {w w' : World} (h : LsS q y w) (hb : w'.heap[q]? = w.heap[q]?) : LsS q y w' := hb.trans h
structure RkC (w0 : World) (q x i : Nat) (src seq : Int) (oa : Option Addr) (n c : Nat) (y : Ls) (X : Nat → Src) (w : World) : Prop where
  rep : RpS q src seq oa n c w
  met : RMet w0 w x X
  cell : ∀ j, j < 9 → w.cell? ⟨x, i * 9 + j, none⟩ = (lsC y)[j]?
theorem RkC.keep {w0 : World} {q x i : Nat} {src seq : Int} {oa : Option Addr} {n c : Nat} {y : Ls} {X : Nat → Src} {w w' : World} (h : RkC w0 q x i src seq oa n c y X w) (hb : Below w.heap.size w w') : RkC w0 q x i src seq oa n c y X w' := ⟨h.rep.keep hb, h.met.keep hb, fun j hj => (cell_same (hb.block _ h.met.lt)).trans (h.cell j hj)⟩
theorem RkC.on {w0 : World} {q x i : Nat} {src seq : Int} {oa : Option Addr} {n c : Nat} {y : Ls} {X : Nat → Src} {w w' : World} (h : RkC w0 q x i src seq oa n c y X w) (hq : w'.heap[q]? = w.heap[q]?) (hx : w'.heap[x]? = w.heap[x]?) : RkC w0 q x i src seq oa n c y X w' := ⟨hq.trans h.rep, h.met.on hx, fun j hj => (cell_same hx).trans (h.cell j hj)⟩
structure RnC (w0 : World) (q x qn i : Nat) (src seq : Int) (oa : Option Addr) (n c : Nat) (cs : Array Value) (X : Nat → Src) (w : World) : Prop where
  rep : RpS q src seq oa n c w
  met : RMet w0 w x X
  new : w.heap[qn]? = some (.cells cs 84)
theorem rtake_bad {w0 w : World} {x : Nat} {X : Nat → Src} (H : RMet w0 w x X) {w' : World} (hb : Below w.heap.size w w') {src seq : Int} {L : List Ct} {now : Int} (h : takeE X src seq L now ≠ 0) : RTake w0 w w' x (takeX X src seq L now) := by
  rw [takeX_no h]
  exact ⟨H.keep hb, But.of_below hb _⟩
theorem not_in {n : Int} (h : inM n = false) : (n < 0) = True ∨ ((n < 0) = False ∧ (9007199254740991 < n) = True) := by
  by_cases h1 : n < 0
  · exact .inl (eq_true h1)
  · refine .inr ⟨eq_false h1, eq_true ?_⟩
    by_cases h2 : 9007199254740991 < n
    · exact h2
    · rw [inM_iff.2 ⟨by omega, by omega⟩] at h; cases h
set_option maxRecDepth 100000 in
set_option maxHeartbeats 16000000 in
theorem rtake_any {w0 w : World} (hb0 : Below w0.heap.size w0 w) {x : Nat} {X : Nat → Src} (H : RMet w0 w x X) {oa : Option Addr} {n c : Nat} {L : List Ct} (HC : Cts w0 oa n c L) (src seq now : Int) : Calls Try.prog 49 #[.pointer (some ⟨x, 0, none⟩), .agg #[.int .i64 src, .int .i64 seq, .slice oa n c], .int .i64 now] w fun e w' => e = .returned (.int .i64 (takeE X src seq L now)) ∧ RTake w0 w w' x (takeX X src seq L now) := by
  have hal := (Below.refl w.heap.size w).alloc (Nat.le_refl _) (.cells #[.int .i64 src, .int .i64 seq, .slice oa n c] 82)
  have hks : RpS w.heap.size src seq oa n c (w.alloc (.cells #[.int .i64 src, .int .i64 seq, .slice oa n c] 82)) := hnew _ _
  obtain ⟨z0, z1, z2⟩ := hks.cells
  have HCK := Lib.hid (rmcheck_any (HC.keep (bcall hb0 (Nat.le_refl _) hal)) src seq)
  have F := Lib.hid (And.intro hal (And.intro hks (H.keep hal)))
  have HH := Lib.hid (And.intro H HC)
  obtain ⟨k, hk⟩ : ∃ k, takeE X src seq L now = k := ⟨_, rfl⟩
  rw [hk]
  have HK := Lib.hid hk
  clear hal hks hk H HC hb0
  go_enter Try.func49, Try.ntmps49
  go_wp2_with fail
  refine HCK.out.mono ?_
  rintro e W1 ⟨rfl, hb⟩
  obtain ⟨q, hq⟩ : ∃ q, w.heap.size = q := ⟨_, rfl⟩
  have F2 := Lib.hid (show Below w.heap.size w W1 ∧ RpS q src seq oa n c W1 ∧ RMet w0 W1 x X ∧ x < q from hq ▸ And.intro (bcall F.out.1 (Nat.le_refl _) hb) (And.intro (F.out.2.1.keep hb) (And.intro (F.out.2.2.keep hb) HH.out.1.lt)))
  rw [hq]
  clear hq hb F HCK z0 z1 z2
  cases hc : chkR src seq L with
  | false =>
    have HR := Lib.hid (show 1 = k from by rw [← HK.out]; unfold takeE; rw [hc]; rfl)
    have HB := Lib.hid (rtake_bad HH.out.1 F2.out.1 (src := src) (seq := seq) (L := L) (now := now) (by rw [HK.out, ← HR.out]; decide))
    clear hc
    go_wp2_with fail
    go_ret
    exact ⟨ret_int HR.out, HB.out⟩
  | true =>
    cases hn : inM now with
    | false =>
      have HR := Lib.hid (show 1 = k from by rw [← HK.out]; unfold takeE; rw [hc, hn]; rfl)
      have HB := Lib.hid (rtake_bad HH.out.1 F2.out.1 (src := src) (seq := seq) (L := L) (now := now) (by rw [HK.out, ← HR.out]; decide))
      have hw := not_in hn
      clear hc hn
      rcases hw with h1 | ⟨h1, h2⟩
      all_goals
        go_wp2_with fail
        go_ret
        exact ⟨ret_int HR.out, HB.out⟩
    | true =>
      have hn2 := inM_iff.1 hn
      have n1 : (now < 0) = False := eq_false (by omega)
      have n2 : (9007199254740991 < now) = False := eq_false (by omega)
      have hs : chkL L = true ∧ inS src = true ∧ inM seq = true := by
        have := hc
        unfold chkR at this
        simpa [Bool.and_eq_true] using this
      have hs2 : 0 ≤ src ∧ src ≤ 15 := by have := hs.2.1; unfold inS at this; simpa using this
      obtain ⟨i, rfl⟩ : ∃ i : Nat, src = (i : Int) := ⟨src.toNat, by omega⟩
      have hi : i < 16 := by omega
      have hi0 : ((0 : Int) ≤ (i : Int)) = True := by simp
      have hi1 : ((i : Int) < 16) = True := by simp; omega
      have HT := Lib.hid (show k = if oldB (X i) seq then 170 else if 16384 < oth X (i : Int) 16 + L.length then 2 else 0 from by rw [← HK.out]; unfold takeE; rw [hc, hn, if_neg (by decide), Int.toNat_natCast])
      have HP := Lib.hid (And.intro hs (And.intro hi hn))
      have HLN := Lib.hid (show n = L.length from HH.out.2.sl.len)
      have HXN := Lib.hid (And.intro F2.out.2.2.2 (lt_of_blk F2.out.2.1))
      obtain ⟨y, hyc, hyr⟩ := F2.out.2.2.1.at hi
      have F3 := Lib.hid (And.intro F2.out.1 (show RkC w0 q x i (i : Int) seq oa n c y X W1 from ⟨F2.out.2.1, F2.out.2.2.1, hyc⟩))
      have HY := Lib.hid (And.intro hyr (HH.out.1.ok i hi))
      clear hc hn hn2 hs hs2 hi hyc hyr F2
      go_wp2_with fail
      clear n1 n2
      refine wp_region_heldP (RkC w0 q x i (i : Int) seq oa n c y X) (by kernel_rfl) ?_
      have hd := (Below.refl W1.heap.size W1).drew
      have G1 := Lib.hid (And.intro (bcall F3.out.1 (Nat.le_refl _) hd) (RkC.keep F3.out.2 hd))
      clear hd F3
      generalize W1.drew = V1 at *
      refine held_reads [0, 1, 2, 3, 4, 5, 6] (g := 2) rfl (by kernel_rfl) G1.out.2 (fun _ _ d _ _ h => by cases d <;> exact h) ?_
      simp only [pick, List.getD_cons_zero, List.getD_cons_succ]
      ((with_reducible refine wpRead_step (fun K hK => ?_)); go_simp; first | ((with_reducible refine hK _ ?_); clear hK K) | (apply Exists.intro; (with_reducible refine ⟨fun w' hw' => ?_, hK _ ?_⟩); (first | exact rfl | exact ⟨rfl, rfl⟩); clear hK K))
      ((with_reducible refine wpRead_step (fun K hK => ?_)); go_simp; first | ((with_reducible refine hK _ ?_); clear hK K) | (apply Exists.intro; (with_reducible refine ⟨fun w' hw' => ?_, hK _ ?_⟩); (first | exact rfl | exact ⟨rfl, rfl⟩); clear hK K))
      ((with_reducible refine wpRead_step (fun K hK => ?_)); go_simp; first | ((with_reducible refine hK _ ?_); clear hK K) | (apply Exists.intro; (with_reducible refine ⟨fun w' hw' => ?_, hK _ ?_⟩); ((have f0 := hw'.cell 0 (by decide); have f1 := hw'.cell 1 (by decide); have f2 := hw'.cell 2 (by decide); have f3 := hw'.cell 3 (by decide); have f4 := hw'.cell 4 (by decide); have f5 := hw'.cell 5 (by decide); have f6 := hw'.cell 6 (by decide); have f7 := hw'.cell 7 (by decide); have f8 := hw'.cell 8 (by decide); simp only [lsC, Nat.add_zero, List.getElem?_cons_zero, List.getElem?_cons_succ] at f0 f1 f2 f3 f4 f5 f6 f7 f8; obtain ⟨g0, g1, g2⟩ := hw'.rep.cells; go_simp; first | exact rfl | exact ⟨rfl, rfl⟩)); clear hK K))
      ((with_reducible refine wpRead_step (fun K hK => ?_)); go_simp; first | ((with_reducible refine hK _ ?_); clear hK K) | (apply Exists.intro; (with_reducible refine ⟨fun w' hw' => ?_, hK _ ?_⟩); (first | exact rfl | exact ⟨rfl, rfl⟩); clear hK K))
      ((with_reducible refine wpRead_step (fun K hK => ?_)); go_simp; first | ((with_reducible refine hK _ ?_); clear hK K) | (apply Exists.intro; (with_reducible refine ⟨fun w' hw' => ?_, hK _ ?_⟩); (first | exact rfl | exact ⟨rfl, rfl⟩); clear hK K))
      ((with_reducible refine wpRead_step (fun K hK => ?_)); go_simp; first | ((with_reducible refine hK _ ?_); clear hK K) | (apply Exists.intro; (with_reducible refine ⟨fun w' hw' => ?_, hK _ ?_⟩); (first | exact rfl | exact ⟨rfl, rfl⟩); clear hK K))
      ((with_reducible refine wpRead_step (fun K hK => ?_)); go_simp; first | ((with_reducible refine hK _ ?_); clear hK K) | (apply Exists.intro; (with_reducible refine ⟨fun w' hw' => ?_, hK _ ?_⟩); ((have f0 := hw'.cell 0 (by decide); have f1 := hw'.cell 1 (by decide); have f2 := hw'.cell 2 (by decide); have f3 := hw'.cell 3 (by decide); have f4 := hw'.cell 4 (by decide); have f5 := hw'.cell 5 (by decide); have f6 := hw'.cell 6 (by decide); have f7 := hw'.cell 7 (by decide); have f8 := hw'.cell 8 (by decide); simp only [lsC, Nat.add_zero, List.getElem?_cons_zero, List.getElem?_cons_succ] at f0 f1 f2 f3 f4 f5 f6 f7 f8; obtain ⟨g0, g1, g2⟩ := hw'.rep.cells; go_simp; first | exact rfl | exact ⟨rfl, rfl⟩)); clear hK K))
      with_reducible refine wpRead_nil ?_
      refine held_one 7 (by kernel_rfl) ?_
      simp only [pick, List.getD_cons_zero, List.getD_cons_succ]
      have hal := (Below.refl V1.heap.size V1).alloc (Nat.le_refl _) (.cells #[.int .i64 0, .int .i64 0, .int .i64 0, .slice none 0 0, .int .i64 0, .int .i64 0, .int .i64 0, .slice none 0 0, .int .i64 0] 84)
      have G2 := Lib.hid (And.intro (bcall G1.out.1 (Nat.le_refl _) hal) (And.intro (RkC.keep G1.out.2 hal) (And.intro (show (V1.alloc (.cells #[.int .i64 0, .int .i64 0, .int .i64 0, .slice none 0 0, .int .i64 0, .int .i64 0, .int .i64 0, .slice none 0 0, .int .i64 0] 84)).heap[V1.heap.size]? = some (.cells #[.int .i64 0, .int .i64 0, .int .i64 0, .slice none 0 0, .int .i64 0, .int .i64 0, .int .i64 0, .slice none 0 0, .int .i64 0] 84) from hnew _ _) (show w.heap.size ≤ V1.heap.size from G1.out.1.size))))
      have HQY := Lib.hid (show q < V1.heap.size ∧ x < V1.heap.size from ⟨lt_of_blk G1.out.2.rep, G1.out.2.met.lt⟩)
      clear hal G1
      go_wp2_with fail
      refine ⟨G2.out.2.1, ?_⟩
      generalize V1.alloc (.cells #[.int .i64 0, .int .i64 0, .int .i64 0, .slice none 0 0, .int .i64 0, .int .i64 0, .int .i64 0, .slice none 0 0, .int .i64 0] 84) = V2 at *
      generalize V1.heap.size = qy at *
      refine held_one 8 (by kernel_rfl) ?_
      simp only [pick, List.getD_cons_zero, List.getD_cons_succ]
      refine store_whole rfl 84 _ _ rfl qy #[.int .i64 y.is, .int .i64 y.src, .int .i64 y.seq, .slice y.s.a y.s.n y.s.c, .int .i64 y.at', .int .i64 y.wsrc, .int .i64 y.wseq, .slice y.ws.a y.ws.n y.ws.c, .int .i64 y.wat] rfl rfl G2.out.2.2.1 rfl (by kernel_rfl) (by simp [Value.oneCell']) ?_
      intro V3 hw3 hs3
      have G3 := Lib.hid (And.intro (G2.out.1.trans (hs3.below G2.out.2.2.2)) (And.intro (RkC.on G2.out.2.1 (hs3.other (Nat.ne_of_lt HQY.out.1)) (hs3.other (Nat.ne_of_lt HQY.out.2))) (And.intro (show LsS qy y V3 from hw3) G2.out.2.2.2)))
      clear hw3 hs3 G2
      go_wp2_with fail
      refine ⟨G3.out.2.1, ?_⟩
      refine wpAnyH_done (by kernel_rfl) ?_ _
      obtain ⟨y0, y1, y2, y3, y4⟩ := LsS.cells G3.out.2.2.1
      obtain ⟨z0, z1, z2⟩ := G3.out.2.1.rep.cells
      cases hl : (X i).last with
      | none =>
        have his : y.is = 0 := by rw [HY.out.1.is]; exact (isN_zero HY.out.2).2 hl
        have HIS := Lib.hid (show ¬ 0 < y.is from by rw [his]; decide)
        have HOB := Lib.hid (show oldB (X i) seq = false from by unfold oldB; rw [hl])
        have hip : (0 < y.is) = False := eq_false HIS.out
        clear hl his
        go_wp2_with fail
        clear y0 y1 y2 y3 y4 z0 z1 z2
        go_loopw [8, 9] (fun sv iv wr => ∃ j : Nat, j ≤ 16 ∧ iv = .int .i64 j ∧ sv = .int .i64 ((n + oth X (i : Int) j : Nat) : Int) ∧ RkC w0 q x i (i : Int) seq oa n c y X wr ∧ LsS qy y wr ∧ Below w.heap.size w wr) (fun _ iv _ => 16 - (intOf iv).toNat)
        case atStart => exact ⟨0, Nat.zero_le _, rfl, rfl, G3.out.2.1, G3.out.2.2.1, G3.out.1⟩
        case round =>
          obtain ⟨j, hj, rfl, rfl, hrk, hls, hb⟩ := hrel
          obtain ⟨w2, rfl⟩ : ∃ w2 : World, w2 = wr := ⟨_, rfl⟩
          have hsc := oth_succ X (i : Int) j
          have hle := oth_le HH.out.1.ok (i : Int) j hj
          have hnl : n ≤ 1024 := by rw [HLN.out]; exact chkL_len HP.out.1.1
          obtain ⟨z0, z1, z2⟩ := hrk.rep.cells
          by_cases hlt : j < 16
          · have hil : ((j : Int) < 16) = True := by simp; omega
            have hj0 : ((0 : Int) ≤ (j : Int)) = True := by simp
            have hw3 := wrapS hlt (show 16 ≤ maxLen by unfold maxLen; omega)
            have G := Lib.hid (And.intro hrk (And.intro hls hb))
            by_cases hji : j = i
            · subst hji
              have hkt : ((j : Int) == (j : Int)) = true := by simp
              have HS := Lib.hid (show oth X (j : Int) (j + 1) = oth X (j : Int) j from hsc.trans (by rw [if_pos rfl]; exact Nat.add_zero _))
              clear hsc hle hnl hrk hls hb
              go_wp2_with fail
              exact ⟨⟨j + 1, hlt, by first | rw [hw3] | rw [Int.natCast_succ], by rw [HS.out], G.out⟩, by first | (rw [hw3]; exact mSucc hlt) | (rw [← Int.natCast_succ]; exact mSucc hlt)⟩
            · have hne : (j : Int) ≠ (i : Int) := by omega
              have hkt : ((j : Int) == (i : Int)) = false := by simp; omega
              have hkn : ((j : Int) != (i : Int)) = true := by simp; omega
              have hkf : ((j : Int) = (i : Int)) = False := eq_false hne
              rw [if_neg hne] at hsc
              obtain ⟨yj, hyc, hyr⟩ := hrk.met.at hlt
              have c3 := hyc 3 (by decide)
              simp only [lsC, List.getElem?_cons_zero, List.getElem?_cons_succ] at c3
              have hll := lenO_le (HH.out.1.ok j hlt)
              have hlc := len_cur hyr
              rw [← hlc] at hsc hll
              generalize yj.s.n = ln at *
              generalize yj.s.a = la at *
              generalize yj.s.c = lc at *
              generalize oth X (i : Int) j = s at *
              have hsl : s ≤ 16 * 1024 := Nat.le_trans hle (Nat.mul_le_mul_right _ hj)
              have hwp : wrap64 (((n + s : Nat) : Int) + (ln : Int)) = ((n + (s + ln) : Nat) : Int) := by unfold wrap64; omega
              have HS := Lib.hid hsc
              clear hsc hle hnl hrk hls hb hyc hyr hll hlc hne hji hsl
              go_wp2_with fail
              exact ⟨⟨j + 1, hlt, by first | rw [hw3] | rw [Int.natCast_succ], by rw [HS.out]; first | rw [hwp] | (congr 1 <;> omega), G.out⟩, by first | (rw [hw3]; exact mSucc hlt) | (rw [← Int.natCast_succ]; exact mSucc hlt)⟩
          · obtain rfl : 16 = j := by omega
            have hil : ((16 : Int) < 16) = False := by simp
            have G := Lib.hid (And.intro hb (And.intro hrk hls))
            generalize hov : oth X (i : Int) 16 = ov at *
            by_cases h4 : 16384 < n + ov
            · have h4t : ((16384 : Int) < ((n + ov : Nat) : Int)) = True := by simp; omega
              have h4s : ((16384 : Int) < (n : Int) + (ov : Int)) = True := by simp; omega
              have HR := Lib.hid (show 2 = k from by rw [HT.out, if_neg (by rw [HOB.out]; decide), ← HLN.out, if_pos (by omega)])
              have HB := Lib.hid (rtake_bad HH.out.1 G.out.1 (src := (i : Int)) (seq := seq) (L := L) (now := now) (by rw [HK.out, ← HR.out]; decide))
              clear h4 hov hsc hle hnl hrk hls hb
              go_wp2_with fail
              go_ret
              exact ⟨ret_int HR.out, HB.out⟩
            · have h4t : ((16384 : Int) < ((n + ov : Nat) : Int)) = False := by simp; omega
              have h4s : ((16384 : Int) < (n : Int) + (ov : Int)) = False := by simp; omega
              have HR := Lib.hid (show 0 = k from by rw [HT.out, if_neg (by rw [HOB.out]; decide), ← HLN.out, if_neg (by omega)])
              have HX := Lib.hid (show takeX X (i : Int) seq L now = fun j => if j = i then ⟨some ⟨seq, now, L⟩, (X j).last⟩ else X j from by unfold takeX; rw [HK.out, ← HR.out, if_pos rfl, Int.toNat_natCast])
              have HQ2 := Lib.hid (show qy < w2.heap.size from lt_of_blk hls)
              obtain ⟨y0, y1, y2, y3, y4⟩ := hls.cells
              clear h4 hov hsc hle hnl hrk hls hb
              go_wp2_with (with_reducible refine halt_store 84 rfl ?_)
              refine Halted.go ?_
              have hal := (Below.refl w2.heap.size w2).alloc (Nat.le_refl _) (.cells #[.int .i64 0, .int .i64 0, .int .i64 0, .slice none 0 0, .int .i64 0, .int .i64 0, .int .i64 0, .slice none 0 0, .int .i64 0] 84)
              refine store_whole rfl 84 _ _ rfl w2.heap.size #[.int .i64 1, .int .i64 (i : Int), .int .i64 seq, .slice oa n c, .int .i64 now, .int .i64 0, .int .i64 0, .slice none 0 0, .int .i64 0] rfl rfl (hnew _ _) rfl (by kernel_rfl) (by simp [Value.oneCell']) ?_
              intro V4 hw4 hs4
              have hzb : Below w2.heap.size w2 V4 := Below.trans hal (hs4.below (Nat.le_refl _))
              have G4 := Lib.hid (And.intro (bcall G.out.1 (Nat.le_refl _) hzb) (And.intro (RkC.keep G.out.2.1 hzb) (And.intro (G.out.2.2.on (hzb.block _ HQ2.out)) (And.intro hw4 G.out.1.size))))
              clear hal hw4 hs4 hzb y0 y1 y2 y3 y4 z0 z1 z2
              have HNE := Lib.hid (show q ≠ w2.heap.size ∧ x ≠ w2.heap.size ∧ qy ≠ w2.heap.size from ⟨Nat.ne_of_lt (lt_of_blk G.out.2.1.rep), Nat.ne_of_lt G.out.2.1.met.lt, Nat.ne_of_lt HQ2.out⟩)
              clear G
              generalize w2.heap.size = qn at *
              obtain ⟨y0, y1, y2, y3, y4⟩ := LsS.cells G4.out.2.2.1
              obtain ⟨z0, z1, z2⟩ := G4.out.2.1.rep.cells
              go_wp2_with fail
              have HRP := Lib.hid (show RnC w0 q x qn i (i : Int) seq oa n c #[.int .i64 1, .int .i64 (i : Int), .int .i64 seq, .slice oa n c, .int .i64 now, .int .i64 0, .int .i64 0, .slice none 0 0, .int .i64 0] X V4 from ⟨G4.out.2.1.rep, G4.out.2.1.met, G4.out.2.2.2.1⟩)
              refine wp_region_T 7 (RnC w0 q x qn i (i : Int) seq oa n c #[.int .i64 1, .int .i64 (i : Int), .int .i64 seq, .slice oa n c, .int .i64 now, .int .i64 0, .int .i64 0, .slice none 0 0, .int .i64 0] X) (by kernel_rfl) ?_
              have hd := (Below.refl V4.heap.size V4).drew
              have HR9 := Lib.hid (And.intro (bcall G4.out.1 (Nat.le_refl _) hd) (show RnC w0 q x qn i (i : Int) seq oa n c #[.int .i64 1, .int .i64 (i : Int), .int .i64 seq, .slice oa n c, .int .i64 now, .int .i64 0, .int .i64 0, .slice none 0 0, .int .i64 0] X V4.drew from ⟨HRP.out.rep.keep hd, HRP.out.met.keep hd, HRP.out.new⟩))
              clear hd HRP G4
              generalize V4.drew = V9 at *
              refine T_reads [0, 1, 2, 3, 4, 5, 6] (g := 1) rfl (by kernel_rfl) HR9.out.2 (fun _ _ d _ _ h => by cases d <;> exact h) ?_
              simp only [pick, List.getD_cons_zero, List.getD_cons_succ]
              ((with_reducible refine wpRead_step (fun K hK => ?_)); go_simp; first | ((with_reducible refine hK _ ?_); clear hK K) | (apply Exists.intro; (with_reducible refine ⟨fun w' hw' => ?_, hK _ ?_⟩); (first | exact rfl | exact ⟨rfl, rfl⟩); clear hK K))
              ((with_reducible refine wpRead_step (fun K hK => ?_)); go_simp; first | ((with_reducible refine hK _ ?_); clear hK K) | (apply Exists.intro; (with_reducible refine ⟨fun w' hw' => ?_, hK _ ?_⟩); (first | exact rfl | exact ⟨rfl, rfl⟩); clear hK K))
              ((with_reducible refine wpRead_step (fun K hK => ?_)); go_simp; first | ((with_reducible refine hK _ ?_); clear hK K) | (apply Exists.intro; (with_reducible refine ⟨fun w' hw' => ?_, hK _ ?_⟩); ((obtain ⟨g0, g1, g2⟩ := hw'.rep.cells; go_simp; first | exact rfl | exact ⟨rfl, rfl⟩)); clear hK K))
              ((with_reducible refine wpRead_step (fun K hK => ?_)); go_simp; first | ((with_reducible refine hK _ ?_); clear hK K) | (apply Exists.intro; (with_reducible refine ⟨fun w' hw' => ?_, hK _ ?_⟩); ((have f0 := cell_of (o := 0) hw'.new rfl; have f1 := cell_of (o := 1) hw'.new rfl; have f2 := cell_of (o := 2) hw'.new rfl; have f3 := cell_of (o := 3) hw'.new rfl; have f4 := cell_of (o := 4) hw'.new rfl; have f5 := cell_of (o := 5) hw'.new rfl; have f6 := cell_of (o := 6) hw'.new rfl; have f7 := cell_of (o := 7) hw'.new rfl; have f8 := cell_of (o := 8) hw'.new rfl; go_simp; first | exact rfl | exact ⟨rfl, rfl⟩)); clear hK K))
              ((with_reducible refine wpRead_step (fun K hK => ?_)); go_simp; first | ((with_reducible refine hK _ ?_); clear hK K) | (apply Exists.intro; (with_reducible refine ⟨fun w' hw' => ?_, hK _ ?_⟩); (first | exact rfl | exact ⟨rfl, rfl⟩); clear hK K))
              ((with_reducible refine wpRead_step (fun K hK => ?_)); go_simp; first | ((with_reducible refine hK _ ?_); clear hK K) | (apply Exists.intro; (with_reducible refine ⟨fun w' hw' => ?_, hK _ ?_⟩); (first | exact rfl | exact ⟨rfl, rfl⟩); clear hK K))
              ((with_reducible refine wpRead_step (fun K hK => ?_)); go_simp; first | ((with_reducible refine hK _ ?_); clear hK K) | (apply Exists.intro; (with_reducible refine ⟨fun w' hw' => ?_, hK _ ?_⟩); (first | exact rfl | exact ⟨rfl, rfl⟩); clear hK K))
              with_reducible refine wpRead_nil ?_
              refine T_one 7 (by kernel_rfl) ?_
              simp only [pick, List.getD_cons_zero, List.getD_cons_succ]
              obtain ⟨A, hA1, hA2, -⟩ := HR9.out.2.met.out
              have HA := Lib.hid hA2
              refine store_mid rfl 84 _ _ rfl x (i * 9) (.agg #[.int .i64 1, .int .i64 (i : Int), .int .i64 seq, .slice oa n c, .int .i64 now, .int .i64 0, .int .i64 0, .slice none 0 0, .int .i64 0]) rfl rfl hA2 (by rw [hA1]; have := HP.out.2.1; show i * 9 + 9 ≤ 144; omega) (by kernel_rfl) (by simp [Value.oneCell', Value.cells]) ?_
              intro V10 A' hA' hsz hg hset
              have hput := HR9.out.2.met.put HP.out.2.1 (newL_rel HY.out.2 HY.out.1 (q := ⟨oa, n, c, L⟩) HH.out.2 (i : Int) seq now) ⟨fun r e => (by cases e; exact ⟨HP.out.1.2.2, HP.out.2.2, HP.out.1.1⟩), fun r e => HY.out.2.last r e, fun e => (by cases e)⟩ HA.out hsz hA' (by rw [show newL (i : Int) seq ⟨oa, n, c, L⟩ now y = ⟨1, (i : Int), seq, ⟨oa, n, c, L⟩, now, 0, 0, ⟨none, 0, 0, []⟩, 0⟩ from if_neg (by have := HIS.out; omega)]; exact hg)
              have HF := Lib.hid (And.intro hput ((But.of_below HR9.out.1 [x]).trans (But.of_set hset (by simp))))
              clear hput hA1 hA2 hA' hsz hg hset HA
              go_wp2_with fail
              first | (refine ⟨fun h => absurd rfl h, ?_⟩; refine T_done (by kernel_rfl) ?_ _) | refine ⟨by kernel_rfl, ?_⟩
              go_wp2_with fail
              go_ret
              refine ⟨ret_int HR.out, ?_⟩
              rw [HX.out]
              refine ⟨?_, HF.out.2⟩
              have h9 := HF.out.1
              have e9 : (fun j => if j = i then (⟨some ⟨seq, now, L⟩, (X i).last⟩ : Src) else X j) = fun j => if j = i then ⟨some ⟨seq, now, L⟩, (X j).last⟩ else X j := by
                funext j
                by_cases e : j = i
                · subst e; rfl
                · simp only [if_neg e]
              rw [← e9]
              exact h9
      | some r =>
        have hip0 : 0 < y.is := by rw [HY.out.1.is]; exact (isN_pos HY.out.2).2 (by rw [hl]; intro e; cases e)
        have HIS := Lib.hid hip0
        have hip : (0 < y.is) = True := eq_true hip0
        have hyq : y.seq = r.seq := (HY.out.1.l1 r hl).1
        by_cases h5 : seq ≤ y.seq
        · have h5t : (seq ≤ y.seq) = True := eq_true h5
          have HR := Lib.hid (show 170 = k from by rw [HT.out, if_pos (by unfold oldB; rw [hl]; rw [hyq] at h5; simpa using h5)])
          have HB := Lib.hid (rtake_bad HH.out.1 G3.out.1 (src := (i : Int)) (seq := seq) (L := L) (now := now) (by rw [HK.out, ← HR.out]; decide))
          clear h5 hip0 hyq hl
          go_wp2_with fail
          go_ret
          exact ⟨ret_int HR.out, HB.out⟩
        · have h5t : (seq ≤ y.seq) = False := eq_false h5
          have HOB := Lib.hid (show oldB (X i) seq = false from by unfold oldB; rw [hl]; rw [hyq] at h5; simpa using h5)
          clear h5 hip0 hyq hl
          go_wp2_with fail
          clear y0 y1 y2 y3 y4 z0 z1 z2
          go_loopw [8, 9] (fun sv iv wr => ∃ j : Nat, j ≤ 16 ∧ iv = .int .i64 j ∧ sv = .int .i64 ((n + oth X (i : Int) j : Nat) : Int) ∧ RkC w0 q x i (i : Int) seq oa n c y X wr ∧ LsS qy y wr ∧ Below w.heap.size w wr) (fun _ iv _ => 16 - (intOf iv).toNat)
          case atStart => exact ⟨0, Nat.zero_le _, rfl, rfl, G3.out.2.1, G3.out.2.2.1, G3.out.1⟩
          case round =>
            obtain ⟨j, hj, rfl, rfl, hrk, hls, hb⟩ := hrel
            obtain ⟨w2, rfl⟩ : ∃ w2 : World, w2 = wr := ⟨_, rfl⟩
            have hsc := oth_succ X (i : Int) j
            have hle := oth_le HH.out.1.ok (i : Int) j hj
            have hnl : n ≤ 1024 := by rw [HLN.out]; exact chkL_len HP.out.1.1
            obtain ⟨z0, z1, z2⟩ := hrk.rep.cells
            by_cases hlt : j < 16
            · have hil : ((j : Int) < 16) = True := by simp; omega
              have hj0 : ((0 : Int) ≤ (j : Int)) = True := by simp
              have hw3 := wrapS hlt (show 16 ≤ maxLen by unfold maxLen; omega)
              have G := Lib.hid (And.intro hrk (And.intro hls hb))
              by_cases hji : j = i
              · subst hji
                have hkt : ((j : Int) == (j : Int)) = true := by simp
                have HS := Lib.hid (show oth X (j : Int) (j + 1) = oth X (j : Int) j from hsc.trans (by rw [if_pos rfl]; exact Nat.add_zero _))
                clear hsc hle hnl hrk hls hb
                go_wp2_with fail
                exact ⟨⟨j + 1, hlt, by first | rw [hw3] | rw [Int.natCast_succ], by rw [HS.out], G.out⟩, by first | (rw [hw3]; exact mSucc hlt) | (rw [← Int.natCast_succ]; exact mSucc hlt)⟩
              · have hne : (j : Int) ≠ (i : Int) := by omega
                have hkt : ((j : Int) == (i : Int)) = false := by simp; omega
                have hkn : ((j : Int) != (i : Int)) = true := by simp; omega
                have hkf : ((j : Int) = (i : Int)) = False := eq_false hne
                rw [if_neg hne] at hsc
                obtain ⟨yj, hyc, hyr⟩ := hrk.met.at hlt
                have c3 := hyc 3 (by decide)
                simp only [lsC, List.getElem?_cons_zero, List.getElem?_cons_succ] at c3
                have hll := lenO_le (HH.out.1.ok j hlt)
                have hlc := len_cur hyr
                rw [← hlc] at hsc hll
                generalize yj.s.n = ln at *
                generalize yj.s.a = la at *
                generalize yj.s.c = lc at *
                generalize oth X (i : Int) j = s at *
                have hsl : s ≤ 16 * 1024 := Nat.le_trans hle (Nat.mul_le_mul_right _ hj)
                have hwp : wrap64 (((n + s : Nat) : Int) + (ln : Int)) = ((n + (s + ln) : Nat) : Int) := by unfold wrap64; omega
                have HS := Lib.hid hsc
                clear hsc hle hnl hrk hls hb hyc hyr hll hlc hne hji hsl
                go_wp2_with fail
                exact ⟨⟨j + 1, hlt, by first | rw [hw3] | rw [Int.natCast_succ], by rw [HS.out]; first | rw [hwp] | (congr 1 <;> omega), G.out⟩, by first | (rw [hw3]; exact mSucc hlt) | (rw [← Int.natCast_succ]; exact mSucc hlt)⟩
            · obtain rfl : 16 = j := by omega
              have hil : ((16 : Int) < 16) = False := by simp
              have G := Lib.hid (And.intro hb (And.intro hrk hls))
              generalize hov : oth X (i : Int) 16 = ov at *
              by_cases h4 : 16384 < n + ov
              · have h4t : ((16384 : Int) < ((n + ov : Nat) : Int)) = True := by simp; omega
                have h4s : ((16384 : Int) < (n : Int) + (ov : Int)) = True := by simp; omega
                have HR := Lib.hid (show 2 = k from by rw [HT.out, if_neg (by rw [HOB.out]; decide), ← HLN.out, if_pos (by omega)])
                have HB := Lib.hid (rtake_bad HH.out.1 G.out.1 (src := (i : Int)) (seq := seq) (L := L) (now := now) (by rw [HK.out, ← HR.out]; decide))
                clear h4 hov hsc hle hnl hrk hls hb
                go_wp2_with fail
                go_ret
                exact ⟨ret_int HR.out, HB.out⟩
              · have h4t : ((16384 : Int) < ((n + ov : Nat) : Int)) = False := by simp; omega
                have h4s : ((16384 : Int) < (n : Int) + (ov : Int)) = False := by simp; omega
                have HR := Lib.hid (show 0 = k from by rw [HT.out, if_neg (by rw [HOB.out]; decide), ← HLN.out, if_neg (by omega)])
                have HX := Lib.hid (show takeX X (i : Int) seq L now = fun j => if j = i then ⟨some ⟨seq, now, L⟩, (X j).last⟩ else X j from by unfold takeX; rw [HK.out, ← HR.out, if_pos rfl, Int.toNat_natCast])
                have HQ2 := Lib.hid (show qy < w2.heap.size from lt_of_blk hls)
                obtain ⟨y0, y1, y2, y3, y4⟩ := hls.cells
                clear h4 hov hsc hle hnl hrk hls hb
                go_wp2_with (with_reducible refine halt_store 84 rfl ?_)
                refine Halted.go ?_
                have hal := (Below.refl w2.heap.size w2).alloc (Nat.le_refl _) (.cells #[.int .i64 0, .int .i64 0, .int .i64 0, .slice none 0 0, .int .i64 0, .int .i64 0, .int .i64 0, .slice none 0 0, .int .i64 0] 84)
                refine store_whole rfl 84 _ _ rfl w2.heap.size #[.int .i64 1, .int .i64 (i : Int), .int .i64 seq, .slice oa n c, .int .i64 now, .int .i64 0, .int .i64 0, .slice none 0 0, .int .i64 0] rfl rfl (hnew _ _) rfl (by kernel_rfl) (by simp [Value.oneCell']) ?_
                intro V4 hw4 hs4
                have hzb : Below w2.heap.size w2 V4 := Below.trans hal (hs4.below (Nat.le_refl _))
                have G4 := Lib.hid (And.intro (bcall G.out.1 (Nat.le_refl _) hzb) (And.intro (RkC.keep G.out.2.1 hzb) (And.intro (G.out.2.2.on (hzb.block _ HQ2.out)) (And.intro hw4 G.out.1.size))))
                clear hal hw4 hs4 hzb y0 y1 y2 y3 y4 z0 z1 z2
                have HNE := Lib.hid (show q ≠ w2.heap.size ∧ x ≠ w2.heap.size ∧ qy ≠ w2.heap.size from ⟨Nat.ne_of_lt (lt_of_blk G.out.2.1.rep), Nat.ne_of_lt G.out.2.1.met.lt, Nat.ne_of_lt HQ2.out⟩)
                clear G
                generalize w2.heap.size = qn at *
                obtain ⟨y0, y1, y2, y3, y4⟩ := LsS.cells G4.out.2.2.1
                obtain ⟨z0, z1, z2⟩ := G4.out.2.1.rep.cells
                go_wp2_with (with_reducible refine halt_store 3 rfl ?_)
                refine Halted.go ?_
                refine store_mid rfl 3 _ _ rfl qn 0 (.int .i64 2) rfl rfl G4.out.2.2.2.1 (by simp [Value.cells]) (by kernel_rfl) (by simp [Value.oneCell', Value.cells]) ?_
                intro V5 cur' hw hsz hg hset
                have hcs : cur' = #[.int .i64 2, .int .i64 (i : Int), .int .i64 seq, .slice oa n c, .int .i64 now, .int .i64 0, .int .i64 0, .slice none 0 0, .int .i64 0] := by
                  apply Array.ext_getElem?
                  intro j
                  rw [hg j]
                  match j with
                  | 0 | 1 | 2 | 3 | 4 | 5 | 6 | 7 | 8 => rfl
                  | j + 9 => simp [Value.cells]
                rw [hcs] at hw
                have hnq : q ≠ qn ∧ x ≠ qn ∧ qy ≠ qn := HNE.out
                have G5 := Lib.hid (And.intro (G4.out.1.trans (hset.below G4.out.2.2.2.2)) (And.intro (RkC.on G4.out.2.1 (hset.other hnq.1) (hset.other hnq.2.1)) (And.intro (G4.out.2.2.1.on (hset.other hnq.2.2)) (And.intro hw G4.out.2.2.2.2))))
                clear hw hsz hg hset hcs hnq y0 y1 y2 y3 y4 z0 z1 z2 G4
                obtain ⟨y0, y1, y2, y3, y4⟩ := LsS.cells G5.out.2.2.1
                obtain ⟨z0, z1, z2⟩ := G5.out.2.1.rep.cells
                go_wp2_with (with_reducible refine halt_store 82 rfl ?_)
                refine Halted.go ?_
                refine store_mid rfl 82 _ _ rfl qn 5 (.agg #[.int .i64 y.src, .int .i64 y.seq, .slice y.s.a y.s.n y.s.c]) rfl rfl G5.out.2.2.2.1 (by simp [Value.cells]) (by kernel_rfl) (by simp [Value.oneCell', Value.cells]) ?_
                intro V6 cur' hw hsz hg hset
                have hcs : cur' = #[.int .i64 2, .int .i64 (i : Int), .int .i64 seq, .slice oa n c, .int .i64 now, .int .i64 y.src, .int .i64 y.seq, .slice y.s.a y.s.n y.s.c, .int .i64 0] := by
                  apply Array.ext_getElem?
                  intro j
                  rw [hg j]
                  match j with
                  | 0 | 1 | 2 | 3 | 4 | 5 | 6 | 7 | 8 => rfl
                  | j + 9 => simp [Value.cells]
                rw [hcs] at hw
                have hnq : q ≠ qn ∧ x ≠ qn ∧ qy ≠ qn := HNE.out
                have G6 := Lib.hid (And.intro (G5.out.1.trans (hset.below G5.out.2.2.2.2)) (And.intro (RkC.on G5.out.2.1 (hset.other hnq.1) (hset.other hnq.2.1)) (And.intro (G5.out.2.2.1.on (hset.other hnq.2.2)) (And.intro hw G5.out.2.2.2.2))))
                clear hw hsz hg hset hcs hnq y0 y1 y2 y3 y4 z0 z1 z2 G5
                obtain ⟨y0, y1, y2, y3, y4⟩ := LsS.cells G6.out.2.2.1
                obtain ⟨z0, z1, z2⟩ := G6.out.2.1.rep.cells
                go_wp2_with (with_reducible refine halt_store 3 rfl ?_)
                refine Halted.go ?_
                refine store_mid rfl 3 _ _ rfl qn 8 (.int .i64 y.at') rfl rfl G6.out.2.2.2.1 (by simp [Value.cells]) (by kernel_rfl) (by simp [Value.oneCell', Value.cells]) ?_
                intro V7 cur' hw hsz hg hset
                have hcs : cur' = #[.int .i64 2, .int .i64 (i : Int), .int .i64 seq, .slice oa n c, .int .i64 now, .int .i64 y.src, .int .i64 y.seq, .slice y.s.a y.s.n y.s.c, .int .i64 y.at'] := by
                  apply Array.ext_getElem?
                  intro j
                  rw [hg j]
                  match j with
                  | 0 | 1 | 2 | 3 | 4 | 5 | 6 | 7 | 8 => rfl
                  | j + 9 => simp [Value.cells]
                rw [hcs] at hw
                have hnq : q ≠ qn ∧ x ≠ qn ∧ qy ≠ qn := HNE.out
                have G7 := Lib.hid (And.intro (G6.out.1.trans (hset.below G6.out.2.2.2.2)) (And.intro (RkC.on G6.out.2.1 (hset.other hnq.1) (hset.other hnq.2.1)) (And.intro (G6.out.2.2.1.on (hset.other hnq.2.2)) (And.intro hw G6.out.2.2.2.2))))
                clear hw hsz hg hset hcs hnq y0 y1 y2 y3 y4 z0 z1 z2 G6
                obtain ⟨y0, y1, y2, y3, y4⟩ := LsS.cells G7.out.2.2.1
                obtain ⟨z0, z1, z2⟩ := G7.out.2.1.rep.cells
                go_wp2_with fail
                have HRP := Lib.hid (show RnC w0 q x qn i (i : Int) seq oa n c #[.int .i64 2, .int .i64 (i : Int), .int .i64 seq, .slice oa n c, .int .i64 now, .int .i64 y.src, .int .i64 y.seq, .slice y.s.a y.s.n y.s.c, .int .i64 y.at'] X V7 from ⟨G7.out.2.1.rep, G7.out.2.1.met, G7.out.2.2.2.1⟩)
                refine wp_region_T 7 (RnC w0 q x qn i (i : Int) seq oa n c #[.int .i64 2, .int .i64 (i : Int), .int .i64 seq, .slice oa n c, .int .i64 now, .int .i64 y.src, .int .i64 y.seq, .slice y.s.a y.s.n y.s.c, .int .i64 y.at'] X) (by kernel_rfl) ?_
                have hd := (Below.refl V7.heap.size V7).drew
                have HR9 := Lib.hid (And.intro (bcall G7.out.1 (Nat.le_refl _) hd) (show RnC w0 q x qn i (i : Int) seq oa n c #[.int .i64 2, .int .i64 (i : Int), .int .i64 seq, .slice oa n c, .int .i64 now, .int .i64 y.src, .int .i64 y.seq, .slice y.s.a y.s.n y.s.c, .int .i64 y.at'] X V7.drew from ⟨HRP.out.rep.keep hd, HRP.out.met.keep hd, HRP.out.new⟩))
                clear hd HRP G7
                generalize V7.drew = V9 at *
                refine T_reads [0, 1, 2, 3, 4, 5, 6] (g := 1) rfl (by kernel_rfl) HR9.out.2 (fun _ _ d _ _ h => by cases d <;> exact h) ?_
                simp only [pick, List.getD_cons_zero, List.getD_cons_succ]
                ((with_reducible refine wpRead_step (fun K hK => ?_)); go_simp; first | ((with_reducible refine hK _ ?_); clear hK K) | (apply Exists.intro; (with_reducible refine ⟨fun w' hw' => ?_, hK _ ?_⟩); (first | exact rfl | exact ⟨rfl, rfl⟩); clear hK K))
                ((with_reducible refine wpRead_step (fun K hK => ?_)); go_simp; first | ((with_reducible refine hK _ ?_); clear hK K) | (apply Exists.intro; (with_reducible refine ⟨fun w' hw' => ?_, hK _ ?_⟩); (first | exact rfl | exact ⟨rfl, rfl⟩); clear hK K))
                ((with_reducible refine wpRead_step (fun K hK => ?_)); go_simp; first | ((with_reducible refine hK _ ?_); clear hK K) | (apply Exists.intro; (with_reducible refine ⟨fun w' hw' => ?_, hK _ ?_⟩); ((obtain ⟨g0, g1, g2⟩ := hw'.rep.cells; go_simp; first | exact rfl | exact ⟨rfl, rfl⟩)); clear hK K))
                ((with_reducible refine wpRead_step (fun K hK => ?_)); go_simp; first | ((with_reducible refine hK _ ?_); clear hK K) | (apply Exists.intro; (with_reducible refine ⟨fun w' hw' => ?_, hK _ ?_⟩); ((have f0 := cell_of (o := 0) hw'.new rfl; have f1 := cell_of (o := 1) hw'.new rfl; have f2 := cell_of (o := 2) hw'.new rfl; have f3 := cell_of (o := 3) hw'.new rfl; have f4 := cell_of (o := 4) hw'.new rfl; have f5 := cell_of (o := 5) hw'.new rfl; have f6 := cell_of (o := 6) hw'.new rfl; have f7 := cell_of (o := 7) hw'.new rfl; have f8 := cell_of (o := 8) hw'.new rfl; go_simp; first | exact rfl | exact ⟨rfl, rfl⟩)); clear hK K))
                ((with_reducible refine wpRead_step (fun K hK => ?_)); go_simp; first | ((with_reducible refine hK _ ?_); clear hK K) | (apply Exists.intro; (with_reducible refine ⟨fun w' hw' => ?_, hK _ ?_⟩); (first | exact rfl | exact ⟨rfl, rfl⟩); clear hK K))
                ((with_reducible refine wpRead_step (fun K hK => ?_)); go_simp; first | ((with_reducible refine hK _ ?_); clear hK K) | (apply Exists.intro; (with_reducible refine ⟨fun w' hw' => ?_, hK _ ?_⟩); (first | exact rfl | exact ⟨rfl, rfl⟩); clear hK K))
                ((with_reducible refine wpRead_step (fun K hK => ?_)); go_simp; first | ((with_reducible refine hK _ ?_); clear hK K) | (apply Exists.intro; (with_reducible refine ⟨fun w' hw' => ?_, hK _ ?_⟩); (first | exact rfl | exact ⟨rfl, rfl⟩); clear hK K))
                with_reducible refine wpRead_nil ?_
                refine T_one 7 (by kernel_rfl) ?_
                simp only [pick, List.getD_cons_zero, List.getD_cons_succ]
                obtain ⟨A, hA1, hA2, -⟩ := HR9.out.2.met.out
                have HA := Lib.hid hA2
                refine store_mid rfl 84 _ _ rfl x (i * 9) (.agg #[.int .i64 2, .int .i64 (i : Int), .int .i64 seq, .slice oa n c, .int .i64 now, .int .i64 y.src, .int .i64 y.seq, .slice y.s.a y.s.n y.s.c, .int .i64 y.at']) rfl rfl hA2 (by rw [hA1]; have := HP.out.2.1; show i * 9 + 9 ≤ 144; omega) (by kernel_rfl) (by simp [Value.oneCell', Value.cells]) ?_
                intro V10 A' hA' hsz hg hset
                have hput := HR9.out.2.met.put HP.out.2.1 (newL_rel HY.out.2 HY.out.1 (q := ⟨oa, n, c, L⟩) HH.out.2 (i : Int) seq now) ⟨fun r e => (by cases e; exact ⟨HP.out.1.2.2, HP.out.2.2, HP.out.1.1⟩), fun r e => HY.out.2.last r e, fun e => (by cases e)⟩ HA.out hsz hA' (by rw [show newL (i : Int) seq ⟨oa, n, c, L⟩ now y = ⟨2, (i : Int), seq, ⟨oa, n, c, L⟩, now, y.src, y.seq, y.s, y.at'⟩ from if_pos HIS.out]; exact hg)
                have HF := Lib.hid (And.intro hput ((But.of_below HR9.out.1 [x]).trans (But.of_set hset (by simp))))
                clear hput hA1 hA2 hA' hsz hg hset HA
                go_wp2_with fail
                first | (refine ⟨fun h => absurd rfl h, ?_⟩; refine T_done (by kernel_rfl) ?_ _) | refine ⟨by kernel_rfl, ?_⟩
                go_wp2_with fail
                go_ret
                refine ⟨ret_int HR.out, ?_⟩
                rw [HX.out]
                refine ⟨?_, HF.out.2⟩
                have h9 := HF.out.1
                have e9 : (fun j => if j = i then (⟨some ⟨seq, now, L⟩, (X i).last⟩ : Src) else X j) = fun j => if j = i then ⟨some ⟨seq, now, L⟩, (X j).last⟩ else X j := by
                  funext j
                  by_cases e : j = i
                  · subst e; rfl
                  · simp only [if_neg e]
                rw [← e9]
                exact h9
end Go.Proofs.Ytfmehahjjgalfaa.Me
