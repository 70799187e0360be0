/- MeterTakes: the law's walk. -/
import Derived.Test.YtfmehahjjgalfaaQaq
import Derived.Test.YtfmehahjjgalfaaQal
namespace Go.Proofs.Ytfmehahjjgalfaa.Me
open Go.RowKit

theorem TkAt.onX {w w' : World} {b x : Nat} {A : Array Value} {r : Rp} (H : TkAt w b r) (hm : w.heap[x]? = some (.cells A 87)) (h : ∀ k, k < w.heap.size → k ≠ x → w'.heap[k]? = w.heap[k]?) : TkAt w' b r := by
  obtain ⟨bm, h1, h2⟩ := H
  have hb : b ≠ x := by rintro rfl; rw [h1] at hm; cases hm
  have hc : bm ≠ x := by
    rintro rfl
    obtain ⟨clk, es, k2, k3⟩ := h2.out
    rw [k2.blk] at hm; cases hm
  exact ⟨bm, (h b (lt_of_blk h1) hb).trans h1, h2.on (h bm h2.lt hc)⟩
theorem PtrAt.onX {w w' : World} {x : Nat} {A : Array Value} {p : Option Addr} {o : Option Rp} (H : PtrAt w p o) (hm : w.heap[x]? = some (.cells A 87)) (h : ∀ k, k < w.heap.size → k ≠ x → w'.heap[k]? = w.heap[k]?) : PtrAt w' p o := by
  cases o with
  | none => exact H
  | some r =>
    obtain ⟨b, h1, h2⟩ := H
    exact ⟨b, h1, h2.onX hm h⟩
theorem MetAt.farX {w0 w w' : World} {m x : Nat} {X Y : Nat → Src} (H : MetAt w m X) (Hx : RMet w0 w x Y) (hb : But w w' [x]) : MetAt w' m X := by
  obtain ⟨A, h1, h2, h3, h4⟩ := H.out
  obtain ⟨B, -, g2, -⟩ := Hx.out
  have hne : m ≠ x := by rintro rfl; rw [h2] at g2; cases g2
  have hk : ∀ j, j < w.heap.size → j ≠ x → w'.heap[j]? = w.heap[j]? := fun j hj hn => hb.block j hj (by simpa using hn)
  exact ⟨⟨A, h1, (hk m (lt_of_blk h2) hne).trans h2, h3, fun i hi => by
    obtain ⟨p, q, k1, k2, k3, k4⟩ := h4 i hi
    exact ⟨p, q, k1, k2, k3.onX g2 hk, k4.onX g2 hk⟩⟩, H.ok⟩
def y00 : Ls := ⟨0, 0, 0, ⟨none, 0, 0, []⟩, 0, 0, 0, ⟨none, 0, 0, []⟩, 0⟩
instance : Inhabited Ls := ⟨y00⟩
def RLs : Rep Ls := ⟨84, 9, by decide, lsC, fun _ => rfl, fun _ => rfl⟩
theorem a00_is : Try.zeroCells87.toList = RLs.flat (List.replicate 16 y00) := by kernel_rfl
theorem rmet_new {w W : World} {x : Nat} (h : W.heap[x]? = some (.cells Try.zeroCells87 87)) : RMet w W x X0 := by
  refine ⟨⟨Try.zeroCells87, by kernel_rfl, h, fun i hi => ⟨y00, fun j hj => ?_, ?_⟩⟩, fun i _ => ⟨fun r h => (by cases h), fun r h => (by cases h), fun _ => rfl⟩⟩
  · rw [← Array.getElem?_toList, a00_is]
    have := RLs.flat_get (List.replicate 16 y00) i j (by simpa using hi) hj
    rw [show (List.replicate 16 y00).getD i default = y00 from by
      rw [List.getD_eq_getElem?_getD, List.getElem?_replicate]
      split <;> rfl] at this
    exact this
  · exact ⟨rfl, ⟨Rep.sl_nil, fun x hx => (by cases hx)⟩, ⟨Rep.sl_nil, fun x hx => (by cases hx)⟩, fun _ => rfl, fun r e => (by cases e), fun r e => (by cases e)⟩
/-- both meters, and the prefix that is asked for -/
structure MS (w0 : World) (m x q3 : Nat) (p : PK) (X Y : Nat → Src) (W : World) : Prop where
  bel : Below w0.heap.size w0 W
  met : MetAt W m X
  ref : RMet w0 W x Y
  box : BxP q3 p W
  sep : w0.heap.size ≤ m ∧ w0.heap.size ≤ x ∧ q3 ≠ m ∧ q3 ≠ x
theorem MS.keep {w0 : World} {m x q3 : Nat} {p : PK} {X Y : Nat → Src} {W W' : World} (h : MS w0 m x q3 p X Y W) (hb : Below W.heap.size W W') : MS w0 m x q3 p X Y W' := ⟨bcall h.bel (Nat.le_refl _) hb, h.met.keep hb, h.ref.keep hb, h.box.keep hb, h.sep⟩
theorem MS.ne {w0 : World} {m x q3 : Nat} {p : PK} {X Y : Nat → Src} {W : World} (h : MS w0 m x q3 p X Y W) : x ≠ m := by
  obtain ⟨A, h1, h2, -⟩ := h.met.out
  obtain ⟨B, -, g2, -⟩ := h.ref.out
  rintro rfl
  rw [h2] at g2; cases g2
theorem MS.take {w0 : World} {m x q3 : Nat} {p : PK} {X Y Z : Nat → Src} {W W' : World} (h : MS w0 m x q3 p X Y W) (hs : MTake W W' m Z) : MS w0 m x q3 p Z Y W' :=
  ⟨Below.step h.bel h.bel.size hs.but (by simp; exact h.sep.1), hs.met, h.ref.on (hs.but.block _ h.ref.lt (by simp; exact h.ne)), (hs.but.block _ (lt_of_blk h.box) (by simp; exact h.sep.2.2.1)).trans h.box, h.sep⟩
theorem MS.rtake {w0 : World} {m x q3 : Nat} {p : PK} {X Y Z : Nat → Src} {W W' : World} (h : MS w0 m x q3 p X Y W) (hs : RTake w0 W W' x Z) : MS w0 m x q3 p X Z W' :=
  ⟨Below.step h.bel h.bel.size hs.but (by simp; exact h.sep.2.1), h.met.farX h.ref hs.but, hs.met, (hs.but.block _ (lt_of_blk h.box) (by simp; exact h.sep.2.2.2)).trans h.box, h.sep⟩
theorem RdO.old {w W W' : World} {b o : Nat} {y : OpM} (h : RdO b o y W) (h1 : Below w.heap.size w W) (h2 : Below w.heap.size w W') (hb : b < w.heap.size) : RdO b o y W' := h.keep ((h2.block b hb).trans (h1.block b hb).symm)
set_option maxRecDepth 100000 in
set_option maxHeartbeats 16000000 in
theorem mtakes_law {w : World} {oa : Option Addr} {n cn : Nat} {l : List OpM} (hl : OpsM w oa n cn l) {p : PK} (hp : PN.ok p) : Calls Try.prog 11 #[.slice oa n cn, .agg #[.int .u32 (p.1 : Int), .int .i64 p.2]] w fun e w' => e = .returned (.bool true) ∧ Below w.heap.size w w' := by
  have hal := (Below.refl w.heap.size w).alloc (Nat.le_refl _) (.cells #[.int .u32 (p.1 : Int), .int .i64 p.2] 58)
  have hmax : n ≤ maxLen := hl.sl.max
  have HL := Lib.hid (And.intro hl hp)
  have F := Lib.hid (And.intro hal (show BxP w.heap.size p (w.alloc (.cells #[.int .u32 (p.1 : Int), .int .i64 p.2] 58)) from hnew _ _))
  clear hal hl hp
  go_enter Try.func11, Try.ntmps11
  go_wp2_with fail
  obtain ⟨q3, hq3⟩ : ∃ q, w.heap.size = q := ⟨_, rfl⟩
  obtain ⟨W0, hW0⟩ : ∃ W, w.alloc (.cells #[.int .u32 (p.1 : Int), .int .i64 p.2] 58) = W := ⟨_, rfl⟩
  have F1 := Lib.hid (show Below w.heap.size w W0 ∧ BxP q3 p W0 from hq3 ▸ hW0 ▸ F.out)
  rw [hW0, hq3]
  clear hW0 hq3 F
  refine (mnew_any _).mono ?_
  rintro e W1 ⟨rfl, hT, hb⟩
  have F2 := Lib.hid (And.intro (bcall F1.out.1 (Nat.le_refl _) hb) (And.intro (show MetAt W1 W0.heap.size X0 from hT) (And.intro (F1.out.2.keep hb) (And.intro F1.out.1.size (lt_of_blk F1.out.2)))))
  clear hT hb F1
  generalize W0.heap.size = m at *
  go_wp2_with fail
  have hal := (Below.refl W1.heap.size W1).alloc (Nat.le_refl _) (.cells Try.zeroCells87 87)
  have F3 := Lib.hid (show MS w m W1.heap.size q3 p X0 X0 (W1.alloc (.cells Try.zeroCells87 87)) from ⟨bcall F2.out.1 (Nat.le_refl _) hal, F2.out.2.1.keep hal, rmet_new (hnew _ _), F2.out.2.2.1.keep hal, F2.out.2.2.2.1, F2.out.1.size, Nat.ne_of_lt F2.out.2.2.2.2, Nat.ne_of_lt (lt_of_blk F2.out.2.2.1)⟩)
  clear hal F2
  generalize W1.alloc (.cells Try.zeroCells87 87) = W2 at *
  generalize W1.heap.size = x at *
  go_wp2_with fail
  refine (lives17 _).mono ?_
  rintro e W3 ⟨rfl, hb⟩
  have F4 := Lib.hid (F3.out.keep hb)
  clear hb F3
  go_wp2_with fail
  go_loopw [7] (fun iv wr => ∃ (i : Nat) (X : Nat → Src), i ≤ n ∧ iv = .int .i64 i ∧ MS w m x q3 p X X wr) (fun iv _ => n - (intOf iv).toNat)
  case atStart => exact ⟨0, X0, Nat.zero_le _, rfl, F4.out⟩
  case round =>
    obtain ⟨i, X, hi, rfl, hms⟩ := hrel
    obtain ⟨w2, rfl⟩ : ∃ w2 : World, w2 = wr := ⟨_, rfl⟩
    clear F4
    by_cases hlt : i < n
    · by_cases h40 : i < 40
      · have hil : ((i : Int) < (n : Int)) = True := by simp; omega
        have hi40 : ((i : Int) < 40) = True := by simp; omega
        have hi0 : ((0 : Int) ≤ (i : Int)) = True := by simp
        have hw3 := wrapS hlt hmax
        have hgm : l.getD i default ∈ l := getD_mem (by rw [← HL.out.1.sl.len]; exact hlt)
        have hin := HL.out.1.ok _ hgm
        obtain ⟨b, o, hbo, hrow⟩ := HL.out.1.sl.row (by omega)
        subst hbo
        have hat := (hrow.below hms.bel).get i (by rw [← HL.out.1.sl.len]; exact hlt)
        generalize l.getD i default = y at *
        have HX := Lib.hid (And.intro hin (And.intro (show RdO b (o + i * 4) y w2 from hat) (And.intro hms hrow.lt)))
        have y0 := hat 0 (by decide)
        have y1 := hat 1 (by decide)
        have y2 := hat 2 (by decide)
        have y3 := hat 3 (by decide)
        simp only [ROpM, Nat.add_zero, List.getElem?_cons_zero, List.getElem?_cons_succ] at y0 y1 y2 y3
        clear hgm hin hrow hat hms h40
        by_cases h60 : 60 < y.s.n
        · have h1t : ((60 : Int) < (y.s.n : Int)) = True := by simp; omega
          have F5 := Lib.hid HX.out.2.2.1
          clear h60
          go_wp2_with fail
          exact ⟨⟨i + 1, X, hlt, by first | rw [hw3] | rw [Int.natCast_succ], F5.out⟩, by first | (rw [hw3]; exact mSucc hlt) | (rw [← Int.natCast_succ]; exact mSucc hlt)⟩
        · have h1t : ((60 : Int) < (y.s.n : Int)) = False := by simp; omega
          clear h60
          go_wp2_with fail
          refine (rmcheck_any (Cts.keep HX.out.1 HX.out.2.2.1.bel) y.src y.seq).mono ?_
          rintro e W5 ⟨rfl, hb⟩
          have F5 := Lib.hid (And.intro (HX.out.2.2.1.keep hb) (RdO.old HX.out.2.1 HX.out.2.2.1.bel (HX.out.2.2.1.keep hb).bel HX.out.2.2.2))
          clear hb y0 y1 y2 y3
          cases hc : chkR y.src y.seq y.s.l with
          | false =>
            have HCK := Lib.hid (show (if chkR y.src y.seq y.s.l then (0 : Int) else 1) = 1 from by rw [hc]; rfl)
            clear hc
            go_wp2_with fail
            refine wp_region_heldP (RdO b (o + i * 4) y) (by kernel_rfl) ?_
            have hd := (Below.refl W5.heap.size W5).drew
            have F6 := Lib.hid (And.intro (F5.out.1.keep hd) (RdO.old F5.out.2 F5.out.1.bel (F5.out.1.keep hd).bel HX.out.2.2.2))
            clear hd F5
            generalize W5.drew = V1 at *
            refine held_reads [0, 1, 2, 3, 4, 6] (g := 29) rfl (by kernel_rfl) F6.out.2 (fun _ _ d _ _ h => by cases d <;> exact h) ?_
            simp only [pick, List.getD_cons_zero, List.getD_cons_succ]
            ((with_reducible refine wpRead_step (fun K hK => ?_)); go_simp; first | ((with_reducible refine hK _ ?_); clear hK K) | (apply Exists.intro; (with_reducible refine ⟨fun w' hw' => ?_, hK _ ?_⟩); (first | exact rfl | exact ⟨rfl, rfl⟩); clear hK K))
            ((with_reducible refine wpRead_step (fun K hK => ?_)); go_simp; first | ((with_reducible refine hK _ ?_); clear hK K) | (apply Exists.intro; (with_reducible refine ⟨fun w' hw' => ?_, hK _ ?_⟩); (first | exact rfl | exact ⟨rfl, rfl⟩); clear hK K))
            ((with_reducible refine wpRead_step (fun K hK => ?_)); go_simp; first | ((with_reducible refine hK _ ?_); clear hK K) | (apply Exists.intro; (with_reducible refine ⟨fun w' hw' => ?_, hK _ ?_⟩); (first | exact rfl | exact ⟨rfl, rfl⟩); clear hK K))
            ((with_reducible refine wpRead_step (fun K hK => ?_)); go_simp; first | ((with_reducible refine hK _ ?_); clear hK K) | (apply Exists.intro; (with_reducible refine ⟨fun w' hw' => ?_, hK _ ?_⟩); (first | exact rfl | exact ⟨rfl, rfl⟩); clear hK K))
            ((with_reducible refine wpRead_step (fun K hK => ?_)); go_simp; first | ((with_reducible refine hK _ ?_); clear hK K) | (apply Exists.intro; (with_reducible refine ⟨fun w' hw' => ?_, hK _ ?_⟩); ((have f0 := hw' 0 (by decide); have f1 := hw' 1 (by decide); have f2 := hw' 2 (by decide); have f3 := hw' 3 (by decide); simp only [ROpM, Nat.add_zero, List.getElem?_cons_zero, List.getElem?_cons_succ] at f0 f1 f2 f3; go_simp; first | exact rfl | exact ⟨rfl, rfl⟩)); clear hK K))
            ((with_reducible refine wpRead_step (fun K hK => ?_)); go_simp; first | ((with_reducible refine hK _ ?_); clear hK K) | (apply Exists.intro; (with_reducible refine ⟨fun w' hw' => ?_, hK _ ?_⟩); (first | exact rfl | exact ⟨rfl, rfl⟩); clear hK K))
            with_reducible refine wpRead_nil ?_
            refine held_one 5 (by kernel_rfl) ?_
            simp only [pick, List.getD_cons_zero, List.getD_cons_succ]
            go_wp2_with fail
            have hg := mcheck_any (Cts.keep HX.out.1 F6.out.1.bel) y.src y.seq
            rw [HCK.out] at hg
            refine hg.mono ?_
            rintro e V2 ⟨rfl, hb⟩
            clear hg
            have F7 := Lib.hid (And.intro (F6.out.1.keep hb) (RdO.old F6.out.2 F6.out.1.bel (F6.out.1.keep hb).bel HX.out.2.2.2))
            clear hb F6
            go_wp2_with fail
            refine ⟨F7.out.2, ?_⟩
            refine held_reads [7, 8, 9, 10, 11, 12, 13, 14, 15, 16, 17, 18, 19, 21, 22, 23, 24, 25, 26, 27, 28, 29, 30, 31] (g := 4) rfl (by kernel_rfl) F7.out.2 (fun _ _ d _ _ h => by cases d <;> exact h) ?_
            simp only [pick, List.getD_cons_zero, List.getD_cons_succ]
            ((with_reducible refine wpRead_step (fun K hK => ?_)); go_simp; first | ((with_reducible refine hK _ ?_); clear hK K) | (apply Exists.intro; (with_reducible refine ⟨fun w' hw' => ?_, hK _ ?_⟩); (first | exact rfl | exact ⟨rfl, rfl⟩); clear hK K))
            ((with_reducible refine wpRead_step (fun K hK => ?_)); go_simp; first | ((with_reducible refine hK _ ?_); clear hK K) | (apply Exists.intro; (with_reducible refine ⟨fun w' hw' => ?_, hK _ ?_⟩); (first | exact rfl | exact ⟨rfl, rfl⟩); clear hK K))
            ((with_reducible refine wpRead_step (fun K hK => ?_)); go_simp; first | ((with_reducible refine hK _ ?_); clear hK K) | (apply Exists.intro; (with_reducible refine ⟨fun w' hw' => ?_, hK _ ?_⟩); (first | exact rfl | exact ⟨rfl, rfl⟩); clear hK K))
            ((with_reducible refine wpRead_step (fun K hK => ?_)); go_simp; first | ((with_reducible refine hK _ ?_); clear hK K) | (apply Exists.intro; (with_reducible refine ⟨fun w' hw' => ?_, hK _ ?_⟩); (first | exact rfl | exact ⟨rfl, rfl⟩); clear hK K))
            ((with_reducible refine wpRead_step (fun K hK => ?_)); go_simp; first | ((with_reducible refine hK _ ?_); clear hK K) | (apply Exists.intro; (with_reducible refine ⟨fun w' hw' => ?_, hK _ ?_⟩); (first | exact rfl | exact ⟨rfl, rfl⟩); clear hK K))
            ((with_reducible refine wpRead_step (fun K hK => ?_)); go_simp; first | ((with_reducible refine hK _ ?_); clear hK K) | (apply Exists.intro; (with_reducible refine ⟨fun w' hw' => ?_, hK _ ?_⟩); (first | exact rfl | exact ⟨rfl, rfl⟩); clear hK K))
            ((with_reducible refine wpRead_step (fun K hK => ?_)); go_simp; first | ((with_reducible refine hK _ ?_); clear hK K) | (apply Exists.intro; (with_reducible refine ⟨fun w' hw' => ?_, hK _ ?_⟩); (first | exact rfl | exact ⟨rfl, rfl⟩); clear hK K))
            ((with_reducible refine wpRead_step (fun K hK => ?_)); go_simp; first | ((with_reducible refine hK _ ?_); clear hK K) | (apply Exists.intro; (with_reducible refine ⟨fun w' hw' => ?_, hK _ ?_⟩); ((have f0 := hw' 0 (by decide); have f1 := hw' 1 (by decide); have f2 := hw' 2 (by decide); have f3 := hw' 3 (by decide); simp only [ROpM, Nat.add_zero, List.getElem?_cons_zero, List.getElem?_cons_succ] at f0 f1 f2 f3; go_simp; first | exact rfl | exact ⟨rfl, rfl⟩)); clear hK K))
            ((with_reducible refine wpRead_step (fun K hK => ?_)); go_simp; first | ((with_reducible refine hK _ ?_); clear hK K) | (apply Exists.intro; (with_reducible refine ⟨fun w' hw' => ?_, hK _ ?_⟩); (first | exact rfl | exact ⟨rfl, rfl⟩); clear hK K))
            ((with_reducible refine wpRead_step (fun K hK => ?_)); go_simp; first | ((with_reducible refine hK _ ?_); clear hK K) | (apply Exists.intro; (with_reducible refine ⟨fun w' hw' => ?_, hK _ ?_⟩); (first | exact rfl | exact ⟨rfl, rfl⟩); clear hK K))
            ((with_reducible refine wpRead_step (fun K hK => ?_)); go_simp; first | ((with_reducible refine hK _ ?_); clear hK K) | (apply Exists.intro; (with_reducible refine ⟨fun w' hw' => ?_, hK _ ?_⟩); (first | exact rfl | exact ⟨rfl, rfl⟩); clear hK K))
            ((with_reducible refine wpRead_step (fun K hK => ?_)); go_simp; first | ((with_reducible refine hK _ ?_); clear hK K) | (apply Exists.intro; (with_reducible refine ⟨fun w' hw' => ?_, hK _ ?_⟩); (first | exact rfl | exact ⟨rfl, rfl⟩); clear hK K))
            ((with_reducible refine wpRead_step (fun K hK => ?_)); go_simp; first | ((with_reducible refine hK _ ?_); clear hK K) | (apply Exists.intro; (with_reducible refine ⟨fun w' hw' => ?_, hK _ ?_⟩); ((have f0 := hw' 0 (by decide); have f1 := hw' 1 (by decide); have f2 := hw' 2 (by decide); have f3 := hw' 3 (by decide); simp only [ROpM, Nat.add_zero, List.getElem?_cons_zero, List.getElem?_cons_succ] at f0 f1 f2 f3; go_simp; first | exact rfl | exact ⟨rfl, rfl⟩)); clear hK K))
            ((with_reducible refine wpRead_step (fun K hK => ?_)); go_simp; first | ((with_reducible refine hK _ ?_); clear hK K) | (apply Exists.intro; (with_reducible refine ⟨fun w' hw' => ?_, hK _ ?_⟩); (first | exact rfl | exact ⟨rfl, rfl⟩); clear hK K))
            ((with_reducible refine wpRead_step (fun K hK => ?_)); go_simp; first | ((with_reducible refine hK _ ?_); clear hK K) | (apply Exists.intro; (with_reducible refine ⟨fun w' hw' => ?_, hK _ ?_⟩); (first | exact rfl | exact ⟨rfl, rfl⟩); clear hK K))
            ((with_reducible refine wpRead_step (fun K hK => ?_)); go_simp; first | ((with_reducible refine hK _ ?_); clear hK K) | (apply Exists.intro; (with_reducible refine ⟨fun w' hw' => ?_, hK _ ?_⟩); (first | exact rfl | exact ⟨rfl, rfl⟩); clear hK K))
            ((with_reducible refine wpRead_step (fun K hK => ?_)); go_simp; first | ((with_reducible refine hK _ ?_); clear hK K) | (apply Exists.intro; (with_reducible refine ⟨fun w' hw' => ?_, hK _ ?_⟩); (first | exact rfl | exact ⟨rfl, rfl⟩); clear hK K))
            ((with_reducible refine wpRead_step (fun K hK => ?_)); go_simp; first | ((with_reducible refine hK _ ?_); clear hK K) | (apply Exists.intro; (with_reducible refine ⟨fun w' hw' => ?_, hK _ ?_⟩); (first | exact rfl | exact ⟨rfl, rfl⟩); clear hK K))
            ((with_reducible refine wpRead_step (fun K hK => ?_)); go_simp; first | ((with_reducible refine hK _ ?_); clear hK K) | (apply Exists.intro; (with_reducible refine ⟨fun w' hw' => ?_, hK _ ?_⟩); ((have f0 := hw' 0 (by decide); have f1 := hw' 1 (by decide); have f2 := hw' 2 (by decide); have f3 := hw' 3 (by decide); simp only [ROpM, Nat.add_zero, List.getElem?_cons_zero, List.getElem?_cons_succ] at f0 f1 f2 f3; go_simp; first | exact rfl | exact ⟨rfl, rfl⟩)); clear hK K))
            ((with_reducible refine wpRead_step (fun K hK => ?_)); go_simp; first | ((with_reducible refine hK _ ?_); clear hK K) | (apply Exists.intro; (with_reducible refine ⟨fun w' hw' => ?_, hK _ ?_⟩); (first | exact rfl | exact ⟨rfl, rfl⟩); clear hK K))
            ((with_reducible refine wpRead_step (fun K hK => ?_)); go_simp; first | ((with_reducible refine hK _ ?_); clear hK K) | (apply Exists.intro; (with_reducible refine ⟨fun w' hw' => ?_, hK _ ?_⟩); (first | exact rfl | exact ⟨rfl, rfl⟩); clear hK K))
            ((with_reducible refine wpRead_step (fun K hK => ?_)); go_simp; first | ((with_reducible refine hK _ ?_); clear hK K) | (apply Exists.intro; (with_reducible refine ⟨fun w' hw' => ?_, hK _ ?_⟩); (first | exact rfl | exact ⟨rfl, rfl⟩); clear hK K))
            ((with_reducible refine wpRead_step (fun K hK => ?_)); go_simp; first | ((with_reducible refine hK _ ?_); clear hK K) | (apply Exists.intro; (with_reducible refine ⟨fun w' hw' => ?_, hK _ ?_⟩); (first | exact rfl | exact ⟨rfl, rfl⟩); clear hK K))
            ((with_reducible refine wpRead_step (fun K hK => ?_)); go_simp; first | ((with_reducible refine hK _ ?_); clear hK K) | (apply Exists.intro; (with_reducible refine ⟨fun w' hw' => ?_, hK _ ?_⟩); ((have f0 := hw' 0 (by decide); have f1 := hw' 1 (by decide); have f2 := hw' 2 (by decide); have f3 := hw' 3 (by decide); simp only [ROpM, Nat.add_zero, List.getElem?_cons_zero, List.getElem?_cons_succ] at f0 f1 f2 f3; go_simp; first | exact rfl | exact ⟨rfl, rfl⟩)); clear hK K))
            with_reducible refine wpRead_nil ?_
            have HTK := Lib.hid (take_any F7.out.1.met (Cts.keep HX.out.1 F7.out.1.bel) y.src y.seq y.now)
            have HRT := Lib.hid (fun (W : World) (hW : MS w m x q3 p (takeX X y.src y.seq y.s.l y.now) X W) => rtake_any hW.bel hW.ref HX.out.1 y.src y.seq y.now)
            generalize takeX X y.src y.seq y.s.l y.now = Y at *
            generalize takeE X y.src y.seq y.s.l y.now = tv at *
            have htt : (tv != tv) = false := by simp
            have htt2 : (tv == tv) = true := by simp
            refine held_one 20 (by kernel_rfl) ?_
            simp only [pick, List.getD_cons_zero, List.getD_cons_succ]
            go_wp2_with fail
            refine HTK.out.mono ?_
            rintro e V3 ⟨rfl, hs⟩
            have F8 := Lib.hid (And.intro (F7.out.1.take hs) (RdO.old F7.out.2 F7.out.1.bel (F7.out.1.take hs).bel HX.out.2.2.2))
            clear hs F7
            clear HTK
            go_wp2_with fail
            refine ⟨F8.out.2, ?_⟩
            refine held_one 32 (by kernel_rfl) ?_
            simp only [pick, List.getD_cons_zero, List.getD_cons_succ]
            go_wp2_with fail
            refine (HRT.out _ F8.out.1).mono ?_
            rintro e V4 ⟨rfl, hs⟩
            have F9 := Lib.hid (And.intro (F8.out.1.rtake hs) (RdO.old F8.out.2 F8.out.1.bel (F8.out.1.rtake hs).bel HX.out.2.2.2))
            clear hs F8
            clear HRT
            go_wp2_with fail
            refine ⟨F9.out.2, ?_⟩
            refine held_reads [33, 34] (g := 0) rfl (by kernel_rfl) F9.out.2 (fun _ _ d _ _ h => by cases d <;> exact h) ?_
            simp only [pick, List.getD_cons_zero, List.getD_cons_succ]
            ((with_reducible refine wpRead_step (fun K hK => ?_)); go_simp; first | ((with_reducible refine hK _ ?_); clear hK K) | (apply Exists.intro; (with_reducible refine ⟨fun w' hw' => ?_, hK _ ?_⟩); (first | exact rfl | exact ⟨rfl, rfl⟩); clear hK K))
            ((with_reducible refine wpRead_step (fun K hK => ?_)); go_simp; first | ((with_reducible refine hK _ ?_); clear hK K) | (apply Exists.intro; (with_reducible refine ⟨fun w' hw' => ?_, hK _ ?_⟩); (first | exact rfl | exact ⟨rfl, rfl⟩); clear hK K))
            with_reducible refine wpRead_nil ?_
            refine wpAnyH_done (by kernel_rfl) ?_ _
            have hat := F9.out.2
            have y0 := hat 0 (by decide)
            simp only [ROpM, Nat.add_zero, List.getElem?_cons_zero] at y0
            clear hat
            go_wp2_with fail
            have hg := stamp_any F9.out.1.met y.src
            refine hg.mono ?_
            rintro e V5 ⟨rfl, hw⟩
            subst hw
            clear hg
            have hg := rstamp_any F9.out.1.ref y.src
            generalize stampV Y y.src = sv at *
            generalize stampB Y y.src = sb at *
            go_wp2_with fail
            refine hg.mono ?_
            rintro e V6 ⟨rfl, hw⟩
            subst hw
            clear hg y0
            have hsv : (sv != sv) = false := by simp
            have hsb : (sb != sb) = false := by simp
            go_wp2_with fail
            refine wp_region_heldP (BxP q3 p) (by kernel_rfl) ?_
            have hd := (Below.refl V6.heap.size V6).drew
            have J1 := Lib.hid (F9.out.1.keep hd)
            clear hd F9
            generalize V6.drew = V7 at *
            refine held_reads [0, 1, 2, 3, 4, 5, 6, 7, 8, 9, 10, 12, 13] (g := 19) rfl (by kernel_rfl) J1.out.box (fun _ _ d _ _ h => by cases d <;> exact h) ?_
            simp only [pick, List.getD_cons_zero, List.getD_cons_succ]
            ((with_reducible refine wpRead_step (fun K hK => ?_)); go_simp; first | ((with_reducible refine hK _ ?_); clear hK K) | (apply Exists.intro; (with_reducible refine ⟨fun w' hw' => ?_, hK _ ?_⟩); (first | exact rfl | exact ⟨rfl, rfl⟩); clear hK K))
            ((with_reducible refine wpRead_step (fun K hK => ?_)); go_simp; first | ((with_reducible refine hK _ ?_); clear hK K) | (apply Exists.intro; (with_reducible refine ⟨fun w' hw' => ?_, hK _ ?_⟩); (first | exact rfl | exact ⟨rfl, rfl⟩); clear hK K))
            ((with_reducible refine wpRead_step (fun K hK => ?_)); go_simp; first | ((with_reducible refine hK _ ?_); clear hK K) | (apply Exists.intro; (with_reducible refine ⟨fun w' hw' => ?_, hK _ ?_⟩); (first | exact rfl | exact ⟨rfl, rfl⟩); clear hK K))
            ((with_reducible refine wpRead_step (fun K hK => ?_)); go_simp; first | ((with_reducible refine hK _ ?_); clear hK K) | (apply Exists.intro; (with_reducible refine ⟨fun w' hw' => ?_, hK _ ?_⟩); (first | exact rfl | exact ⟨rfl, rfl⟩); clear hK K))
            ((with_reducible refine wpRead_step (fun K hK => ?_)); go_simp; first | ((with_reducible refine hK _ ?_); clear hK K) | (apply Exists.intro; (with_reducible refine ⟨fun w' hw' => ?_, hK _ ?_⟩); (first | exact rfl | exact ⟨rfl, rfl⟩); clear hK K))
            ((with_reducible refine wpRead_step (fun K hK => ?_)); go_simp; first | ((with_reducible refine hK _ ?_); clear hK K) | (apply Exists.intro; (with_reducible refine ⟨fun w' hw' => ?_, hK _ ?_⟩); (first | exact rfl | exact ⟨rfl, rfl⟩); clear hK K))
            ((with_reducible refine wpRead_step (fun K hK => ?_)); go_simp; first | ((with_reducible refine hK _ ?_); clear hK K) | (apply Exists.intro; (with_reducible refine ⟨fun w' hw' => ?_, hK _ ?_⟩); (first | exact rfl | exact ⟨rfl, rfl⟩); clear hK K))
            ((with_reducible refine wpRead_step (fun K hK => ?_)); go_simp; first | ((with_reducible refine hK _ ?_); clear hK K) | (apply Exists.intro; (with_reducible refine ⟨fun w' hw' => ?_, hK _ ?_⟩); (first | exact rfl | exact ⟨rfl, rfl⟩); clear hK K))
            ((with_reducible refine wpRead_step (fun K hK => ?_)); go_simp; first | ((with_reducible refine hK _ ?_); clear hK K) | (apply Exists.intro; (with_reducible refine ⟨fun w' hw' => ?_, hK _ ?_⟩); (first | exact rfl | exact ⟨rfl, rfl⟩); clear hK K))
            ((with_reducible refine wpRead_step (fun K hK => ?_)); go_simp; first | ((with_reducible refine hK _ ?_); clear hK K) | (apply Exists.intro; (with_reducible refine ⟨fun w' hw' => ?_, hK _ ?_⟩); (first | exact rfl | exact ⟨rfl, rfl⟩); clear hK K))
            ((with_reducible refine wpRead_step (fun K hK => ?_)); go_simp; first | ((with_reducible refine hK _ ?_); clear hK K) | (apply Exists.intro; (with_reducible refine ⟨fun w' hw' => ?_, hK _ ?_⟩); ((obtain ⟨f0, f1⟩ := BxP.cells hw'; go_simp; first | exact rfl | exact ⟨rfl, rfl⟩)); clear hK K))
            ((with_reducible refine wpRead_step (fun K hK => ?_)); go_simp; first | ((with_reducible refine hK _ ?_); clear hK K) | (apply Exists.intro; (with_reducible refine ⟨fun w' hw' => ?_, hK _ ?_⟩); (first | exact rfl | exact ⟨rfl, rfl⟩); clear hK K))
            ((with_reducible refine wpRead_step (fun K hK => ?_)); go_simp; first | ((with_reducible refine hK _ ?_); clear hK K) | (apply Exists.intro; (with_reducible refine ⟨fun w' hw' => ?_, hK _ ?_⟩); ((obtain ⟨f0, f1⟩ := BxP.cells hw'; go_simp; first | exact rfl | exact ⟨rfl, rfl⟩)); clear hK K))
            with_reducible refine wpRead_nil ?_
            refine held_one 11 (by kernel_rfl) ?_
            simp only [pick, List.getD_cons_zero, List.getD_cons_succ]
            go_wp2_with fail
            refine (demand_any J1.out.met HL.out.2).mono ?_
            rintro e V8 ⟨rfl, hb⟩
            have J2 := Lib.hid (J1.out.keep hb)
            clear hb J1
            go_wp2_with fail
            refine ⟨J2.out.box, ?_⟩
            refine held_one 14 (by kernel_rfl) ?_
            simp only [pick, List.getD_cons_zero, List.getD_cons_succ]
            go_wp2_with fail
            refine (rdemand_any J2.out.bel J2.out.ref p).mono ?_
            rintro e V9 ⟨rfl, hb⟩
            have J3 := Lib.hid (J2.out.keep hb)
            generalize demI Y p 16 = dv at *
            have hdv : (dv != dv) = false := by simp
            clear hb J2
            go_wp2_with fail
            refine ⟨J3.out.box, ?_⟩
            refine held_reads [15, 16, 17, 18, 20] (g := 12) rfl (by kernel_rfl) J3.out.box (fun _ _ d _ _ h => by cases d <;> exact h) ?_
            simp only [pick, List.getD_cons_zero, List.getD_cons_succ]
            ((with_reducible refine wpRead_step (fun K hK => ?_)); go_simp; first | ((with_reducible refine hK _ ?_); clear hK K) | (apply Exists.intro; (with_reducible refine ⟨fun w' hw' => ?_, hK _ ?_⟩); (first | exact rfl | exact ⟨rfl, rfl⟩); clear hK K))
            ((with_reducible refine wpRead_step (fun K hK => ?_)); go_simp; first | ((with_reducible refine hK _ ?_); clear hK K) | (apply Exists.intro; (with_reducible refine ⟨fun w' hw' => ?_, hK _ ?_⟩); (first | exact rfl | exact ⟨rfl, rfl⟩); clear hK K))
            ((with_reducible refine wpRead_step (fun K hK => ?_)); go_simp; first | ((with_reducible refine hK _ ?_); clear hK K) | (apply Exists.intro; (with_reducible refine ⟨fun w' hw' => ?_, hK _ ?_⟩); (first | exact rfl | exact ⟨rfl, rfl⟩); clear hK K))
            ((with_reducible refine wpRead_step (fun K hK => ?_)); go_simp; first | ((with_reducible refine hK _ ?_); clear hK K) | (apply Exists.intro; (with_reducible refine ⟨fun w' hw' => ?_, hK _ ?_⟩); (first | exact rfl | exact ⟨rfl, rfl⟩); clear hK K))
            ((with_reducible refine wpRead_step (fun K hK => ?_)); go_simp; first | ((with_reducible refine hK _ ?_); clear hK K) | (apply Exists.intro; (with_reducible refine ⟨fun w' hw' => ?_, hK _ ?_⟩); (first | exact rfl | exact ⟨rfl, rfl⟩); clear hK K))
            with_reducible refine wpRead_nil ?_
            refine held_one 19 (by kernel_rfl) ?_
            simp only [pick, List.getD_cons_zero, List.getD_cons_succ]
            go_wp2_with fail
            refine (demands_any J3.out.met).mono ?_
            rintro e V10 ⟨v1, L1, rfl, hr⟩
            obtain ⟨o1, c1, rfl, hs1, -⟩ := hr.own.sl0
            obtain ⟨n1, hn1⟩ : ∃ n1, L1.length = n1 := ⟨_, rfl⟩
            rw [hn1] at hs1 ⊢
            have J4 := Lib.hid (J3.out.keep hr.bel)
            have S1 := Lib.hid (And.intro hs1 hr.dem)
            clear hr hs1 hn1 J3
            go_wp2_with fail
            refine ⟨J4.out.box, ?_⟩
            refine held_one 21 (by kernel_rfl) ?_
            simp only [pick, List.getD_cons_zero, List.getD_cons_succ]
            go_wp2_with fail
            refine (rdemands_any J4.out.bel J4.out.ref).mono ?_
            rintro e V11 ⟨v2, L2, rfl, hr⟩
            have hown := hr.own
            rw [hr.dem.one S1.out.2] at hown
            obtain ⟨o2, c2, rfl, hs2, -⟩ := hown.sl0
            have hn1 : L1.length = n1 := S1.out.1.len.symm
            rw [hn1] at hs2 ⊢
            have J5 := Lib.hid (J4.out.keep hr.bel)
            have S2 := Lib.hid (And.intro (S1.out.1.keep hr.bel) (And.intro hs2 S1.out.2))
            clear hr hown hs2 hn1 J4 S1
            go_wp2_with fail
            refine ⟨J5.out.box, ?_⟩
            refine held_one 22 (by kernel_rfl) ?_
            simp only [pick, List.getD_cons_zero, List.getD_cons_succ]
            go_wp2_with fail
            refine (same17 S2.out.1 S2.out.2.1).mono ?_
            rintro e V12 ⟨rfl, hb⟩
            have J6 := Lib.hid (J5.out.keep hb)
            clear hb J5
            go_wp2_with fail
            refine ⟨J6.out.box, ?_⟩
            refine held_reads [23, 24, 25, 26, 28] (g := 4) rfl (by kernel_rfl) J6.out.box (fun _ _ d _ _ h => by cases d <;> exact h) ?_
            simp only [pick, List.getD_cons_zero, List.getD_cons_succ]
            ((with_reducible refine wpRead_step (fun K hK => ?_)); go_simp; first | ((with_reducible refine hK _ ?_); clear hK K) | (apply Exists.intro; (with_reducible refine ⟨fun w' hw' => ?_, hK _ ?_⟩); (first | exact rfl | exact ⟨rfl, rfl⟩); clear hK K))
            ((with_reducible refine wpRead_step (fun K hK => ?_)); go_simp; first | ((with_reducible refine hK _ ?_); clear hK K) | (apply Exists.intro; (with_reducible refine ⟨fun w' hw' => ?_, hK _ ?_⟩); (first | exact rfl | exact ⟨rfl, rfl⟩); clear hK K))
            ((with_reducible refine wpRead_step (fun K hK => ?_)); go_simp; first | ((with_reducible refine hK _ ?_); clear hK K) | (apply Exists.intro; (with_reducible refine ⟨fun w' hw' => ?_, hK _ ?_⟩); (first | exact rfl | exact ⟨rfl, rfl⟩); clear hK K))
            ((with_reducible refine wpRead_step (fun K hK => ?_)); go_simp; first | ((with_reducible refine hK _ ?_); clear hK K) | (apply Exists.intro; (with_reducible refine ⟨fun w' hw' => ?_, hK _ ?_⟩); (first | exact rfl | exact ⟨rfl, rfl⟩); clear hK K))
            ((with_reducible refine wpRead_step (fun K hK => ?_)); go_simp; first | ((with_reducible refine hK _ ?_); clear hK K) | (apply Exists.intro; (with_reducible refine ⟨fun w' hw' => ?_, hK _ ?_⟩); (first | exact rfl | exact ⟨rfl, rfl⟩); clear hK K))
            with_reducible refine wpRead_nil ?_
            refine held_one 27 (by kernel_rfl) ?_
            simp only [pick, List.getD_cons_zero, List.getD_cons_succ]
            go_wp2_with fail
            refine (over_any J6.out.met).mono ?_
            rintro e V13 ⟨L3, hd3, rfl, hb⟩
            rw [hd3.one S2.out.2.2]
            have J7 := Lib.hid (J6.out.keep hb)
            clear hb hd3 J6
            go_wp2_with fail
            refine ⟨J7.out.box, ?_⟩
            refine held_one 29 (by kernel_rfl) ?_
            simp only [pick, List.getD_cons_zero, List.getD_cons_succ]
            go_wp2_with fail
            refine (rover_any J7.out.bel J7.out.ref).mono ?_
            rintro e V14 ⟨L4, hd4, rfl, hb⟩
            rw [hd4.one S2.out.2.2]
            have J8 := Lib.hid (J7.out.keep hb)
            generalize (sumC L1 == 9007199254740991) = ob at *
            have hob : (ob != ob) = false := by simp
            clear hb hd4 J7
            go_wp2_with fail
            refine ⟨J8.out.box, ?_⟩
            refine held_reads [30, 31] (g := 0) rfl (by kernel_rfl) J8.out.box (fun _ _ d _ _ h => by cases d <;> exact h) ?_
            simp only [pick, List.getD_cons_zero, List.getD_cons_succ]
            ((with_reducible refine wpRead_step (fun K hK => ?_)); go_simp; first | ((with_reducible refine hK _ ?_); clear hK K) | (apply Exists.intro; (with_reducible refine ⟨fun w' hw' => ?_, hK _ ?_⟩); (first | exact rfl | exact ⟨rfl, rfl⟩); clear hK K))
            ((with_reducible refine wpRead_step (fun K hK => ?_)); go_simp; first | ((with_reducible refine hK _ ?_); clear hK K) | (apply Exists.intro; (with_reducible refine ⟨fun w' hw' => ?_, hK _ ?_⟩); (first | exact rfl | exact ⟨rfl, rfl⟩); clear hK K))
            with_reducible refine wpRead_nil ?_
            refine wpAnyH_done (by kernel_rfl) ?_ _
            go_wp2_with fail
            exact ⟨⟨i + 1, Y, hlt, by first | rw [hw3] | rw [Int.natCast_succ], J8.out⟩, by first | (rw [hw3]; exact mSucc hlt) | (rw [← Int.natCast_succ]; exact mSucc hlt)⟩
          | true =>
            have HCK := Lib.hid (show (if chkR y.src y.seq y.s.l then (0 : Int) else 1) = 0 from by rw [hc]; rfl)
            clear hc
            go_wp2_with fail
            refine wp_region_heldP (RdO b (o + i * 4) y) (by kernel_rfl) ?_
            have hd := (Below.refl W5.heap.size W5).drew
            have F6 := Lib.hid (And.intro (F5.out.1.keep hd) (RdO.old F5.out.2 F5.out.1.bel (F5.out.1.keep hd).bel HX.out.2.2.2))
            clear hd F5
            generalize W5.drew = V1 at *
            refine held_reads [0, 1, 2, 3, 4, 6] (g := 29) rfl (by kernel_rfl) F6.out.2 (fun _ _ d _ _ h => by cases d <;> exact h) ?_
            simp only [pick, List.getD_cons_zero, List.getD_cons_succ]
            ((with_reducible refine wpRead_step (fun K hK => ?_)); go_simp; first | ((with_reducible refine hK _ ?_); clear hK K) | (apply Exists.intro; (with_reducible refine ⟨fun w' hw' => ?_, hK _ ?_⟩); (first | exact rfl | exact ⟨rfl, rfl⟩); clear hK K))
            ((with_reducible refine wpRead_step (fun K hK => ?_)); go_simp; first | ((with_reducible refine hK _ ?_); clear hK K) | (apply Exists.intro; (with_reducible refine ⟨fun w' hw' => ?_, hK _ ?_⟩); (first | exact rfl | exact ⟨rfl, rfl⟩); clear hK K))
            ((with_reducible refine wpRead_step (fun K hK => ?_)); go_simp; first | ((with_reducible refine hK _ ?_); clear hK K) | (apply Exists.intro; (with_reducible refine ⟨fun w' hw' => ?_, hK _ ?_⟩); (first | exact rfl | exact ⟨rfl, rfl⟩); clear hK K))
            ((with_reducible refine wpRead_step (fun K hK => ?_)); go_simp; first | ((with_reducible refine hK _ ?_); clear hK K) | (apply Exists.intro; (with_reducible refine ⟨fun w' hw' => ?_, hK _ ?_⟩); (first | exact rfl | exact ⟨rfl, rfl⟩); clear hK K))
            ((with_reducible refine wpRead_step (fun K hK => ?_)); go_simp; first | ((with_reducible refine hK _ ?_); clear hK K) | (apply Exists.intro; (with_reducible refine ⟨fun w' hw' => ?_, hK _ ?_⟩); ((have f0 := hw' 0 (by decide); have f1 := hw' 1 (by decide); have f2 := hw' 2 (by decide); have f3 := hw' 3 (by decide); simp only [ROpM, Nat.add_zero, List.getElem?_cons_zero, List.getElem?_cons_succ] at f0 f1 f2 f3; go_simp; first | exact rfl | exact ⟨rfl, rfl⟩)); clear hK K))
            ((with_reducible refine wpRead_step (fun K hK => ?_)); go_simp; first | ((with_reducible refine hK _ ?_); clear hK K) | (apply Exists.intro; (with_reducible refine ⟨fun w' hw' => ?_, hK _ ?_⟩); (first | exact rfl | exact ⟨rfl, rfl⟩); clear hK K))
            with_reducible refine wpRead_nil ?_
            refine held_one 5 (by kernel_rfl) ?_
            simp only [pick, List.getD_cons_zero, List.getD_cons_succ]
            go_wp2_with fail
            have hg := mcheck_any (Cts.keep HX.out.1 F6.out.1.bel) y.src y.seq
            rw [HCK.out] at hg
            refine hg.mono ?_
            rintro e V2 ⟨rfl, hb⟩
            clear hg
            have F7 := Lib.hid (And.intro (F6.out.1.keep hb) (RdO.old F6.out.2 F6.out.1.bel (F6.out.1.keep hb).bel HX.out.2.2.2))
            clear hb F6
            go_wp2_with fail
            refine ⟨F7.out.2, ?_⟩
            refine held_reads [7, 8, 9, 10, 11, 12, 13, 14, 15, 16, 17, 18, 19, 21, 22, 23, 24, 25, 26, 27, 28, 29, 30, 31] (g := 4) rfl (by kernel_rfl) F7.out.2 (fun _ _ d _ _ h => by cases d <;> exact h) ?_
            simp only [pick, List.getD_cons_zero, List.getD_cons_succ]
            ((with_reducible refine wpRead_step (fun K hK => ?_)); go_simp; first | ((with_reducible refine hK _ ?_); clear hK K) | (apply Exists.intro; (with_reducible refine ⟨fun w' hw' => ?_, hK _ ?_⟩); (first | exact rfl | exact ⟨rfl, rfl⟩); clear hK K))
            ((with_reducible refine wpRead_step (fun K hK => ?_)); go_simp; first | ((with_reducible refine hK _ ?_); clear hK K) | (apply Exists.intro; (with_reducible refine ⟨fun w' hw' => ?_, hK _ ?_⟩); (first | exact rfl | exact ⟨rfl, rfl⟩); clear hK K))
            ((with_reducible refine wpRead_step (fun K hK => ?_)); go_simp; first | ((with_reducible refine hK _ ?_); clear hK K) | (apply Exists.intro; (with_reducible refine ⟨fun w' hw' => ?_, hK _ ?_⟩); (first | exact rfl | exact ⟨rfl, rfl⟩); clear hK K))
            ((with_reducible refine wpRead_step (fun K hK => ?_)); go_simp; first | ((with_reducible refine hK _ ?_); clear hK K) | (apply Exists.intro; (with_reducible refine ⟨fun w' hw' => ?_, hK _ ?_⟩); (first | exact rfl | exact ⟨rfl, rfl⟩); clear hK K))
            ((with_reducible refine wpRead_step (fun K hK => ?_)); go_simp; first | ((with_reducible refine hK _ ?_); clear hK K) | (apply Exists.intro; (with_reducible refine ⟨fun w' hw' => ?_, hK _ ?_⟩); (first | exact rfl | exact ⟨rfl, rfl⟩); clear hK K))
            ((with_reducible refine wpRead_step (fun K hK => ?_)); go_simp; first | ((with_reducible refine hK _ ?_); clear hK K) | (apply Exists.intro; (with_reducible refine ⟨fun w' hw' => ?_, hK _ ?_⟩); (first | exact rfl | exact ⟨rfl, rfl⟩); clear hK K))
            ((with_reducible refine wpRead_step (fun K hK => ?_)); go_simp; first | ((with_reducible refine hK _ ?_); clear hK K) | (apply Exists.intro; (with_reducible refine ⟨fun w' hw' => ?_, hK _ ?_⟩); (first | exact rfl | exact ⟨rfl, rfl⟩); clear hK K))
            ((with_reducible refine wpRead_step (fun K hK => ?_)); go_simp; first | ((with_reducible refine hK _ ?_); clear hK K) | (apply Exists.intro; (with_reducible refine ⟨fun w' hw' => ?_, hK _ ?_⟩); ((have f0 := hw' 0 (by decide); have f1 := hw' 1 (by decide); have f2 := hw' 2 (by decide); have f3 := hw' 3 (by decide); simp only [ROpM, Nat.add_zero, List.getElem?_cons_zero, List.getElem?_cons_succ] at f0 f1 f2 f3; go_simp; first | exact rfl | exact ⟨rfl, rfl⟩)); clear hK K))
            ((with_reducible refine wpRead_step (fun K hK => ?_)); go_simp; first | ((with_reducible refine hK _ ?_); clear hK K) | (apply Exists.intro; (with_reducible refine ⟨fun w' hw' => ?_, hK _ ?_⟩); (first | exact rfl | exact ⟨rfl, rfl⟩); clear hK K))
            ((with_reducible refine wpRead_step (fun K hK => ?_)); go_simp; first | ((with_reducible refine hK _ ?_); clear hK K) | (apply Exists.intro; (with_reducible refine ⟨fun w' hw' => ?_, hK _ ?_⟩); (first | exact rfl | exact ⟨rfl, rfl⟩); clear hK K))
            ((with_reducible refine wpRead_step (fun K hK => ?_)); go_simp; first | ((with_reducible refine hK _ ?_); clear hK K) | (apply Exists.intro; (with_reducible refine ⟨fun w' hw' => ?_, hK _ ?_⟩); (first | exact rfl | exact ⟨rfl, rfl⟩); clear hK K))
            ((with_reducible refine wpRead_step (fun K hK => ?_)); go_simp; first | ((with_reducible refine hK _ ?_); clear hK K) | (apply Exists.intro; (with_reducible refine ⟨fun w' hw' => ?_, hK _ ?_⟩); (first | exact rfl | exact ⟨rfl, rfl⟩); clear hK K))
            ((with_reducible refine wpRead_step (fun K hK => ?_)); go_simp; first | ((with_reducible refine hK _ ?_); clear hK K) | (apply Exists.intro; (with_reducible refine ⟨fun w' hw' => ?_, hK _ ?_⟩); ((have f0 := hw' 0 (by decide); have f1 := hw' 1 (by decide); have f2 := hw' 2 (by decide); have f3 := hw' 3 (by decide); simp only [ROpM, Nat.add_zero, List.getElem?_cons_zero, List.getElem?_cons_succ] at f0 f1 f2 f3; go_simp; first | exact rfl | exact ⟨rfl, rfl⟩)); clear hK K))
            ((with_reducible refine wpRead_step (fun K hK => ?_)); go_simp; first | ((with_reducible refine hK _ ?_); clear hK K) | (apply Exists.intro; (with_reducible refine ⟨fun w' hw' => ?_, hK _ ?_⟩); (first | exact rfl | exact ⟨rfl, rfl⟩); clear hK K))
            ((with_reducible refine wpRead_step (fun K hK => ?_)); go_simp; first | ((with_reducible refine hK _ ?_); clear hK K) | (apply Exists.intro; (with_reducible refine ⟨fun w' hw' => ?_, hK _ ?_⟩); (first | exact rfl | exact ⟨rfl, rfl⟩); clear hK K))
            ((with_reducible refine wpRead_step (fun K hK => ?_)); go_simp; first | ((with_reducible refine hK _ ?_); clear hK K) | (apply Exists.intro; (with_reducible refine ⟨fun w' hw' => ?_, hK _ ?_⟩); (first | exact rfl | exact ⟨rfl, rfl⟩); clear hK K))
            ((with_reducible refine wpRead_step (fun K hK => ?_)); go_simp; first | ((with_reducible refine hK _ ?_); clear hK K) | (apply Exists.intro; (with_reducible refine ⟨fun w' hw' => ?_, hK _ ?_⟩); (first | exact rfl | exact ⟨rfl, rfl⟩); clear hK K))
            ((with_reducible refine wpRead_step (fun K hK => ?_)); go_simp; first | ((with_reducible refine hK _ ?_); clear hK K) | (apply Exists.intro; (with_reducible refine ⟨fun w' hw' => ?_, hK _ ?_⟩); (first | exact rfl | exact ⟨rfl, rfl⟩); clear hK K))
            ((with_reducible refine wpRead_step (fun K hK => ?_)); go_simp; first | ((with_reducible refine hK _ ?_); clear hK K) | (apply Exists.intro; (with_reducible refine ⟨fun w' hw' => ?_, hK _ ?_⟩); ((have f0 := hw' 0 (by decide); have f1 := hw' 1 (by decide); have f2 := hw' 2 (by decide); have f3 := hw' 3 (by decide); simp only [ROpM, Nat.add_zero, List.getElem?_cons_zero, List.getElem?_cons_succ] at f0 f1 f2 f3; go_simp; first | exact rfl | exact ⟨rfl, rfl⟩)); clear hK K))
            ((with_reducible refine wpRead_step (fun K hK => ?_)); go_simp; first | ((with_reducible refine hK _ ?_); clear hK K) | (apply Exists.intro; (with_reducible refine ⟨fun w' hw' => ?_, hK _ ?_⟩); (first | exact rfl | exact ⟨rfl, rfl⟩); clear hK K))
            ((with_reducible refine wpRead_step (fun K hK => ?_)); go_simp; first | ((with_reducible refine hK _ ?_); clear hK K) | (apply Exists.intro; (with_reducible refine ⟨fun w' hw' => ?_, hK _ ?_⟩); (first | exact rfl | exact ⟨rfl, rfl⟩); clear hK K))
            ((with_reducible refine wpRead_step (fun K hK => ?_)); go_simp; first | ((with_reducible refine hK _ ?_); clear hK K) | (apply Exists.intro; (with_reducible refine ⟨fun w' hw' => ?_, hK _ ?_⟩); (first | exact rfl | exact ⟨rfl, rfl⟩); clear hK K))
            ((with_reducible refine wpRead_step (fun K hK => ?_)); go_simp; first | ((with_reducible refine hK _ ?_); clear hK K) | (apply Exists.intro; (with_reducible refine ⟨fun w' hw' => ?_, hK _ ?_⟩); (first | exact rfl | exact ⟨rfl, rfl⟩); clear hK K))
            ((with_reducible refine wpRead_step (fun K hK => ?_)); go_simp; first | ((with_reducible refine hK _ ?_); clear hK K) | (apply Exists.intro; (with_reducible refine ⟨fun w' hw' => ?_, hK _ ?_⟩); ((have f0 := hw' 0 (by decide); have f1 := hw' 1 (by decide); have f2 := hw' 2 (by decide); have f3 := hw' 3 (by decide); simp only [ROpM, Nat.add_zero, List.getElem?_cons_zero, List.getElem?_cons_succ] at f0 f1 f2 f3; go_simp; first | exact rfl | exact ⟨rfl, rfl⟩)); clear hK K))
            with_reducible refine wpRead_nil ?_
            have HTK := Lib.hid (take_any F7.out.1.met (Cts.keep HX.out.1 F7.out.1.bel) y.src y.seq y.now)
            have HRT := Lib.hid (fun (W : World) (hW : MS w m x q3 p (takeX X y.src y.seq y.s.l y.now) X W) => rtake_any hW.bel hW.ref HX.out.1 y.src y.seq y.now)
            generalize takeX X y.src y.seq y.s.l y.now = Y at *
            generalize takeE X y.src y.seq y.s.l y.now = tv at *
            have htt : (tv != tv) = false := by simp
            have htt2 : (tv == tv) = true := by simp
            refine held_one 20 (by kernel_rfl) ?_
            simp only [pick, List.getD_cons_zero, List.getD_cons_succ]
            go_wp2_with fail
            refine HTK.out.mono ?_
            rintro e V3 ⟨rfl, hs⟩
            have F8 := Lib.hid (And.intro (F7.out.1.take hs) (RdO.old F7.out.2 F7.out.1.bel (F7.out.1.take hs).bel HX.out.2.2.2))
            clear hs F7
            clear HTK
            go_wp2_with fail
            refine ⟨F8.out.2, ?_⟩
            refine held_one 32 (by kernel_rfl) ?_
            simp only [pick, List.getD_cons_zero, List.getD_cons_succ]
            go_wp2_with fail
            refine (HRT.out _ F8.out.1).mono ?_
            rintro e V4 ⟨rfl, hs⟩
            have F9 := Lib.hid (And.intro (F8.out.1.rtake hs) (RdO.old F8.out.2 F8.out.1.bel (F8.out.1.rtake hs).bel HX.out.2.2.2))
            clear hs F8
            clear HRT
            go_wp2_with fail
            refine ⟨F9.out.2, ?_⟩
            refine held_reads [33, 34] (g := 0) rfl (by kernel_rfl) F9.out.2 (fun _ _ d _ _ h => by cases d <;> exact h) ?_
            simp only [pick, List.getD_cons_zero, List.getD_cons_succ]
            ((with_reducible refine wpRead_step (fun K hK => ?_)); go_simp; first | ((with_reducible refine hK _ ?_); clear hK K) | (apply Exists.intro; (with_reducible refine ⟨fun w' hw' => ?_, hK _ ?_⟩); (first | exact rfl | exact ⟨rfl, rfl⟩); clear hK K))
            ((with_reducible refine wpRead_step (fun K hK => ?_)); go_simp; first | ((with_reducible refine hK _ ?_); clear hK K) | (apply Exists.intro; (with_reducible refine ⟨fun w' hw' => ?_, hK _ ?_⟩); (first | exact rfl | exact ⟨rfl, rfl⟩); clear hK K))
            with_reducible refine wpRead_nil ?_
            refine wpAnyH_done (by kernel_rfl) ?_ _
            have hat := F9.out.2
            have y0 := hat 0 (by decide)
            simp only [ROpM, Nat.add_zero, List.getElem?_cons_zero] at y0
            clear hat
            go_wp2_with fail
            have hg := stamp_any F9.out.1.met y.src
            refine hg.mono ?_
            rintro e V5 ⟨rfl, hw⟩
            subst hw
            clear hg
            have hg := rstamp_any F9.out.1.ref y.src
            generalize stampV Y y.src = sv at *
            generalize stampB Y y.src = sb at *
            go_wp2_with fail
            refine hg.mono ?_
            rintro e V6 ⟨rfl, hw⟩
            subst hw
            clear hg y0
            have hsv : (sv != sv) = false := by simp
            have hsb : (sb != sb) = false := by simp
            go_wp2_with fail
            refine wp_region_heldP (BxP q3 p) (by kernel_rfl) ?_
            have hd := (Below.refl V6.heap.size V6).drew
            have J1 := Lib.hid (F9.out.1.keep hd)
            clear hd F9
            generalize V6.drew = V7 at *
            refine held_reads [0, 1, 2, 3, 4, 5, 6, 7, 8, 9, 10, 12, 13] (g := 19) rfl (by kernel_rfl) J1.out.box (fun _ _ d _ _ h => by cases d <;> exact h) ?_
            simp only [pick, List.getD_cons_zero, List.getD_cons_succ]
            ((with_reducible refine wpRead_step (fun K hK => ?_)); go_simp; first | ((with_reducible refine hK _ ?_); clear hK K) | (apply Exists.intro; (with_reducible refine ⟨fun w' hw' => ?_, hK _ ?_⟩); (first | exact rfl | exact ⟨rfl, rfl⟩); clear hK K))
            ((with_reducible refine wpRead_step (fun K hK => ?_)); go_simp; first | ((with_reducible refine hK _ ?_); clear hK K) | (apply Exists.intro; (with_reducible refine ⟨fun w' hw' => ?_, hK _ ?_⟩); (first | exact rfl | exact ⟨rfl, rfl⟩); clear hK K))
            ((with_reducible refine wpRead_step (fun K hK => ?_)); go_simp; first | ((with_reducible refine hK _ ?_); clear hK K) | (apply Exists.intro; (with_reducible refine ⟨fun w' hw' => ?_, hK _ ?_⟩); (first | exact rfl | exact ⟨rfl, rfl⟩); clear hK K))
            ((with_reducible refine wpRead_step (fun K hK => ?_)); go_simp; first | ((with_reducible refine hK _ ?_); clear hK K) | (apply Exists.intro; (with_reducible refine ⟨fun w' hw' => ?_, hK _ ?_⟩); (first | exact rfl | exact ⟨rfl, rfl⟩); clear hK K))
            ((with_reducible refine wpRead_step (fun K hK => ?_)); go_simp; first | ((with_reducible refine hK _ ?_); clear hK K) | (apply Exists.intro; (with_reducible refine ⟨fun w' hw' => ?_, hK _ ?_⟩); (first | exact rfl | exact ⟨rfl, rfl⟩); clear hK K))
            ((with_reducible refine wpRead_step (fun K hK => ?_)); go_simp; first | ((with_reducible refine hK _ ?_); clear hK K) | (apply Exists.intro; (with_reducible refine ⟨fun w' hw' => ?_, hK _ ?_⟩); (first | exact rfl | exact ⟨rfl, rfl⟩); clear hK K))
            ((with_reducible refine wpRead_step (fun K hK => ?_)); go_simp; first | ((with_reducible refine hK _ ?_); clear hK K) | (apply Exists.intro; (with_reducible refine ⟨fun w' hw' => ?_, hK _ ?_⟩); (first | exact rfl | exact ⟨rfl, rfl⟩); clear hK K))
            ((with_reducible refine wpRead_step (fun K hK => ?_)); go_simp; first | ((with_reducible refine hK _ ?_); clear hK K) | (apply Exists.intro; (with_reducible refine ⟨fun w' hw' => ?_, hK _ ?_⟩); (first | exact rfl | exact ⟨rfl, rfl⟩); clear hK K))
            ((with_reducible refine wpRead_step (fun K hK => ?_)); go_simp; first | ((with_reducible refine hK _ ?_); clear hK K) | (apply Exists.intro; (with_reducible refine ⟨fun w' hw' => ?_, hK _ ?_⟩); (first | exact rfl | exact ⟨rfl, rfl⟩); clear hK K))
            ((with_reducible refine wpRead_step (fun K hK => ?_)); go_simp; first | ((with_reducible refine hK _ ?_); clear hK K) | (apply Exists.intro; (with_reducible refine ⟨fun w' hw' => ?_, hK _ ?_⟩); (first | exact rfl | exact ⟨rfl, rfl⟩); clear hK K))
            ((with_reducible refine wpRead_step (fun K hK => ?_)); go_simp; first | ((with_reducible refine hK _ ?_); clear hK K) | (apply Exists.intro; (with_reducible refine ⟨fun w' hw' => ?_, hK _ ?_⟩); ((obtain ⟨f0, f1⟩ := BxP.cells hw'; go_simp; first | exact rfl | exact ⟨rfl, rfl⟩)); clear hK K))
            ((with_reducible refine wpRead_step (fun K hK => ?_)); go_simp; first | ((with_reducible refine hK _ ?_); clear hK K) | (apply Exists.intro; (with_reducible refine ⟨fun w' hw' => ?_, hK _ ?_⟩); (first | exact rfl | exact ⟨rfl, rfl⟩); clear hK K))
            ((with_reducible refine wpRead_step (fun K hK => ?_)); go_simp; first | ((with_reducible refine hK _ ?_); clear hK K) | (apply Exists.intro; (with_reducible refine ⟨fun w' hw' => ?_, hK _ ?_⟩); ((obtain ⟨f0, f1⟩ := BxP.cells hw'; go_simp; first | exact rfl | exact ⟨rfl, rfl⟩)); clear hK K))
            with_reducible refine wpRead_nil ?_
            refine held_one 11 (by kernel_rfl) ?_
            simp only [pick, List.getD_cons_zero, List.getD_cons_succ]
            go_wp2_with fail
            refine (demand_any J1.out.met HL.out.2).mono ?_
            rintro e V8 ⟨rfl, hb⟩
            have J2 := Lib.hid (J1.out.keep hb)
            clear hb J1
            go_wp2_with fail
            refine ⟨J2.out.box, ?_⟩
            refine held_one 14 (by kernel_rfl) ?_
            simp only [pick, List.getD_cons_zero, List.getD_cons_succ]
            go_wp2_with fail
            refine (rdemand_any J2.out.bel J2.out.ref p).mono ?_
            rintro e V9 ⟨rfl, hb⟩
            have J3 := Lib.hid (J2.out.keep hb)
            generalize demI Y p 16 = dv at *
            have hdv : (dv != dv) = false := by simp
            clear hb J2
            go_wp2_with fail
            refine ⟨J3.out.box, ?_⟩
            refine held_reads [15, 16, 17, 18, 20] (g := 12) rfl (by kernel_rfl) J3.out.box (fun _ _ d _ _ h => by cases d <;> exact h) ?_
            simp only [pick, List.getD_cons_zero, List.getD_cons_succ]
            ((with_reducible refine wpRead_step (fun K hK => ?_)); go_simp; first | ((with_reducible refine hK _ ?_); clear hK K) | (apply Exists.intro; (with_reducible refine ⟨fun w' hw' => ?_, hK _ ?_⟩); (first | exact rfl | exact ⟨rfl, rfl⟩); clear hK K))
            ((with_reducible refine wpRead_step (fun K hK => ?_)); go_simp; first | ((with_reducible refine hK _ ?_); clear hK K) | (apply Exists.intro; (with_reducible refine ⟨fun w' hw' => ?_, hK _ ?_⟩); (first | exact rfl | exact ⟨rfl, rfl⟩); clear hK K))
            ((with_reducible refine wpRead_step (fun K hK => ?_)); go_simp; first | ((with_reducible refine hK _ ?_); clear hK K) | (apply Exists.intro; (with_reducible refine ⟨fun w' hw' => ?_, hK _ ?_⟩); (first | exact rfl | exact ⟨rfl, rfl⟩); clear hK K))
            ((with_reducible refine wpRead_step (fun K hK => ?_)); go_simp; first | ((with_reducible refine hK _ ?_); clear hK K) | (apply Exists.intro; (with_reducible refine ⟨fun w' hw' => ?_, hK _ ?_⟩); (first | exact rfl | exact ⟨rfl, rfl⟩); clear hK K))
            ((with_reducible refine wpRead_step (fun K hK => ?_)); go_simp; first | ((with_reducible refine hK _ ?_); clear hK K) | (apply Exists.intro; (with_reducible refine ⟨fun w' hw' => ?_, hK _ ?_⟩); (first | exact rfl | exact ⟨rfl, rfl⟩); clear hK K))
            with_reducible refine wpRead_nil ?_
            refine held_one 19 (by kernel_rfl) ?_
            simp only [pick, List.getD_cons_zero, List.getD_cons_succ]
            go_wp2_with fail
            refine (demands_any J3.out.met).mono ?_
            rintro e V10 ⟨v1, L1, rfl, hr⟩
            obtain ⟨o1, c1, rfl, hs1, -⟩ := hr.own.sl0
            obtain ⟨n1, hn1⟩ : ∃ n1, L1.length = n1 := ⟨_, rfl⟩
            rw [hn1] at hs1 ⊢
            have J4 := Lib.hid (J3.out.keep hr.bel)
            have S1 := Lib.hid (And.intro hs1 hr.dem)
            clear hr hs1 hn1 J3
            go_wp2_with fail
            refine ⟨J4.out.box, ?_⟩
            refine held_one 21 (by kernel_rfl) ?_
            simp only [pick, List.getD_cons_zero, List.getD_cons_succ]
            go_wp2_with fail
            refine (rdemands_any J4.out.bel J4.out.ref).mono ?_
            rintro e V11 ⟨v2, L2, rfl, hr⟩
            have hown := hr.own
            rw [hr.dem.one S1.out.2] at hown
            obtain ⟨o2, c2, rfl, hs2, -⟩ := hown.sl0
            have hn1 : L1.length = n1 := S1.out.1.len.symm
            rw [hn1] at hs2 ⊢
            have J5 := Lib.hid (J4.out.keep hr.bel)
            have S2 := Lib.hid (And.intro (S1.out.1.keep hr.bel) (And.intro hs2 S1.out.2))
            clear hr hown hs2 hn1 J4 S1
            go_wp2_with fail
            refine ⟨J5.out.box, ?_⟩
            refine held_one 22 (by kernel_rfl) ?_
            simp only [pick, List.getD_cons_zero, List.getD_cons_succ]
            go_wp2_with fail
            refine (same17 S2.out.1 S2.out.2.1).mono ?_
            rintro e V12 ⟨rfl, hb⟩
            have J6 := Lib.hid (J5.out.keep hb)
            clear hb J5
            go_wp2_with fail
            refine ⟨J6.out.box, ?_⟩
            refine held_reads [23, 24, 25, 26, 28] (g := 4) rfl (by kernel_rfl) J6.out.box (fun _ _ d _ _ h => by cases d <;> exact h) ?_
            simp only [pick, List.getD_cons_zero, List.getD_cons_succ]
            ((with_reducible refine wpRead_step (fun K hK => ?_)); go_simp; first | ((with_reducible refine hK _ ?_); clear hK K) | (apply Exists.intro; (with_reducible refine ⟨fun w' hw' => ?_, hK _ ?_⟩); (first | exact rfl | exact ⟨rfl, rfl⟩); clear hK K))
            ((with_reducible refine wpRead_step (fun K hK => ?_)); go_simp; first | ((with_reducible refine hK _ ?_); clear hK K) | (apply Exists.intro; (with_reducible refine ⟨fun w' hw' => ?_, hK _ ?_⟩); (first | exact rfl | exact ⟨rfl, rfl⟩); clear hK K))
            ((with_reducible refine wpRead_step (fun K hK => ?_)); go_simp; first | ((with_reducible refine hK _ ?_); clear hK K) | (apply Exists.intro; (with_reducible refine ⟨fun w' hw' => ?_, hK _ ?_⟩); (first | exact rfl | exact ⟨rfl, rfl⟩); clear hK K))
            ((with_reducible refine wpRead_step (fun K hK => ?_)); go_simp; first | ((with_reducible refine hK _ ?_); clear hK K) | (apply Exists.intro; (with_reducible refine ⟨fun w' hw' => ?_, hK _ ?_⟩); (first | exact rfl | exact ⟨rfl, rfl⟩); clear hK K))
            ((with_reducible refine wpRead_step (fun K hK => ?_)); go_simp; first | ((with_reducible refine hK _ ?_); clear hK K) | (apply Exists.intro; (with_reducible refine ⟨fun w' hw' => ?_, hK _ ?_⟩); (first | exact rfl | exact ⟨rfl, rfl⟩); clear hK K))
            with_reducible refine wpRead_nil ?_
            refine held_one 27 (by kernel_rfl) ?_
            simp only [pick, List.getD_cons_zero, List.getD_cons_succ]
            go_wp2_with fail
            refine (over_any J6.out.met).mono ?_
            rintro e V13 ⟨L3, hd3, rfl, hb⟩
            rw [hd3.one S2.out.2.2]
            have J7 := Lib.hid (J6.out.keep hb)
            clear hb hd3 J6
            go_wp2_with fail
            refine ⟨J7.out.box, ?_⟩
            refine held_one 29 (by kernel_rfl) ?_
            simp only [pick, List.getD_cons_zero, List.getD_cons_succ]
            go_wp2_with fail
            refine (rover_any J7.out.bel J7.out.ref).mono ?_
            rintro e V14 ⟨L4, hd4, rfl, hb⟩
            rw [hd4.one S2.out.2.2]
            have J8 := Lib.hid (J7.out.keep hb)
            generalize (sumC L1 == 9007199254740991) = ob at *
            have hob : (ob != ob) = false := by simp
            clear hb hd4 J7
            go_wp2_with fail
            refine ⟨J8.out.box, ?_⟩
            refine held_reads [30, 31] (g := 0) rfl (by kernel_rfl) J8.out.box (fun _ _ d _ _ h => by cases d <;> exact h) ?_
            simp only [pick, List.getD_cons_zero, List.getD_cons_succ]
            ((with_reducible refine wpRead_step (fun K hK => ?_)); go_simp; first | ((with_reducible refine hK _ ?_); clear hK K) | (apply Exists.intro; (with_reducible refine ⟨fun w' hw' => ?_, hK _ ?_⟩); (first | exact rfl | exact ⟨rfl, rfl⟩); clear hK K))
            ((with_reducible refine wpRead_step (fun K hK => ?_)); go_simp; first | ((with_reducible refine hK _ ?_); clear hK K) | (apply Exists.intro; (with_reducible refine ⟨fun w' hw' => ?_, hK _ ?_⟩); (first | exact rfl | exact ⟨rfl, rfl⟩); clear hK K))
            with_reducible refine wpRead_nil ?_
            refine wpAnyH_done (by kernel_rfl) ?_ _
            go_wp2_with fail
            exact ⟨⟨i + 1, Y, hlt, by first | rw [hw3] | rw [Int.natCast_succ], J8.out⟩, by first | (rw [hw3]; exact mSucc hlt) | (rw [← Int.natCast_succ]; exact mSucc hlt)⟩
      · have hil : ((i : Int) < (n : Int)) = True := by simp; omega
        have hi40 : ((i : Int) < 40) = False := by simp; omega
        have G := Lib.hid hms.bel
        clear hms
        go_wp2_with fail
        go_ret
        exact ⟨rfl, G.out⟩
    · obtain rfl : n = i := by omega
      have hil : ((n : Int) < (n : Int)) = False := by simp
      have G := Lib.hid hms.bel
      clear hms
      go_wp2_with fail
      go_ret
      exact ⟨rfl, G.out⟩
end Go.Proofs.Ytfmehahjjgalfaa.Me

