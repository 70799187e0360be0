/- CapaTakes: the law's walk. -/
import Derived.Test.YtlkbaplfffbmkaaKak
import Derived.Test.YtlkbaplfffbmkaaKah
namespace Go.Proofs.Ytlkbaplfffbmkaa
open Go.RowKit

structure OpV where
  src : Int
  seq : Int
  a : Option Addr
  n : Nat
  c : Nat
  now : Int
deriving Inhabited
def ROp : Rep OpV := ⟨57, 4, by decide, fun y => [.int .i64 y.src, .int .i64 y.seq, .slice y.a y.n y.c, .int .i64 y.now], fun _ => rfl, fun _ => rfl⟩
def OpS (q : Nat) (y : OpV) (w : World) : Prop := w.heap[q]? = some (.cells #[.int .i64 y.src, .int .i64 y.seq, .slice y.a y.n y.c, .int .i64 y.now] 57)
theorem OpS.cells {q : Nat} {y : OpV} {w : World} (h : OpS q y w) : w.cell? ⟨q, 0, none⟩ = some (.int .i64 y.src) ∧ w.cell? ⟨q, 1, none⟩ = some (.int .i64 y.seq) ∧ w.cell? ⟨q, 2, none⟩ = some (.slice y.a y.n y.c) ∧ w.cell? ⟨q, 3, none⟩ = some (.int .i64 y.now) := ⟨cell_of h rfl, cell_of h rfl, cell_of h rfl, cell_of h rfl⟩
theorem OpS.on {q : Nat} {y : OpV} {w w' : World} (h : OpS q y w) (e : w'.heap[q]? = w.heap[q]?) : OpS q y w' := e.trans h
/-- both sides go together -/
def Sim (w0 w : World) (c bm h x : Nat) (l : List If) : Prop := ∃ (S : Int → Option Cy) (T : Nat → Int × Int × Bool) (base : Nat) (Sq At : Nat → Int), CapS w0 w c bm h (hdOf l) S T ∧ RefS w base x (LS l S) Sq At ∧ SOk S ∧ StEq T Sq At
theorem chk_v {b : Bool} : (((bif b then 0 else 1) : Int) == 0) = b := by cases b <;> rfl
theorem ccheck_v {w : World} {src seq : Int} {oa : Option Addr} {n c : Nat} {L : List Cy} (h : Cys w oa n c L) (b : Bool) (hb : okCs src seq L = b) : Calls Try.prog 25 #[.agg #[.int .i64 src, .int .i64 seq, .slice oa n c]] w fun e w' => ∃ v : Int, e = .returned (.int .i64 v) ∧ (v == 0) = b ∧ Below w.heap.size w w' :=
  (ccheck_any h b hb).mono fun _ _ ⟨he, hw⟩ => ⟨_, he, chk_v, hw⟩
theorem rccheck_v {w : World} {src seq : Int} {oa : Option Addr} {n c : Nat} {L : List Cy} (h : Cys w oa n c L) (b : Bool) (hb : okCs src seq L = b) : Calls Try.prog 26 #[.agg #[.int .i64 src, .int .i64 seq, .slice oa n c]] w fun e w' => e = .returned (.bool b) ∧ Below w.heap.size w w' := by
  subst hb; exact rccheck_any h.sl
theorem Cys.far {w : World} {oa : Option Addr} {n c : Nat} {L : List Cy} (h : Cys w oa n c L) {q : Nat} (hq : w.heap.size ≤ q) : 0 < n → ∀ b o, oa = some ⟨b, o, none⟩ → b ≠ q := fun hn b o e => by
  obtain ⟨b1, o1, e1, hr⟩ := h.sl.row hn
  rw [e] at e1
  injection e1 with e1
  injection e1 with e1
  have := hr.lt
  omega
/-- both Takes, one behind the other -/
structure Both (w0 w1 w2 w3 w4 : World) (c bm h x : Nat) (l : List If) (S : Int → Option Cy) (T : Nat → Int × Int × Bool) (base : Nat) (Sq At : Nat → Int) (y : OpV) (M : List Cy) : Prop where
  cap : CapS w0 w1 c bm h (hdOf l) S T
  ref : RefS w1 base x (LS l S) Sq At
  ok : SOk S
  st : StEq T Sq At
  cx : c < x
  bx : bm < x
theorem Both.mid {w0 w1 w2 w3 w4 : World} {c bm h x : Nat} {l : List If} {S : Int → Option Cy} {T : Nat → Int × Int × Bool} {base : Nat} {Sq At : Nat → Int} {y : OpV} {M : List Cy} (H : Both w0 w1 w2 w3 w4 c bm h x l S T base Sq At y M) (hT : Taken w0 w1 w2 c bm h (hdOf l) S T y.src y.seq y.now M) : RefS w2 base x (LS l S) Sq At :=
  H.ref.on fun k hk hor => hT.but.block k hk (by
    have h1 := H.ref.lt
    have h2 := H.cx
    have h3 := H.bx
    simp only [List.mem_cons, List.not_mem_nil, or_false, not_or]
    omega)
theorem Both.sim {w0 w1 w2 w3 w4 : World} {c bm h x : Nat} {l : List If} (hg : Good l) {S : Int → Option Cy} {T : Nat → Int × Int × Bool} {base : Nat} {Sq At : Nat → Int} {y : OpV} {M : List Cy} (H : Both w0 w1 w2 w3 w4 c bm h x l S T base Sq At y M) (hT : Taken w0 w1 w2 c bm h (hdOf l) S T y.src y.seq y.now M) (hR : RTaken w2 w3 base x (LS l S) Sq At y.src y.seq y.now M) (hx : w0.heap.size ≤ x) : Sim w0 w3 c bm h x l := by
  have hcap := hT.cap.but hR.but (by simp; exact hx) (by simp; have := H.cx; omega) (by simp; have := H.bx; omega)
  by_cases h0 : takeE (hdOf l) T y.src y.seq y.now M = 0
  · rw [if_pos h0, if_pos h0] at hcap
    obtain ⟨e1, e2, e3⟩ := took_is hg H.ok H.st h0
    rw [take_is hg H.ok H.st] at h0
    obtain ⟨b', hr⟩ := hR.yes h0
    rw [e1] at hr
    exact ⟨_, _, _, _, _, hcap, hr, e2, e3⟩
  · rw [if_neg h0, if_neg h0] at hcap
    rw [take_is hg H.ok H.st] at h0
    exact ⟨_, _, _, _, _, hcap, hR.no h0, H.ok, H.st⟩
def LmS (q1 q2 b o : Nat) (r : Cy) (id : Int) (w : World) : Prop := CyS q1 r w ∧ CyS q2 r w ∧ b < w.heap.size ∧ w.cell? ⟨b, o, none⟩ = some (.int .i64 id)
theorem LmS.on {q1 q2 b o : Nat} {r : Cy} {id : Int} {w w' : World} (h : LmS q1 q2 b o r id w) (hb : Below w.heap.size w w') : LmS q1 q2 b o r id w' := ⟨h.1.on hb, h.2.1.on hb, Nat.lt_of_lt_of_le h.2.2.1 hb.size, (cell_same (hb.block _ h.2.2.1)).trans h.2.2.2⟩
def RxS (x : Nat) (v : Value) (w : World) : Prop := x < w.heap.size ∧ w.cell? ⟨x, 0, none⟩ = some v
theorem RxS.on {x : Nat} {v : Value} {w w' : World} (h : RxS x v w) (hb : Below w.heap.size w w') : RxS x v w' := ⟨Nat.lt_of_lt_of_le h.1 hb.size, (cell_same (hb.block _ h.1)).trans h.2⟩
set_option maxRecDepth 100000 in
set_option maxHeartbeats 8000000 in
theorem ctakes_law {w : World} {oa oo : Option Addr} {n cn m cm : Nat} {l : List If} {ops : List OpV} (hl : IfsW w oa n cn l) (ho : ROp.Sl w oo m cm ops) (hM : ∀ y ∈ ops, ∃ M, Cys w y.a y.n y.c M) (p : Int) : Calls Try.prog 7 #[.slice oa n cn, .slice oo m cm, .int .i64 p] w fun e w' => e = .returned (.bool true) ∧ Below w.heap.size w w' := by
  have hlen := hl.ifs.sl.len
  have HL := Lib.hid hlen
  have HI := Lib.hid hl
  have HO := Lib.hid (And.intro ho hM)
  have HOL := Lib.hid ho.len
  have hmm := ho.max
  clear hl hlen ho hM
  by_cases h100 : 100 < n
  · have h3 : ((100 : Int) < (n : Int)) = True := by simp; omega
    clear h100
    go_enter Try.func7, Try.ntmps7
    go_wp2_with fail
    refine (lives18 w).mono ?_
    rintro e W1 ⟨rfl, hb⟩
    have HB := Lib.hid hb
    clear hb
    go_wp2_with fail
    go_ret
    exact ⟨rfl, HB.out⟩
  have h3 : ((100 : Int) < (n : Int)) = False := by simp; omega
  obtain ⟨bg, hbg⟩ : ∃ bg, goodB l = bg := ⟨_, rfl⟩
  have hch := rchk_is HI.out.ifs
  rw [hbg] at hch
  have HCH := Lib.hid hch
  have HG0 := Lib.hid hbg
  clear hbg hch
  cases bg with
  | false =>
    go_enter Try.func7, Try.ntmps7
    go_wp2_with fail
    refine HCH.out.mono ?_
    rintro e W1 ⟨rfl, hb1⟩
    have F1 := Lib.hid hb1
    clear hb1
    go_wp2_with fail
    refine (lives18 _).mono ?_
    rintro e W2 ⟨rfl, hb2⟩
    have F2 := Lib.hid (bcall F1.out (Nat.le_refl _) hb2)
    clear hb2 F1
    go_wp2_with fail
    go_ret
    exact ⟨rfl, F2.out⟩
  | true =>
    have HG := Lib.hid (good_iff.1 HG0.out)
    clear HG0
    go_enter Try.func7, Try.ntmps7
    go_wp2_with fail
    refine HCH.out.mono ?_
    rintro e W1 ⟨rfl, hb1⟩
    have F1 := Lib.hid hb1
    clear hb1 HCH
    go_wp2_with fail
    refine (hnew_ok (HI.out.ifs.keep F1.out) HG.out).mono ?_
    rintro e W2 ⟨h, rfl, hH, hb2⟩
    have F2 := Lib.hid (And.intro (bcall F1.out (Nat.le_refl _) hb2) hH)
    clear hb2 F1 hH
    go_wp2_with fail
    refine (cnew_S F2.out.2).mono ?_
    rintro e W3 ⟨c, bm, rfl, hC⟩
    have F3 := Lib.hid (And.intro F2.out.1 (And.intro (F2.out.1.trans (hC.bel.mono F2.out.1.size)) hC))
    clear hC F2
    go_wp2_with fail
    refine (rcnew_S (HI.out.ifs.keep F3.out.2.1) (by omega)).mono ?_
    rintro e W4 ⟨x, base, rfl, hR, hb4, hx4⟩
    have F4 := Lib.hid (And.intro F3.out.1.size (And.intro (bcall F3.out.2.1 (Nat.le_refl _) hb4) (And.intro (F3.out.2.2.keep hb4) hR)))
    have HX := Lib.hid (And.intro (show c < x from Nat.lt_of_lt_of_le F3.out.2.2.lc.1 hx4) (And.intro (show bm < x from Nat.lt_of_lt_of_le F3.out.2.2.lc.2 hx4) (And.intro (show W2.heap.size ≤ x from Nat.le_trans F3.out.2.2.bel.size hx4) (And.intro F3.out.1.size (And.intro F3.out.2.2.hc F3.out.2.2.hm)))))
    clear hR hb4 hx4 F3
    go_wp2_with fail
    refine (lives18 _).mono ?_
    rintro e W5 ⟨rfl, hb5⟩
    have F5 := Lib.hid (And.intro (bcall F4.out.2.1 (Nat.le_refl _) hb5) (show Sim W2 W5 c bm h x l from ⟨_, _, _, _, _, F4.out.2.2.1.keep hb5, F4.out.2.2.2.keep hb5, SOk.none, StEq.none⟩))
    clear hb5 F4
    go_wp2_with fail
    go_loopw [12] (fun iv wr => ∃ i : Nat, i ≤ m ∧ i ≤ 40 ∧ iv = .int .i64 i ∧ Below w.heap.size w wr ∧ Sim W2 wr c bm h x l) (fun iv _ => m - (intOf iv).toNat)
    case atStart => exact ⟨0, Nat.zero_le _, Nat.zero_le _, rfl, F5.out⟩
    case round =>
      obtain ⟨i, him, hi40, rfl, hb, hsim⟩ := hrel
      obtain ⟨w2, rfl⟩ : ∃ w2 : World, w2 = wr := ⟨_, rfl⟩
      have G0 := Lib.hid (And.intro hb hsim)
      clear hb hsim F5
      by_cases hlt : i < m ∧ i < 40
      · obtain ⟨hlt, hlt2⟩ := hlt
        have hil : ((i : Int) < (m : Int)) = True := by simp; omega
        have hil2 : ((i : Int) < 40) = True := by simp; omega
        have hi0 : ((0 : Int) ≤ (i : Int)) = True := by simp
        have hw3 := wrapS hlt hmm
        have hmem : ops.getD i default ∈ ops := getD_mem (by rw [← HOL.out]; exact hlt)
        obtain ⟨M, hM⟩ := HO.out.2 _ hmem
        obtain ⟨b0, o0, rfl, hbb, hat⟩ := (HO.out.1.keep G0.out.1).at hlt
        generalize ops.getD i default = y at *
        have y0 := hat 0 (by decide)
        have y1 := hat 1 (by decide)
        have y2 := hat 2 (by decide)
        have y3 := hat 3 (by decide)
        simp only [ROp, Nat.add_zero, List.getElem?_cons_zero, List.getElem?_cons_succ] at y0 y1 y2 y3
        have hal := (Below.refl w2.heap.size w2).alloc (Nat.le_refl _) (.cells #[.int .i64 y.src, .int .i64 y.seq, .slice y.a y.n y.c, .int .i64 y.now] 57)
        have hos : OpS w2.heap.size y (w2.alloc (.cells #[.int .i64 y.src, .int .i64 y.seq, .slice y.a y.n y.c, .int .i64 y.now] 57)) := hnew _ _
        obtain ⟨S, T, bs, Sq, At, hc, hr, hs, hst⟩ := G0.out.2
        have hqne : w2.heap.size ≠ c ∧ w2.heap.size ≠ bm ∧ w2.heap.size ≠ x := ⟨Nat.ne_of_gt hc.lc.1, Nat.ne_of_gt hc.lc.2, Nat.ne_of_gt hr.lx⟩
        have G1 := Lib.hid (And.intro (bcall G0.out.1 (Nat.le_refl _) hal) (And.intro hos (And.intro (hc.keep hal) (And.intro (hr.keep hal) (And.intro hs (And.intro hst (And.intro hM hqne)))))))
        obtain ⟨z0, z1, z2, z3⟩ := hos.cells
        clear hat hbb hal hos hc hr hs hst hM hqne hmem G0
        by_cases h1 : 100 < y.n
        · have h1t : ((100 : Int) < (y.n : Int)) = True := by simp; omega
          have HSIM := Lib.hid (show Sim W2 (w2.alloc (.cells #[.int .i64 y.src, .int .i64 y.seq, .slice y.a y.n y.c, .int .i64 y.now] 57)) c bm h x l from ⟨S, T, bs, Sq, At, G1.out.2.2.1, G1.out.2.2.2.1, G1.out.2.2.2.2.1, G1.out.2.2.2.2.2.1⟩)
          clear h1
          go_wp2_with fail
          exact ⟨⟨i + 1, hlt, hlt2, by first | rw [hw3] | rw [Int.natCast_succ], G1.out.1, HSIM.out⟩, by first | (rw [hw3]; exact mSucc hlt) | (rw [← Int.natCast_succ]; exact mSucc hlt)⟩
        have h1f : ((100 : Int) < (y.n : Int)) = False := by simp; omega
        clear h1
        go_wp2_with fail
        clear y0 y1 y2 y3 z0 z1 z2 z3
        generalize w2.alloc (.cells #[.int .i64 y.src, .int .i64 y.seq, .slice y.a y.n y.c, .int .i64 y.now] 57) = W6 at *
        generalize w2.heap.size = q at *
        refine wp_region_heldP (OpS q y) (by kernel_rfl) ?_
        have hd := (Below.refl W6.heap.size W6).drew
        have G2 := Lib.hid (And.intro (bcall G1.out.1 (Nat.le_refl _) hd) (And.intro (G1.out.2.1.on (hd.block _ (lt_of_blk G1.out.2.1))) (And.intro (G1.out.2.2.1.keep hd) (And.intro (G1.out.2.2.2.1.keep hd) G1.out.2.2.2.2))))
        clear hd G1
        generalize W6.drew = W7 at *
        obtain ⟨bc, hbc⟩ : ∃ bc, okCs y.src y.seq M = bc := ⟨_, rfl⟩
        have HBC := Lib.hid hbc
        clear hbc
        refine held_reads [0, 1, 4, 5] (g := 19) rfl (by kernel_rfl) G2.out.2.1 (fun _ _ d _ _ h => by cases d <;> exact h) ?_
        simp only [pick, List.getD_cons_zero, List.getD_cons_succ]
        ((with_reducible refine wpRead_step (fun K hK => ?_)); go_simp; first | ((with_reducible refine hK _ ?_); clear hK K) | (apply Exists.intro; (with_reducible refine ⟨fun w' hw' => ?_, hK _ ?_⟩); (first | exact rfl | exact ⟨rfl, rfl⟩); clear hK K))
        with_reducible refine wpRead_yes ?_ ?_
        rotate_left
        rfl
        intro K hK
        refine read_load 55 _ rfl q 0 #[.int .i64 y.src, .int .i64 y.seq, .slice y.a y.n y.c] rfl (fun w' hw' => rangeAt_block (hw') 0 _ rfl) Try.underlying55 rfl (by kernel_rfl) (hK _ ?_)
        clear hK K
        ((with_reducible refine wpRead_step (fun K hK => ?_)); go_simp; first | ((with_reducible refine hK _ ?_); clear hK K) | (apply Exists.intro; (with_reducible refine ⟨fun w' hw' => ?_, hK _ ?_⟩); (first | exact rfl | exact ⟨rfl, rfl⟩); clear hK K))
        with_reducible refine wpRead_yes ?_ ?_
        rotate_left
        rfl
        intro K hK
        refine read_load 55 _ rfl q 0 #[.int .i64 y.src, .int .i64 y.seq, .slice y.a y.n y.c] rfl (fun w' hw' => rangeAt_block (hw') 0 _ rfl) Try.underlying55 rfl (by kernel_rfl) (hK _ ?_)
        clear hK K
        with_reducible refine wpRead_nil ?_
        refine held_one 2 (by kernel_rfl) ?_
        simp only [pick, List.getD_cons_zero, List.getD_cons_succ]
        go_wp2_with fail
        refine (ccheck_v (G2.out.2.2.2.2.2.2.1.keep G2.out.1) bc HBC.out).mono ?_
        rintro e W8 ⟨v, rfl, hv, hb⟩
        have G3 := Lib.hid (And.intro (bcall G2.out.1 (Nat.le_refl _) hb) (And.intro (G2.out.2.1.on (hb.block _ (lt_of_blk G2.out.2.1))) (And.intro (G2.out.2.2.1.keep hb) (And.intro (G2.out.2.2.2.1.keep hb) G2.out.2.2.2.2))))
        clear hb G2
        go_wp2_with fail
        refine ⟨G3.out.2.1, ?_⟩
        refine held_reads [3] (g := 17) rfl (by kernel_rfl) G3.out.2.1 (fun _ _ d _ _ h => by cases d <;> exact h) ?_
        simp only [pick, List.getD_cons_zero, List.getD_cons_succ]
        ((with_reducible refine wpRead_step (fun K hK => ?_)); go_simp; first | ((with_reducible refine hK _ ?_); clear hK K) | (apply Exists.intro; (with_reducible refine ⟨fun w' hw' => ?_, hK _ ?_⟩); (first | exact rfl | exact ⟨rfl, rfl⟩); clear hK K))
        with_reducible refine wpRead_nil ?_
        refine held_one 6 (by kernel_rfl) ?_
        simp only [pick, List.getD_cons_zero, List.getD_cons_succ]
        go_wp2_with fail
        refine (rccheck_v (G3.out.2.2.2.2.2.2.1.keep G3.out.1) bc HBC.out).mono ?_
        rintro e W9 ⟨rfl, hb⟩
        have G4 := Lib.hid (And.intro (bcall G3.out.1 (Nat.le_refl _) hb) (And.intro (G3.out.2.1.on (hb.block _ (lt_of_blk G3.out.2.1))) (And.intro (G3.out.2.2.1.keep hb) (And.intro (G3.out.2.2.2.1.keep hb) G3.out.2.2.2.2))))
        clear hb G3
        go_wp2_with fail
        refine ⟨G4.out.2.1, ?_⟩
        refine held_reads [7, 8, 9, 10, 11, 12, 13, 15, 16, 17, 18, 19] (g := 4) rfl (by kernel_rfl) G4.out.2.1 (fun _ _ d _ _ h => by cases d <;> exact h) ?_
        simp only [pick, List.getD_cons_zero, List.getD_cons_succ]
        ((with_reducible refine wpRead_step (fun K hK => ?_)); go_simp; first | ((with_reducible refine hK _ ?_); clear hK K) | (apply Exists.intro; (with_reducible refine ⟨fun w' hw' => ?_, hK _ ?_⟩); (first | exact rfl | exact ⟨rfl, rfl⟩); clear hK K))
        ((with_reducible refine wpRead_step (fun K hK => ?_)); go_simp; first | ((with_reducible refine hK _ ?_); clear hK K) | (apply Exists.intro; (with_reducible refine ⟨fun w' hw' => ?_, hK _ ?_⟩); (first | exact rfl | exact ⟨rfl, rfl⟩); clear hK K))
        ((with_reducible refine wpRead_step (fun K hK => ?_)); go_simp; first | ((with_reducible refine hK _ ?_); clear hK K) | (apply Exists.intro; (with_reducible refine ⟨fun w' hw' => ?_, hK _ ?_⟩); (first | exact rfl | exact ⟨rfl, rfl⟩); clear hK K))
        ((with_reducible refine wpRead_step (fun K hK => ?_)); go_simp; first | ((with_reducible refine hK _ ?_); clear hK K) | (apply Exists.intro; (with_reducible refine ⟨fun w' hw' => ?_, hK _ ?_⟩); (first | exact rfl | exact ⟨rfl, rfl⟩); clear hK K))
        with_reducible refine wpRead_yes ?_ ?_
        rotate_left
        rfl
        intro K hK
        refine read_load 55 _ rfl q 0 #[.int .i64 y.src, .int .i64 y.seq, .slice y.a y.n y.c] rfl (fun w' hw' => rangeAt_block (hw') 0 _ rfl) Try.underlying55 rfl (by kernel_rfl) (hK _ ?_)
        clear hK K
        ((with_reducible refine wpRead_step (fun K hK => ?_)); go_simp; first | ((with_reducible refine hK _ ?_); clear hK K) | (apply Exists.intro; (with_reducible refine ⟨fun w' hw' => ?_, hK _ ?_⟩); (first | exact rfl | exact ⟨rfl, rfl⟩); clear hK K))
        ((with_reducible refine wpRead_step (fun K hK => ?_)); go_simp; first | ((with_reducible refine hK _ ?_); clear hK K) | (apply Exists.intro; (with_reducible refine ⟨fun w' hw' => ?_, hK _ ?_⟩); (obtain ⟨f0, f1, f2, f3⟩ := OpS.cells hw'; go_simp; first | exact rfl | exact ⟨rfl, rfl⟩); clear hK K))
        ((with_reducible refine wpRead_step (fun K hK => ?_)); go_simp; first | ((with_reducible refine hK _ ?_); clear hK K) | (apply Exists.intro; (with_reducible refine ⟨fun w' hw' => ?_, hK _ ?_⟩); (first | exact rfl | exact ⟨rfl, rfl⟩); clear hK K))
        ((with_reducible refine wpRead_step (fun K hK => ?_)); go_simp; first | ((with_reducible refine hK _ ?_); clear hK K) | (apply Exists.intro; (with_reducible refine ⟨fun w' hw' => ?_, hK _ ?_⟩); (first | exact rfl | exact ⟨rfl, rfl⟩); clear hK K))
        with_reducible refine wpRead_yes ?_ ?_
        rotate_left
        rfl
        intro K hK
        refine read_load 55 _ rfl q 0 #[.int .i64 y.src, .int .i64 y.seq, .slice y.a y.n y.c] rfl (fun w' hw' => rangeAt_block (hw') 0 _ rfl) Try.underlying55 rfl (by kernel_rfl) (hK _ ?_)
        clear hK K
        ((with_reducible refine wpRead_step (fun K hK => ?_)); go_simp; first | ((with_reducible refine hK _ ?_); clear hK K) | (apply Exists.intro; (with_reducible refine ⟨fun w' hw' => ?_, hK _ ?_⟩); (first | exact rfl | exact ⟨rfl, rfl⟩); clear hK K))
        ((with_reducible refine wpRead_step (fun K hK => ?_)); go_simp; first | ((with_reducible refine hK _ ?_); clear hK K) | (apply Exists.intro; (with_reducible refine ⟨fun w' hw' => ?_, hK _ ?_⟩); (obtain ⟨f0, f1, f2, f3⟩ := OpS.cells hw'; go_simp; first | exact rfl | exact ⟨rfl, rfl⟩); clear hK K))
        with_reducible refine wpRead_nil ?_
        obtain ⟨te, hte⟩ : ∃ te, takeE (hdOf l) T y.src y.seq y.now M = te := ⟨_, rfl⟩
        have hrte := (take_is HG.out G4.out.2.2.2.2.1 G4.out.2.2.2.2.2.1 y.src y.seq y.now M).symm.trans hte
        have HT1 := Lib.hid (ctake_any G4.out.2.2.1 (src := y.src) (seq := y.seq) (G4.out.2.2.2.2.2.2.1.keep G4.out.1) (fun hn b o e => ⟨G4.out.2.2.2.2.2.2.1.far (Nat.le_trans HX.out.2.2.2.1 HX.out.2.2.2.2.1) hn b o e, G4.out.2.2.2.2.2.2.1.far (Nat.le_trans HX.out.2.2.2.1 HX.out.2.2.2.2.2) hn b o e⟩) y.now)
        rw [hte] at HT1
        have HTE := Lib.hid (And.intro hte hrte)
        clear hte hrte
        refine held_one 14 (by kernel_rfl) ?_
        simp only [pick, List.getD_cons_zero, List.getD_cons_succ]
        go_wp2_with fail
        refine HT1.out.mono ?_
        rintro e W10 ⟨rfl, hT⟩
        have hBo : Both W2 W9 W10 W10 W10 c bm h x l S T bs Sq At y M := ⟨G4.out.2.2.1, G4.out.2.2.2.1, G4.out.2.2.2.2.1, G4.out.2.2.2.2.2.1, HX.out.1, HX.out.2.1⟩
        have hbw : Below w.heap.size w W10 := Below.step G4.out.1 G4.out.1.size hT.but (by simp; exact ⟨Nat.le_trans HX.out.2.2.2.1 HX.out.2.2.2.2.1, Nat.le_trans HX.out.2.2.2.1 HX.out.2.2.2.2.2⟩)
        have hos : OpS q y W10 := G4.out.2.1.on (hT.but.block _ (lt_of_blk G4.out.2.1) (by simp; exact ⟨G4.out.2.2.2.2.2.2.2.1, G4.out.2.2.2.2.2.2.2.2.1⟩))
        have HT2 := rtake_any (hBo.mid hT) (src := y.src) (seq := y.seq) (G4.out.2.2.2.2.2.2.1.keep hbw) (G4.out.2.2.2.2.2.2.1.far (Nat.le_trans HX.out.2.2.2.1 HX.out.2.2.1)) (by rw [LS_len, ← HL.out]; omega) y.now
        rw [HTE.out.2] at HT2
        have HT3 := Lib.hid HT2
        have G5 := Lib.hid (And.intro hbw (And.intro hos (And.intro hT (And.intro hBo G4.out.2.2.2.2.2.2.2.2.2))))
        clear hT hBo hbw hos HT2 HT1 G4
        go_wp2_with fail
        refine ⟨G5.out.2.1, ?_⟩
        refine held_one 20 (by kernel_rfl) ?_
        simp only [pick, List.getD_cons_zero, List.getD_cons_succ]
        go_wp2_with fail
        refine HT3.out.mono ?_
        rintro e W11 ⟨rfl, hR⟩
        have hbw : Below w.heap.size w W11 := Below.step G5.out.1 G5.out.1.size hR.but (by simp; exact Nat.le_trans HX.out.2.2.2.1 HX.out.2.2.1)
        have hos : OpS q y W11 := G5.out.2.1.on (hR.but.block _ (lt_of_blk G5.out.2.1) (by simp; exact G5.out.2.2.2.2))
        have hsim : Sim W2 W11 c bm h x l := Both.sim (w4 := W11) (w3 := W11) HG.out (show Both W2 W9 W10 W11 W11 c bm h x l S T bs Sq At y M from ⟨G5.out.2.2.2.1.cap, G5.out.2.2.2.1.ref, G5.out.2.2.2.1.ok, G5.out.2.2.2.1.st, G5.out.2.2.2.1.cx, G5.out.2.2.2.1.bx⟩) G5.out.2.2.1 hR HX.out.2.2.1
        have G6 := Lib.hid (And.intro hbw (And.intro hos hsim))
        clear hR hbw hos hsim HT3 G5 HTE HBC
        go_wp2_with fail
        refine ⟨G6.out.2.1, ?_⟩
        refine held_reads [21, 22] (g := 0) rfl (by kernel_rfl) G6.out.2.1 (fun _ _ d _ _ h => by cases d <;> exact h) ?_
        simp only [pick, List.getD_cons_zero, List.getD_cons_succ]
        ((with_reducible refine wpRead_step (fun K hK => ?_)); go_simp; first | ((with_reducible refine hK _ ?_); clear hK K) | (apply Exists.intro; (with_reducible refine ⟨fun w' hw' => ?_, hK _ ?_⟩); (first | exact rfl | exact ⟨rfl, rfl⟩); clear hK K))
        ((with_reducible refine wpRead_step (fun K hK => ?_)); go_simp; first | ((with_reducible refine hK _ ?_); clear hK K) | (apply Exists.intro; (with_reducible refine ⟨fun w' hw' => ?_, hK _ ?_⟩); (first | exact rfl | exact ⟨rfl, rfl⟩); clear hK K))
        with_reducible refine wpRead_nil ?_
        refine wpAnyH_done (by kernel_rfl) ?_ _
        obtain ⟨z0, z1, z2, z3⟩ := G6.out.2.1.cells
        obtain ⟨S1, T1, bs1, Sq1, At1, hc, hr, hs, hst⟩ := G6.out.2.2
        obtain ⟨a, is, ha⟩ : ∃ a is, stO T1 y.src = (a, is) := ⟨_, _, rfl⟩
        have hb := (st_is hst y.src).symm.trans ha
        have G7 := Lib.hid (And.intro G6.out.1 (And.intro G6.out.2.1 (And.intro hc (And.intro hr (And.intro hs (And.intro hst (And.intro ha hb)))))))
        clear hc hr hs hst ha hb G6
        go_wp2_with fail
        refine (stamp_any G7.out.2.2.1 y.src a is G7.out.2.2.2.2.2.2.1).mono ?_
        rintro e W12 ⟨rfl, hb⟩
        have G8 := Lib.hid (And.intro (bcall G7.out.1 (Nat.le_refl _) hb) (And.intro (G7.out.2.1.on (hb.block _ (lt_of_blk G7.out.2.1))) (And.intro (G7.out.2.2.1.keep hb) (And.intro (G7.out.2.2.2.1.keep hb) G7.out.2.2.2.2))))
        clear hb G7 z0 z1 z2 z3
        obtain ⟨z0, z1, z2, z3⟩ := G8.out.2.1.cells
        go_wp2_with fail
        refine (rstamp_any G8.out.2.2.2.1 y.src a is G8.out.2.2.2.2.2.2.2).mono ?_
        rintro e W13 ⟨rfl, hb⟩
        have G9 := Lib.hid (And.intro (bcall G8.out.1 (Nat.le_refl _) hb) (And.intro (G8.out.2.2.1.keep hb) (And.intro (G8.out.2.2.2.1.keep hb) (And.intro G8.out.2.2.2.2.1 G8.out.2.2.2.2.2.1))))
        clear hb G8 z0 z1 z2 z3
        go_wp2_with fail
        have hd := (Below.refl W13.heap.size W13).drew
        obtain ⟨a9, c9, hx0, -, -, -, hsl9, -, -⟩ := (G9.out.2.2.1.keep hd).sl
        rw [LS_len, ← HL.out] at hx0 hsl9
        have G10 := Lib.hid (And.intro (bcall G9.out.1 (Nat.le_refl _) hd) (And.intro (G9.out.2.1.keep hd) (And.intro (G9.out.2.2.1.keep hd) (And.intro G9.out.2.2.2 (And.intro (show RxS x (.slice a9 n c9) W13.drew from ⟨G9.out.2.2.1.lx, hx0⟩) hsl9)))))
        clear hd hx0 hsl9 G9
        refine wp_region_heldP (RxS x (.slice a9 n c9)) (by kernel_rfl) ?_
        generalize W13.drew = W14 at *
        refine held_reads [0, 1, 2, 3, 4, 5, 6, 7, 8, 9, 11, 12, 13, 14] (g := 4) rfl (by kernel_rfl) G10.out.2.2.2.2.1 (fun _ _ d _ _ h => by cases d <;> exact h) ?_
        simp only [pick, List.getD_cons_zero, List.getD_cons_succ]
        ((with_reducible refine wpRead_step (fun K hK => ?_)); go_simp; first | ((with_reducible refine hK _ ?_); clear hK K) | (apply Exists.intro; (with_reducible refine ⟨fun w' hw' => ?_, hK _ ?_⟩); (first | exact rfl | exact ⟨rfl, rfl⟩); clear hK K))
        ((with_reducible refine wpRead_step (fun K hK => ?_)); go_simp; first | ((with_reducible refine hK _ ?_); clear hK K) | (apply Exists.intro; (with_reducible refine ⟨fun w' hw' => ?_, hK _ ?_⟩); (first | exact rfl | exact ⟨rfl, rfl⟩); clear hK K))
        ((with_reducible refine wpRead_step (fun K hK => ?_)); go_simp; first | ((with_reducible refine hK _ ?_); clear hK K) | (apply Exists.intro; (with_reducible refine ⟨fun w' hw' => ?_, hK _ ?_⟩); (first | exact rfl | exact ⟨rfl, rfl⟩); clear hK K))
        ((with_reducible refine wpRead_step (fun K hK => ?_)); go_simp; first | ((with_reducible refine hK _ ?_); clear hK K) | (apply Exists.intro; (with_reducible refine ⟨fun w' hw' => ?_, hK _ ?_⟩); (first | exact rfl | exact ⟨rfl, rfl⟩); clear hK K))
        ((with_reducible refine wpRead_step (fun K hK => ?_)); go_simp; first | ((with_reducible refine hK _ ?_); clear hK K) | (apply Exists.intro; (with_reducible refine ⟨fun w' hw' => ?_, hK _ ?_⟩); (first | exact rfl | exact ⟨rfl, rfl⟩); clear hK K))
        ((with_reducible refine wpRead_step (fun K hK => ?_)); go_simp; first | ((with_reducible refine hK _ ?_); clear hK K) | (apply Exists.intro; (with_reducible refine ⟨fun w' hw' => ?_, hK _ ?_⟩); (first | exact rfl | exact ⟨rfl, rfl⟩); clear hK K))
        ((with_reducible refine wpRead_step (fun K hK => ?_)); go_simp; first | ((with_reducible refine hK _ ?_); clear hK K) | (apply Exists.intro; (with_reducible refine ⟨fun w' hw' => ?_, hK _ ?_⟩); (first | exact rfl | exact ⟨rfl, rfl⟩); clear hK K))
        ((with_reducible refine wpRead_step (fun K hK => ?_)); go_simp; first | ((with_reducible refine hK _ ?_); clear hK K) | (apply Exists.intro; (with_reducible refine ⟨fun w' hw' => ?_, hK _ ?_⟩); (first | exact rfl | exact ⟨rfl, rfl⟩); clear hK K))
        ((with_reducible refine wpRead_step (fun K hK => ?_)); go_simp; first | ((with_reducible refine hK _ ?_); clear hK K) | (apply Exists.intro; (with_reducible refine ⟨fun w' hw' => ?_, hK _ ?_⟩); (first | exact rfl | exact ⟨rfl, rfl⟩); clear hK K))
        ((with_reducible refine wpRead_step (fun K hK => ?_)); go_simp; first | ((with_reducible refine hK _ ?_); clear hK K) | (apply Exists.intro; (with_reducible refine ⟨fun w' hw' => ?_, hK _ ?_⟩); (first | exact rfl | exact ⟨rfl, rfl⟩); clear hK K))
        ((with_reducible refine wpRead_step (fun K hK => ?_)); go_simp; first | ((with_reducible refine hK _ ?_); clear hK K) | (apply Exists.intro; (with_reducible refine ⟨fun w' hw' => ?_, hK _ ?_⟩); (first | exact rfl | exact ⟨rfl, rfl⟩); clear hK K))
        ((with_reducible refine wpRead_step (fun K hK => ?_)); go_simp; first | ((with_reducible refine hK _ ?_); clear hK K) | (apply Exists.intro; (with_reducible refine ⟨fun w' hw' => ?_, hK _ ?_⟩); (first | exact rfl | exact ⟨rfl, rfl⟩); clear hK K))
        ((with_reducible refine wpRead_step (fun K hK => ?_)); go_simp; first | ((with_reducible refine hK _ ?_); clear hK K) | (apply Exists.intro; (with_reducible refine ⟨fun w' hw' => ?_, hK _ ?_⟩); (first | exact rfl | exact ⟨rfl, rfl⟩); clear hK K))
        ((with_reducible refine wpRead_step (fun K hK => ?_)); go_simp; first | ((with_reducible refine hK _ ?_); clear hK K) | (apply Exists.intro; (with_reducible refine ⟨fun w' hw' => ?_, hK _ ?_⟩); (obtain ⟨f1, f0⟩ := hw'; go_simp; first | exact rfl | exact ⟨rfl, rfl⟩); clear hK K))
        with_reducible refine wpRead_nil ?_
        refine held_one 10 (by kernel_rfl) ?_
        simp only [pick, List.getD_cons_zero, List.getD_cons_succ]
        go_wp2_with fail
        refine (callC_any G10.out.2.1.at HG.out).mono ?_
        rintro e W15 ⟨v10, rfl, hown, hb⟩
        obtain ⟨a10, c10, rfl, hsl, -⟩ := hown.sl0
        rw [show ((sortI l).map (cyOf S1)).length = n by rw [List.length_map, sortI_length, HL.out]] at hsl ⊢
        have G11 := Lib.hid (And.intro (bcall G10.out.1 (Nat.le_refl _) hb) (And.intro (G10.out.2.1.keep hb) (And.intro (G10.out.2.2.1.keep hb) (And.intro G10.out.2.2.2.1 (And.intro (G10.out.2.2.2.2.1.on hb) (And.intro (G10.out.2.2.2.2.2.keep hb) (show RCy.Sl W15 a10 n c10 (LS l S1) from hsl)))))))
        clear hown hb hsl G10
        go_wp2_with fail
        refine ⟨G11.out.2.2.2.2.1, ?_⟩
        refine held_one 15 (by kernel_rfl) ?_
        simp only [pick, List.getD_cons_zero, List.getD_cons_succ]
        go_wp2_with fail
        refine (rsameC G11.out.2.2.2.2.2.2 G11.out.2.2.2.2.2.1).mono ?_
        rintro e W16 ⟨rfl, hb⟩
        have G12 := Lib.hid (And.intro (bcall G11.out.1 (Nat.le_refl _) hb) (And.intro (G11.out.2.1.keep hb) (And.intro (G11.out.2.2.1.keep hb) (And.intro G11.out.2.2.2.1 (G11.out.2.2.2.2.1.on hb)))))
        clear hb G11
        go_wp2_with fail
        refine ⟨G12.out.2.2.2.2, ?_⟩
        refine held_reads [16, 17] (g := 0) rfl (by kernel_rfl) G12.out.2.2.2.2 (fun _ _ d _ _ h => by cases d <;> exact h) ?_
        simp only [pick, List.getD_cons_zero, List.getD_cons_succ]
        ((with_reducible refine wpRead_step (fun K hK => ?_)); go_simp; first | ((with_reducible refine hK _ ?_); clear hK K) | (apply Exists.intro; (with_reducible refine ⟨fun w' hw' => ?_, hK _ ?_⟩); (first | exact rfl | exact ⟨rfl, rfl⟩); clear hK K))
        ((with_reducible refine wpRead_step (fun K hK => ?_)); go_simp; first | ((with_reducible refine hK _ ?_); clear hK K) | (apply Exists.intro; (with_reducible refine ⟨fun w' hw' => ?_, hK _ ?_⟩); (first | exact rfl | exact ⟨rfl, rfl⟩); clear hK K))
        with_reducible refine wpRead_nil ?_
        refine wpAnyH_done (by kernel_rfl) ?_ _
        go_wp2_with fail
        go_loopw [18] (fun kv wr => ∃ k : Nat, k ≤ n ∧ kv = .int .i64 k ∧ Below W16.heap.size W16 wr) (fun kv _ => n - (intOf kv).toNat)
        case atStart => exact ⟨0, Nat.zero_le _, rfl, Below.refl _ _⟩
        case round =>
          obtain ⟨k, hkn, rfl, hb⟩ := hrel
          obtain ⟨w5, rfl⟩ : ∃ w5 : World, w5 = wr := ⟨_, rfl⟩
          have J0 := Lib.hid (And.intro (bcall G12.out.1 (Nat.le_refl _) hb) (And.intro (G12.out.2.1.keep hb) (And.intro (G12.out.2.2.1.keep hb) (And.intro hb G12.out.2.2.2.1))))
          clear hb
          by_cases hkt : k < n
          · have hki : ((k : Int) < (n : Int)) = True := by simp; omega
            have hk0 : ((0 : Int) ≤ (k : Int)) = True := by simp
            have hwk := wrapS hkt (show n ≤ maxLen by unfold maxLen; omega)
            have hxm : l.getD k default ∈ l := getD_mem (by rw [← HL.out]; exact hkt)
            obtain ⟨b1, o1, rfl, hbb, hat⟩ := (HI.out.ifs.sl.keep J0.out.1).at hkt
            have y0 := hat 0 (by decide)
            simp only [RIf, Nat.add_zero, List.getElem?_cons_zero] at y0
            generalize l.getD k default = xk at *
            have hcg := cget_of HG.out hxm S1
            have hgl := getL_of HG.out J0.out.2.2.2.2.1 hxm
            have hcp := cyOf_cp HG.out J0.out.2.2.2.2.1 hxm
            have hid := okId HG.out hxm
            generalize cyOf S1 xk = r at *
            generalize xk.id = xid at *
            have J1 := Lib.hid (And.intro J0.out.2.1 (And.intro J0.out.2.2.1 (And.intro J0.out.2.2.2.1 (And.intro hbb y0))))
            have JC := Lib.hid (And.intro hcg (And.intro hgl (And.intro hcp hid)))
            clear hat hbb hcg hgl hcp hid hxm J0
            go_wp2_with fail
            refine (get_any J1.out.1.at JC.out.2.2.2 r true JC.out.1 (fun h => by cases h)).mono ?_
            rintro e W17 ⟨rfl, hb⟩
            unfold Cy.v
            have hal := (Below.refl W17.heap.size W17).alloc (Nat.le_refl _) (.cells #[.int .i64 r.id, .int .i64 r.cp, .bool r.dr] 69)
            have hcy : CyS W17.heap.size r (W17.alloc (.cells #[.int .i64 r.id, .int .i64 r.cp, .bool r.dr] 69)) := hnew _ _
            have hbb := bcall hb (Nat.le_refl _) hal
            have J2 := Lib.hid (And.intro (J1.out.1.keep hbb) (And.intro (J1.out.2.1.keep hbb) (And.intro (bcall J1.out.2.2.1 (Nat.le_refl _) hbb) (And.intro (Nat.lt_of_lt_of_le J1.out.2.2.2.1 hbb.size) (And.intro ((cell_same (hbb.block _ J1.out.2.2.2.1)).trans J1.out.2.2.2.2) hcy)))))
            clear hal hcy hb hbb J1 y0
            have y0 := J2.out.2.2.2.2.1
            go_wp2_with fail
            clear y0
            generalize W17.alloc (.cells #[.int .i64 r.id, .int .i64 r.cp, .bool r.dr] 69) = W18 at *
            generalize W17.heap.size = q17 at *
            refine (rget_any J2.out.2.1 xid r true JC.out.2.1 (fun h => by cases h)).mono ?_
            rintro e W19 ⟨rfl, hb⟩
            unfold Cy.v
            have hal := (Below.refl W19.heap.size W19).alloc (Nat.le_refl _) (.cells #[.int .i64 r.id, .int .i64 r.cp, .bool r.dr] 69)
            have hcy : CyS W19.heap.size r (W19.alloc (.cells #[.int .i64 r.id, .int .i64 r.cp, .bool r.dr] 69)) := hnew _ _
            have hbb := bcall hb (Nat.le_refl _) hal
            have J3 := Lib.hid (And.intro (J2.out.1.keep hbb) (And.intro (J2.out.2.1.keep hbb) (And.intro (bcall J2.out.2.2.1 (Nat.le_refl _) hbb) (show LmS q17 W19.heap.size b1 (o1 + k * 5) r xid (W19.alloc (.cells #[.int .i64 r.id, .int .i64 r.cp, .bool r.dr] 69)) from ⟨J2.out.2.2.2.2.2.on hbb, hcy, Nat.lt_of_lt_of_le J2.out.2.2.2.1 hbb.size, (cell_same (hbb.block _ J2.out.2.2.2.1)).trans J2.out.2.2.2.2.1⟩))))
            clear hal hcy hb hbb J2
            go_wp2_with fail
            generalize W19.alloc (.cells #[.int .i64 r.id, .int .i64 r.cp, .bool r.dr] 69) = W20 at *
            generalize W19.heap.size = q19 at *
            have hd := (Below.refl W20.heap.size W20).drew
            have J4 := Lib.hid (And.intro (J3.out.1.keep hd) (And.intro (J3.out.2.1.keep hd) (And.intro (bcall J3.out.2.2.1 (Nat.le_refl _) hd) (J3.out.2.2.2.on hd))))
            clear hd J3
            refine wp_region_heldP (LmS q17 q19 b1 (o1 + k * 5) r xid) (by kernel_rfl) ?_
            generalize W20.drew = W21 at *
            refine held_reads [0, 1, 2, 3, 4, 5, 6, 7, 8, 9, 10, 11, 12, 13, 14, 15, 17, 18, 19, 20, 21, 22, 23] (g := 4) rfl (by kernel_rfl) J4.out.2.2.2 (fun _ _ d _ _ h => by cases d <;> exact h) ?_
            simp only [pick, List.getD_cons_zero, List.getD_cons_succ]
            with_reducible refine wpRead_yes ?_ ?_
            rotate_left
            rfl
            intro K hK
            refine read_load 69 _ rfl q17 0 #[.int .i64 r.id, .int .i64 r.cp, .bool r.dr] rfl (fun w' hw' => rangeAt_block (hw'.1) 0 _ rfl) Try.underlying69 rfl (by kernel_rfl) (hK _ ?_)
            clear hK K
            with_reducible refine wpRead_yes ?_ ?_
            rotate_left
            rfl
            intro K hK
            refine read_load 69 _ rfl q19 0 #[.int .i64 r.id, .int .i64 r.cp, .bool r.dr] rfl (fun w' hw' => rangeAt_block (hw'.2.1) 0 _ rfl) Try.underlying69 rfl (by kernel_rfl) (hK _ ?_)
            clear hK K
            ((with_reducible refine wpRead_step (fun K hK => ?_)); go_simp; first | ((with_reducible refine hK _ ?_); clear hK K) | (apply Exists.intro; (with_reducible refine ⟨fun w' hw' => ?_, hK _ ?_⟩); (first | exact rfl | exact ⟨rfl, rfl⟩); clear hK K))
            ((with_reducible refine wpRead_step (fun K hK => ?_)); go_simp; first | ((with_reducible refine hK _ ?_); clear hK K) | (apply Exists.intro; (with_reducible refine ⟨fun w' hw' => ?_, hK _ ?_⟩); (first | exact rfl | exact ⟨rfl, rfl⟩); clear hK K))
            ((with_reducible refine wpRead_step (fun K hK => ?_)); go_simp; first | ((with_reducible refine hK _ ?_); clear hK K) | (apply Exists.intro; (with_reducible refine ⟨fun w' hw' => ?_, hK _ ?_⟩); (first | exact rfl | exact ⟨rfl, rfl⟩); clear hK K))
            ((with_reducible refine wpRead_step (fun K hK => ?_)); go_simp; first | ((with_reducible refine hK _ ?_); clear hK K) | (apply Exists.intro; (with_reducible refine ⟨fun w' hw' => ?_, hK _ ?_⟩); (first | exact rfl | exact ⟨rfl, rfl⟩); clear hK K))
            ((with_reducible refine wpRead_step (fun K hK => ?_)); go_simp; first | ((with_reducible refine hK _ ?_); clear hK K) | (apply Exists.intro; (with_reducible refine ⟨fun w' hw' => ?_, hK _ ?_⟩); (first | exact rfl | exact ⟨rfl, rfl⟩); clear hK K))
            ((with_reducible refine wpRead_step (fun K hK => ?_)); go_simp; first | ((with_reducible refine hK _ ?_); clear hK K) | (apply Exists.intro; (with_reducible refine ⟨fun w' hw' => ?_, hK _ ?_⟩); (first | exact rfl | exact ⟨rfl, rfl⟩); clear hK K))
            ((with_reducible refine wpRead_step (fun K hK => ?_)); go_simp; first | ((with_reducible refine hK _ ?_); clear hK K) | (apply Exists.intro; (with_reducible refine ⟨fun w' hw' => ?_, hK _ ?_⟩); (first | exact rfl | exact ⟨rfl, rfl⟩); clear hK K))
            ((with_reducible refine wpRead_step (fun K hK => ?_)); go_simp; first | ((with_reducible refine hK _ ?_); clear hK K) | (apply Exists.intro; (with_reducible refine ⟨fun w' hw' => ?_, hK _ ?_⟩); (first | exact rfl | exact ⟨rfl, rfl⟩); clear hK K))
            ((with_reducible refine wpRead_step (fun K hK => ?_)); go_simp; first | ((with_reducible refine hK _ ?_); clear hK K) | (apply Exists.intro; (with_reducible refine ⟨fun w' hw' => ?_, hK _ ?_⟩); (first | exact rfl | exact ⟨rfl, rfl⟩); clear hK K))
            ((with_reducible refine wpRead_step (fun K hK => ?_)); go_simp; first | ((with_reducible refine hK _ ?_); clear hK K) | (apply Exists.intro; (with_reducible refine ⟨fun w' hw' => ?_, hK _ ?_⟩); (first | exact rfl | exact ⟨rfl, rfl⟩); clear hK K))
            ((with_reducible refine wpRead_step (fun K hK => ?_)); go_simp; first | ((with_reducible refine hK _ ?_); clear hK K) | (apply Exists.intro; (with_reducible refine ⟨fun w' hw' => ?_, hK _ ?_⟩); (first | exact rfl | exact ⟨rfl, rfl⟩); clear hK K))
            ((with_reducible refine wpRead_step (fun K hK => ?_)); go_simp; first | ((with_reducible refine hK _ ?_); clear hK K) | (apply Exists.intro; (with_reducible refine ⟨fun w' hw' => ?_, hK _ ?_⟩); (first | exact rfl | exact ⟨rfl, rfl⟩); clear hK K))
            ((with_reducible refine wpRead_step (fun K hK => ?_)); go_simp; first | ((with_reducible refine hK _ ?_); clear hK K) | (apply Exists.intro; (with_reducible refine ⟨fun w' hw' => ?_, hK _ ?_⟩); (obtain ⟨-, -, -, f0⟩ := hw'; go_simp; first | exact rfl | exact ⟨rfl, rfl⟩); clear hK K))
            ((with_reducible refine wpRead_step (fun K hK => ?_)); go_simp; first | ((with_reducible refine hK _ ?_); clear hK K) | (apply Exists.intro; (with_reducible refine ⟨fun w' hw' => ?_, hK _ ?_⟩); (first | exact rfl | exact ⟨rfl, rfl⟩); clear hK K))
            ((with_reducible refine wpRead_step (fun K hK => ?_)); go_simp; first | ((with_reducible refine hK _ ?_); clear hK K) | (apply Exists.intro; (with_reducible refine ⟨fun w' hw' => ?_, hK _ ?_⟩); (first | exact rfl | exact ⟨rfl, rfl⟩); clear hK K))
            ((with_reducible refine wpRead_step (fun K hK => ?_)); go_simp; first | ((with_reducible refine hK _ ?_); clear hK K) | (apply Exists.intro; (with_reducible refine ⟨fun w' hw' => ?_, hK _ ?_⟩); (first | exact rfl | exact ⟨rfl, rfl⟩); clear hK K))
            ((with_reducible refine wpRead_step (fun K hK => ?_)); go_simp; first | ((with_reducible refine hK _ ?_); clear hK K) | (apply Exists.intro; (with_reducible refine ⟨fun w' hw' => ?_, hK _ ?_⟩); (first | exact rfl | exact ⟨rfl, rfl⟩); clear hK K))
            ((with_reducible refine wpRead_step (fun K hK => ?_)); go_simp; first | ((with_reducible refine hK _ ?_); clear hK K) | (apply Exists.intro; (with_reducible refine ⟨fun w' hw' => ?_, hK _ ?_⟩); (first | exact rfl | exact ⟨rfl, rfl⟩); clear hK K))
            ((with_reducible refine wpRead_step (fun K hK => ?_)); go_simp; first | ((with_reducible refine hK _ ?_); clear hK K) | (apply Exists.intro; (with_reducible refine ⟨fun w' hw' => ?_, hK _ ?_⟩); (first | exact rfl | exact ⟨rfl, rfl⟩); clear hK K))
            ((with_reducible refine wpRead_step (fun K hK => ?_)); go_simp; first | ((with_reducible refine hK _ ?_); clear hK K) | (apply Exists.intro; (with_reducible refine ⟨fun w' hw' => ?_, hK _ ?_⟩); (obtain ⟨-, -, -, f0⟩ := hw'; go_simp; first | exact rfl | exact ⟨rfl, rfl⟩); clear hK K))
            ((with_reducible refine wpRead_step (fun K hK => ?_)); go_simp; first | ((with_reducible refine hK _ ?_); clear hK K) | (apply Exists.intro; (with_reducible refine ⟨fun w' hw' => ?_, hK _ ?_⟩); (first | exact rfl | exact ⟨rfl, rfl⟩); clear hK K))
            with_reducible refine wpRead_nil ?_
            have hl := limit_any J4.out.1.at JC.out.2.2.2 p r true JC.out.1 (fun h => by cases h) JC.out.2.2.1
            have hl2 := fun w' (hb : Below W21.heap.size W21 w') => rlimit_any (J4.out.2.1.keep hb) xid p r true JC.out.2.1 (fun h => by cases h) JC.out.2.2.1
            generalize limB true r p = lv at *
            have HLM := Lib.hid (And.intro hl hl2)
            clear hl hl2
            refine held_one 16 (by kernel_rfl) ?_
            simp only [pick, List.getD_cons_zero, List.getD_cons_succ]
            go_wp2_with fail
            refine HLM.out.1.mono ?_
            rintro e W22 ⟨rfl, hb⟩
            have J5 := Lib.hid (And.intro hb (And.intro (bcall J4.out.2.2.1 (Nat.le_refl _) hb) (J4.out.2.2.2.on hb)))
            clear hb J4
            go_wp2_with fail
            refine ⟨J5.out.2.2, ?_⟩
            refine held_one 24 (by kernel_rfl) ?_
            simp only [pick, List.getD_cons_zero, List.getD_cons_succ]
            go_wp2_with fail
            refine (HLM.out.2 _ J5.out.1).mono ?_
            rintro e W23 ⟨rfl, hb⟩
            have J6 := Lib.hid (And.intro (bcall J5.out.2.1 (Nat.le_refl _) hb) (J5.out.2.2.on hb))
            clear hb J5 HLM
            go_wp2_with fail
            refine ⟨J6.out.2, ?_⟩
            refine held_reads [25, 26] (g := 0) rfl (by kernel_rfl) J6.out.2 (fun _ _ d _ _ h => by cases d <;> exact h) ?_
            simp only [pick, List.getD_cons_zero, List.getD_cons_succ]
            ((with_reducible refine wpRead_step (fun K hK => ?_)); go_simp; first | ((with_reducible refine hK _ ?_); clear hK K) | (apply Exists.intro; (with_reducible refine ⟨fun w' hw' => ?_, hK _ ?_⟩); (first | exact rfl | exact ⟨rfl, rfl⟩); clear hK K))
            ((with_reducible refine wpRead_step (fun K hK => ?_)); go_simp; first | ((with_reducible refine hK _ ?_); clear hK K) | (apply Exists.intro; (with_reducible refine ⟨fun w' hw' => ?_, hK _ ?_⟩); (first | exact rfl | exact ⟨rfl, rfl⟩); clear hK K))
            with_reducible refine wpRead_nil ?_
            refine wpAnyH_done (by kernel_rfl) ?_ _
            go_wp2_with fail
            exact ⟨⟨k + 1, hkt, by first | rw [hwk] | rw [Int.natCast_succ], J6.out.1⟩, by first | (rw [hwk]; exact mSucc hkt) | (rw [← Int.natCast_succ]; exact mSucc hkt)⟩
          · obtain rfl : n = k := by omega
            have hki : ((n : Int) < (n : Int)) = False := by simp
            have HSIM := Lib.hid (show Sim W2 w5 c bm h x l from ⟨S1, T1, bs1, Sq1, At1, J0.out.2.1, J0.out.2.2.1, J0.out.2.2.2.2.1, J0.out.2.2.2.2.2⟩)
            go_wp2_with fail
            exact ⟨⟨i + 1, hlt, hlt2, by first | rw [hw3] | rw [Int.natCast_succ], J0.out.1, HSIM.out⟩, by first | (rw [hw3]; exact mSucc hlt) | (rw [← Int.natCast_succ]; exact mSucc hlt)⟩
      · have hil : (((i : Int) < (m : Int)) = True ∧ ((i : Int) < 40) = False) ∨ ((i : Int) < (m : Int)) = False := by
          by_cases h : i < m
          · left; simp; omega
          · right; simp; omega
        rcases hil with ⟨hil, hil2⟩ | hil
        · go_wp2_with fail
          go_ret
          exact ⟨rfl, G0.out.1⟩
        · go_wp2_with fail
          go_ret
          exact ⟨rfl, G0.out.1⟩
end Go.Proofs.Ytlkbaplfffbmkaa

