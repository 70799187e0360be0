/- capa.Take. -/
import Derived.Test.YtlkbaplfffbmkaaKaf
import Derived.Test.YtlkbaplfffbmkaaKab
import Derived.Test.YtlkbaplfffbmkaaKaa
namespace Go.Proofs.Ytlkbaplfffbmkaa
open Go.RowKit
open Go.ChangeMaps (setBlock)

/-- the program's capa, with the sources' stamps -/
structure CapS (w0 w : World) (c bm h : Nat) (D : HD) (S : Int → Option Cy) (T : Nat → Int × Int × Bool) : Prop where
  hop : HopsAt w0 h D
  bel : Below w0.heap.size w0 w
  hc : w0.heap.size ≤ c
  hm : w0.heap.size ≤ bm
  ne : c ≠ bm
  out : ∃ (clk : Nat) (es : List (MR.Ent Int)) (cs : Array Value), w.heap[c]? = some (.cells cs 101) ∧ cs[0]? = some (.pointer (some ⟨h, 0, none⟩)) ∧ cs[1]? = some (.map (some bm)) ∧ (∀ i, i < 16 → cs[2 + 3 * i]? = some (.int .i64 (T i).1) ∧ cs[2 + 3 * i + 1]? = some (.int .i64 (T i).2.1) ∧ cs[2 + 3 * i + 2]? = some (.bool (T i).2.2)) ∧ MR.MapAt IN w bm es clk ∧ ∀ id, MR.get? es id = (S id).map Cy.v
theorem CapS.at {w0 w : World} {c bm h : Nat} {D : HD} {S : Int → Option Cy} {T : Nat → Int × Int × Bool} (H : CapS w0 w c bm h D S T) : CapAt w0 w c bm h D S := by
  obtain ⟨clk, es, cs, h1, h2, h3, h4, h5, h6⟩ := H.out
  exact ⟨H.hop, H.bel, H.hc, H.hm, H.ne, clk, es, cs, h1, h2, h3, fun i hi => ⟨_, _, _, h4 i hi⟩, h5, h6⟩
theorem CapAt.stamps {w0 w : World} {c bm h : Nat} {D : HD} {S : Int → Option Cy} (H : CapAt w0 w c bm h D S) : ∃ T, CapS w0 w c bm h D S T := by
  obtain ⟨clk, es, cs, h1, h2, h3, h4, h5, h6⟩ := H.out
  have : ∃ T : Nat → Int × Int × Bool, ∀ i, i < 16 → cs[2 + 3 * i]? = some (.int .i64 (T i).1) ∧ cs[2 + 3 * i + 1]? = some (.int .i64 (T i).2.1) ∧ cs[2 + 3 * i + 2]? = some (.bool (T i).2.2) := by
    refine ⟨fun i => if hi : i < 16 then ((h4 i hi).choose, (h4 i hi).choose_spec.choose, (h4 i hi).choose_spec.choose_spec.choose) else (0, 0, false), fun i hi => ?_⟩
    simp only [hi, dif_pos]
    exact (h4 i hi).choose_spec.choose_spec.choose_spec
  obtain ⟨T, hT⟩ := this
  exact ⟨T, H.hop, H.bel, H.hc, H.hm, H.ne, clk, es, cs, h1, h2, h3, hT, h5, h6⟩
theorem CapS.keep {w0 w w' : World} {c bm h : Nat} {D : HD} {S : Int → Option Cy} {T : Nat → Int × Int × Bool} (H : CapS w0 w c bm h D S T) (hb : Below w.heap.size w w') : CapS w0 w' c bm h D S T := by
  obtain ⟨clk, es, cs, h1, h2, h3, h4, h5, h6⟩ := H.out
  exact ⟨H.hop, bcall H.bel (Nat.le_refl _) hb, H.hc, H.hm, H.ne, clk, es, cs, (hb.block _ (lt_of_blk h1)).trans h1, h2, h3, h4, h5.blk_iff IN (hb.block _ (lt_of_blk h5.blk)), h6⟩
theorem CapS.but {w0 w w' : World} {c bm h : Nat} {D : HD} {S : Int → Option Cy} {T : Nat → Int × Int × Bool} {bs : List Nat} (H : CapS w0 w c bm h D S T) (hb : But w w' bs) (h1 : ∀ b ∈ bs, w0.heap.size ≤ b) (h2 : c ∉ bs) (h3 : bm ∉ bs) : CapS w0 w' c bm h D S T := by
  obtain ⟨clk, es, cs, c1, c2, c3, c4, c5, c6⟩ := H.out
  exact ⟨H.hop, Below.step H.bel H.bel.size hb h1, H.hc, H.hm, H.ne, clk, es, cs, (hb.block _ (lt_of_blk c1) h2).trans c1, c2, c3, c4, c5.blk_iff IN (hb.block _ (lt_of_blk c5.blk) h3), c6⟩
def setT (T : Nat → Int × Int × Bool) (s : Nat) (v : Int × Int × Bool) : Nat → Int × Int × Bool := fun i => if i = s then v else T i
def say (S : Int → Option Cy) (y : Cy) : Int → Option Cy := fun id => if id = y.id then some y else S id
def sayAll (S : Int → Option Cy) (L : List Cy) : Int → Option Cy := L.foldl say S
theorem sayAll_succ {S : Int → Option Cy} {L : List Cy} {i : Nat} (hi : i < L.length) : sayAll S (L.take (i + 1)) = say (sayAll S (L.take i)) (L.getD i default) := by
  unfold sayAll
  rw [List.take_succ_eq_append_getElem hi, List.foldl_append]
  simp [List.getD_eq_getElem?_getD, hi]
def allIn (D : HD) (L : List Cy) : Bool := L.all fun y => (D.get y.id).isSome
def oldT (T : Nat → Int × Int × Bool) (s : Nat) (seq : Int) : Bool := (T s).2.2 && decide (seq ≤ (T s).1)
def takeE (D : HD) (T : Nat → Int × Int × Bool) (src seq now : Int) (L : List Cy) : Int := if okCs src seq L && (decide (0 ≤ now) && decide (now ≤ 9007199254740991)) then (if allIn D L then (if oldT T src.toNat seq then 170 else 0) else 4) else 1
/-- what is so behind Take -/
structure Taken (w0 w w' : World) (c bm h : Nat) (D : HD) (S : Int → Option Cy) (T : Nat → Int × Int × Bool) (src seq now : Int) (L : List Cy) : Prop where
  cap : CapS w0 w' c bm h D (if takeE D T src seq now L = 0 then sayAll S L else S) (if takeE D T src seq now L = 0 then setT T src.toNat (seq, now, true) else T)
  but : But w w' [c, bm]
theorem Taken.no {w0 w w' : World} {c bm h : Nat} {D : HD} {S : Int → Option Cy} {T : Nat → Int × Int × Bool} {src seq now : Int} {L : List Cy} {n : Int} (he : takeE D T src seq now L = n) (hn : n ≠ 0) (H : CapS w0 w c bm h D S T) (hb : Below w.heap.size w w') : Ending.returned (.int .i64 n) = .returned (.int .i64 (takeE D T src seq now L)) ∧ Taken w0 w w' c bm h D S T src seq now L :=
  ⟨ret_int he.symm, by rw [he, if_neg hn, if_neg hn]; exact H.keep hb, But.of_below hb _⟩
theorem CapS.stamp {w0 w w' : World} {c bm h : Nat} {D : HD} {S : Int → Option Cy} {T : Nat → Int × Int × Bool} {σ : Nat} {a b : Int} {d : Bool} (H : CapS w0 w c bm h D S T) (hσ : σ < 16)
    (hw : w' = ((w.setCell ⟨c, 2 + σ * 3, none⟩ (.int .i64 a)).setCell ⟨c, 2 + σ * 3 + 1, none⟩ (.int .i64 b)).setCell ⟨c, 2 + σ * 3 + 2, none⟩ (.bool d)) : CapS w0 w' c bm h D S (setT T σ (a, b, d)) ∧ But w w' [c] := by
  obtain ⟨clk, es, cs, h1, h2, h3, h4, h5, h6⟩ := H.out
  have hs := (((SetB.self h1).store (o := 2 + σ * 3) (lt_of_blk h1) (.int .i64 a)).store (o := 2 + σ * 3 + 1) (lt_of_blk h1) (.int .i64 b)).store (o := 2 + σ * 3 + 2) (lt_of_blk h1) (.bool d)
  rw [← hw] at hs
  have hsz : ∀ i, i < 16 → 2 + 3 * i + 2 < cs.size := fun i hi => by
    have := (h4 i hi).2.2
    rcases Nat.lt_or_ge (2 + 3 * i + 2) cs.size with h' | h'
    · exact h'
    · rw [Array.getElem?_eq_none h'] at this; cases this
  refine ⟨⟨H.hop, Below.trans H.bel (hs.below H.hc), H.hc, H.hm, H.ne, clk, es, _, hs.at (lt_of_blk h1), ?_, ?_, fun i hi => ?_, h5.blk_iff IN (hs.other (Ne.symm H.ne)), h6⟩, But.of_set hs (by simp)⟩
  · simp only [Array.getElem?_setIfInBounds]
    rw [if_neg (by omega), if_neg (by omega), if_neg (by omega)]; exact h2
  · simp only [Array.getElem?_setIfInBounds]
    rw [if_neg (by omega), if_neg (by omega), if_neg (by omega)]; exact h3
  · have hz := hsz σ hσ
    simp only [Array.getElem?_setIfInBounds, Array.size_setIfInBounds]
    unfold setT
    by_cases e : i = σ
    · subst e
      rw [if_pos rfl]
      refine ⟨?_, ?_, ?_⟩
      · rw [if_neg (by omega), if_neg (by omega), if_pos (by omega), if_pos (by omega)]
      · rw [if_neg (by omega), if_pos (by omega), if_pos (by omega)]
      · rw [if_pos (by omega), if_pos (by omega)]
    · rw [if_neg e]
      obtain ⟨a1, a2, a3⟩ := h4 i hi
      refine ⟨?_, ?_, ?_⟩
      · rw [if_neg (by omega), if_neg (by omega), if_neg (by omega)]; exact a1
      · rw [if_neg (by omega), if_neg (by omega), if_neg (by omega)]; exact a2
      · rw [if_neg (by omega), if_neg (by omega), if_neg (by omega)]; exact a3
def Lew (w : World) (q : Nat) : Prop := w.heap.size ≤ q
def TkS (c h q : Nat) (id : Int) (w : World) : Prop := w.cell? ⟨c, 0, none⟩ = some (.pointer (some ⟨h, 0, none⟩)) ∧ w.cell? ⟨q, 0, none⟩ = some (.int .i64 id)
theorem CapS.c0 {w0 w : World} {c bm h : Nat} {D : HD} {S : Int → Option Cy} {T : Nat → Int × Int × Bool} (H : CapS w0 w c bm h D S T) : w.cell? ⟨c, 0, none⟩ = some (.pointer (some ⟨h, 0, none⟩)) := by
  obtain ⟨clk, es, cs, h1, h2, h3, h4, h5, h6⟩ := H.out
  exact cell_of h1 h2
theorem CapS.c1 {w0 w : World} {c bm h : Nat} {D : HD} {S : Int → Option Cy} {T : Nat → Int × Int × Bool} (H : CapS w0 w c bm h D S T) : w.cell? ⟨c, 1, none⟩ = some (.map (some bm)) := by
  obtain ⟨clk, es, cs, h1, h2, h3, h4, h5, h6⟩ := H.out
  exact cell_of h1 h3
theorem CapS.ct {w0 w : World} {c bm h : Nat} {D : HD} {S : Int → Option Cy} {T : Nat → Int × Int × Bool} (H : CapS w0 w c bm h D S T) {i : Nat} (hi : i < 16) : (w.cell? ⟨c, 2 + i * 3, none⟩ = some (.int .i64 (T i).1) ∧ w.cell? ⟨c, 2 + i * 3 + 1, none⟩ = some (.int .i64 (T i).2.1) ∧ w.cell? ⟨c, 2 + i * 3 + 2, none⟩ = some (.bool (T i).2.2)) ∧ ∀ o, w.frozen? ⟨c, o, none⟩ = false := by
  obtain ⟨clk, es, cs, h1, h2, h3, h4, h5, h6⟩ := H.out
  obtain ⟨a1, a2, a3⟩ := h4 i hi
  rw [show 2 + 3 * i = 2 + i * 3 by omega] at a1 a2 a3
  exact ⟨⟨cell_of h1 a1, cell_of h1 a2, cell_of h1 a3⟩, fun o => free_of h1⟩
theorem CapS.lc {w0 w : World} {c bm h : Nat} {D : HD} {S : Int → Option Cy} {T : Nat → Int × Int × Bool} (H : CapS w0 w c bm h D S T) : c < w.heap.size ∧ bm < w.heap.size := by
  obtain ⟨clk, es, cs, h1, h2, h3, h4, h5, h6⟩ := H.out
  exact ⟨lt_of_blk h1, lt_of_blk h5.blk⟩
theorem Sl.on {α : Type} [Inhabited α] {R : Rep α} {w w' : World} {a : Option Addr} {n c : Nat} {L : List α} (h : R.Sl w a n c L) (hk : 0 < n → ∀ b o, a = some ⟨b, o, none⟩ → b < w.heap.size → w'.heap[b]? = w.heap[b]?) : R.Sl w' a n c L :=
  ⟨h.len, h.max, fun hn => let ⟨b, o, e, r⟩ := h.row hn; ⟨b, o, e, r.keep (hk hn b o e r.lt)⟩⟩
theorem CapS.said {w0 w : World} {c bm h : Nat} {D : HD} {S : Int → Option Cy} {T : Nat → Int × Int × Bool} {y : Cy} (H : CapS w0 w c bm h D S T) (hid : IN.ok y.id) : ∃ O, (Instr.mapUpdate 96 (.map (some bm)) (.int .i64 y.id) (.agg #[.int .i64 y.id, .int .i64 y.cp, .bool y.dr])).run Try.prog w = .ok () (setBlock w bm O) ∧ CapS w0 (setBlock w bm O) c bm h D (say S y) T := by
  obtain ⟨clk, es, cs, h1, h2, h3, h4, h5, h6⟩ := H.out
  have hu := MR.run_update IN h5 hid Try.underlying96 (Cy.v y)
  refine ⟨_, hu.1, H.hop, below_setBlock H.bel H.hm, H.hc, H.hm, H.ne, _, _, cs, (setBlock_other H.ne).trans h1, h2, h3, h4, hu.2, fun id => ?_⟩
  rw [MR.get?_put, h6]
  unfold say
  split <;> rfl
set_option maxRecDepth 100000 in
set_option maxHeartbeats 4000000 in
theorem ctake_any {w0 w : World} {c bm h : Nat} {D : HD} {S : Int → Option Cy} {T : Nat → Int × Int × Bool} (H : CapS w0 w c bm h D S T) {src seq : Int} {oa : Option Addr} {n cc : Nat} {L : List Cy} (hL : Cys w oa n cc L) (hfar : 0 < n → ∀ b o, oa = some ⟨b, o, none⟩ → b ≠ c ∧ b ≠ bm) (now : Int) :
    Calls Try.prog 27 #[.pointer (some ⟨c, 0, none⟩), .agg #[.int .i64 src, .int .i64 seq, .slice oa n cc], .int .i64 now] w fun e w' => e = .returned (.int .i64 (takeE D T src seq now L)) ∧ Taken w0 w w' c bm h D S T src seq now L := by
  have hal := (Below.refl w.heap.size w).alloc (Nat.le_refl _) (.cells #[.int .i64 src, .int .i64 seq, .slice oa n cc] 55)
  have hx0 : CsS w.heap.size src seq oa n cc (w.alloc (.cells #[.int .i64 src, .int .i64 seq, .slice oa n cc] 55)) := hnew _ _
  have HL := Lib.hid hL.sl.len
  have hmax := hL.sl.max
  have G := Lib.hid (And.intro (H.keep hal) (And.intro hx0 hal))
  have F := Lib.hid hL
  have FR := Lib.hid hfar
  have HH := Lib.hid H
  have HM := Lib.hid (made_any (H.keep hal).at)
  obtain ⟨z0, z1, z2⟩ := hx0.cells
  obtain ⟨b1, hb1⟩ : ∃ b, okCs src seq L = b := ⟨_, rfl⟩
  have HC := Lib.hid (ccheck_any (hL.keep hal) b1 hb1)
  obtain ⟨b2, hb2⟩ : ∃ b, (decide (0 ≤ now) && decide (now ≤ 9007199254740991)) = b := ⟨_, rfl⟩
  have hwn := fun W => cwithin_any now 0 9007199254740991 W
  rw [hb2] at hwn
  have HW := Lib.hid hwn
  have HB1 := Lib.hid hb1
  have HB2 := Lib.hid hb2
  clear hal hx0 hL H hb1 hb2 hwn hfar
  go_enter Try.func27, Try.ntmps27
  go_wp2_with fail
  generalize (w.alloc (.cells #[.int .i64 src, .int .i64 seq, .slice oa n cc] 55)) = W at *
  refine (HM.out).mono ?_
  rintro e w1 ⟨rfl, hw1⟩
  subst w1
  go_wp2_with fail
  refine (HC.out).mono ?_
  rintro e w1 ⟨rfl, hb⟩
  have G1 := Lib.hid (And.intro (G.out.1.keep hb) (And.intro (G.out.2.1.on hb) (bcall G.out.2.2 (Nat.le_refl _) hb)))
  clear hb G HC HM z0 z1 z2
  cases b1 with
  | false =>
    rw [cond_false]
    go_wp2_with fail
    go_ret
    exact Taken.no (n := 1) (by unfold takeE; rw [HB1.out, Bool.false_and, if_neg (by simp)]) (by decide) HH.out G1.out.2.2
  | true =>
  rw [cond_true]
  go_wp2_with fail
  refine (HW.out _).mono ?_
  rintro e w2 ⟨rfl, hw2⟩
  subst w2
  cases b2 with
  | false =>
    go_wp2_with fail
    go_ret
    exact Taken.no (n := 1) (by unfold takeE; rw [HB1.out, HB2.out, Bool.and_false, if_neg (by simp)]) (by decide) HH.out G1.out.2.2
  | true =>
  obtain ⟨z0, z1, z2⟩ := G1.out.2.1.cells
  go_wp2_with fail
  clear z0 z1 z2
  go_loopw [28] (fun iv wr => ∃ i : Nat, i ≤ n ∧ iv = .int .i64 i ∧ allIn D (L.take i) = true ∧ CapS w0 wr c bm h D S T ∧ CsS w.heap.size src seq oa n cc wr ∧ Below w.heap.size w wr) (fun iv _ => n - (intOf iv).toNat)
  case atStart => exact ⟨0, Nat.zero_le _, rfl, rfl, G1.out⟩
  case round =>
    obtain ⟨i, hi, rfl, hall, hcap, hx0, hb⟩ := hrel
    obtain ⟨w2, rfl⟩ : ∃ w2 : World, w2 = wr := ⟨_, rfl⟩
    by_cases hlt : i < n
    · have hil : ((i : Int) < (n : Int)) = True := by simp; omega
      have hw3 := wrapS hlt hmax
      have hlen : L.length = n := HL.out.symm
      obtain ⟨b0, o0, rfl, hbb, hat⟩ := (F.out.keep hb).sl.at hlt
      have c0 := hat 0 (by decide)
      have c1 := hat 1 (by decide)
      have c2 := hat 2 (by decide)
      simp only [RCy, Nat.add_zero, List.getElem?_cons_zero, List.getElem?_cons_succ] at c0 c1 c2
      have t1 : allIn D (L.take (i + 1)) = (allIn D (L.take i) && (D.get (L.getD i default).id).isSome) := all_take_s L (fun y => (D.get y.id).isSome) i (by omega)
      rw [hall, Bool.true_and] at t1
      have hmem : L.getD i default ∈ L := getD_mem (by omega)
      generalize L.getD i default = y at *
      have hid := F.out.ok _ hmem
      have hal := (Below.refl w2.heap.size w2).alloc (Nat.le_refl _) (.cells #[.int .i64 y.id, .int .i64 y.cp, .bool y.dr] 69)
      have hxs : CyS w2.heap.size y (w2.alloc (.cells #[.int .i64 y.id, .int .i64 y.cp, .bool y.dr] 69)) := hnew _ _
      have hb3 := bcall hb (Nat.le_refl _) hal
      have HT := Lib.hid (And.intro t1 (And.intro hmem hid))
      have G2 := Lib.hid (And.intro (hcap.keep hal) (And.intro (hx0.on hal) (And.intro hb3 hxs)))
      clear hall hcap hx0 hb hlen hat t1 hmem hid hal hxs hb3
      obtain ⟨r, is, hr, hz⟩ : ∃ (r : If) (is : Bool), D.get y.id = (if is then some r else none) ∧ (is = false → r = ⟨0, 0, 0, 0, 0⟩) := by
        cases hg : D.get y.id with
        | none => exact ⟨⟨0, 0, 0, 0, 0⟩, false, rfl, fun _ => rfl⟩
        | some r => exact ⟨r, true, rfl, fun h => by cases h⟩
      have HR := Lib.hid (And.intro hr hz)
      clear hr hz
      go_wp2_with fail
      generalize w2.alloc (.cells #[.int .i64 y.id, .int .i64 y.cp, .bool y.dr] 69) = w3 at *
      generalize w2.heap.size = q8 at *
      have hd := (Below.refl w3.heap.size w3).drew
      have G3 := Lib.hid (And.intro (G2.out.1.keep hd) (And.intro (G2.out.2.1.on hd) (And.intro (bcall G2.out.2.2.1 (Nat.le_refl _) hd) (G2.out.2.2.2.on hd))))
      clear hd G2 c0 c1 c2
      refine wp_region_heldP (ExtS w3.drew) (by kernel_rfl) ?_
      generalize w3.drew = w4 at *
      have hrc : ∀ w', Below w4.heap.size w4 w' → TkS c h q8 y.id w' := fun w' hw' => ⟨(G3.out.1.keep hw').c0, (G3.out.2.2.2.on hw').cells.1⟩
      have HK := Lib.hid hrc
      have HB := Lib.hid (Below.refl w4.heap.size w4)
      clear hrc
      refine held_reads [0, 1, 2, 3, 4, 5] (g := 7) rfl (by kernel_rfl) (show ExtS w4 w4 from Below.refl _ _) (fun _ _ d _ _ h => by cases d <;> exact h) ?_
      simp only [pick, List.getD_cons_zero, List.getD_cons_succ]
      iterate 6 ((with_reducible refine wpRead_step (fun K hK => ?_)); go_simp; first | ((with_reducible refine hK _ ?_); clear hK K) | (apply Exists.intro; (with_reducible refine ⟨fun w' hw' => ?_, hK _ ?_⟩); (obtain ⟨f0, f1⟩ := HK.out _ hw'; go_simp; first | exact rfl | exact ⟨rfl, rfl⟩); clear hK K))
      with_reducible refine wpRead_nil ?_
      refine held_two 6 10 (by kernel_rfl) ?_ ?_
      · simp only [pick, List.getD_cons_zero, List.getD_cons_succ]
        go_wp2_with fail
        refine (iface_any ((G3.out.1.at.keep HB.out).hops) HT.out.2.2 r is HR.out.1 HR.out.2).mono ?_
        rintro e w5 ⟨rfl, hb⟩
        have HB := Lib.hid (bcall HB.out (Nat.le_refl _) hb)
        clear hb
        rw [show r.v = .agg #[.int .i64 r.id, .int .i64 r.r, .int .u32 (r.ad : Int), .int .i64 r.ln, .int .i64 r.cp] from rfl]
        go_wp2_with fail
        refine ⟨HB.out, ?_⟩
        refine held_reads [7, 8, 9] (g := 3) rfl (by kernel_rfl) HB.out (fun _ _ d _ _ h => by cases d <;> exact h) ?_
        simp only [pick, List.getD_cons_zero, List.getD_cons_succ]
        ((with_reducible refine wpRead_step (fun K hK => ?_)); go_simp; first | ((with_reducible refine hK _ ?_); clear hK K) | (apply Exists.intro; (with_reducible refine ⟨fun w' hw' => ?_, hK _ ?_⟩); (skip; go_simp; first | exact rfl | exact ⟨rfl, rfl⟩); clear hK K))
        ((with_reducible refine wpRead_step (fun K hK => ?_)); go_simp; first | ((with_reducible refine hK _ ?_); clear hK K) | (apply Exists.intro; (with_reducible refine ⟨fun w' hw' => ?_, hK _ ?_⟩); (skip; go_simp; first | exact rfl | exact ⟨rfl, rfl⟩); clear hK K))
        ((with_reducible refine wpRead_step (fun K hK => ?_)); go_simp; first | ((with_reducible refine hK _ ?_); clear hK K) | (apply Exists.intro; (with_reducible refine ⟨fun w' hw' => ?_, hK _ ?_⟩); (skip; go_simp; first | exact rfl | exact ⟨rfl, rfl⟩); clear hK K))
        with_reducible refine wpRead_nil ?_
        refine held_one 10 (by kernel_rfl) ?_
        simp only [pick, List.getD_cons_zero, List.getD_cons_succ]
        go_wp2_with fail
        have hal := (Below.refl w5.heap.size w5).alloc (Nat.le_refl _) (.cells #[.int .i64 0, .int .i64 0, .int .u32 0, .int .i64 0, .int .i64 0] 34)
        have hnw : (w5.alloc (.cells #[.int .i64 0, .int .i64 0, .int .u32 0, .int .i64 0, .int .i64 0] 34)).heap[w5.heap.size]? = some (.cells #[.int .i64 0, .int .i64 0, .int .u32 0, .int .i64 0, .int .i64 0] 34) := hnew _ _
        have hle : Lew w4 w5.heap.size := HB.out.size
        have HB := Lib.hid (bcall HB.out (Nat.le_refl _) hal)
        have HP := Lib.hid (And.intro hnw hle)
        clear hal hnw hle
        generalize w5.alloc (.cells #[.int .i64 0, .int .i64 0, .int .u32 0, .int .i64 0, .int .i64 0] 34) = w6 at *
        generalize w5.heap.size = qp at HP ⊢
        refine ⟨HB.out, ?_⟩
        refine held_one 11 (by kernel_rfl) ?_
        simp only [pick, List.getD_cons_zero, List.getD_cons_succ]
        go_wp2_with (with_reducible refine halt_store 34 rfl ?_)
        refine Halted.go ?_
        refine store_whole rfl 34 _ _ rfl qp #[.int .i64 r.id, .int .i64 r.r, .int .u32 (r.ad : Int), .int .i64 r.ln, .int .i64 r.cp] rfl rfl HP.out.1 rfl (by kernel_rfl) (by simp [Value.oneCell']) ?_
        intro wz hwz hsz
        have HB := Lib.hid (Below.trans HB.out (hsz.below HP.out.2))
        clear hwz hsz HP
        go_wp2_with fail
        refine ⟨HB.out, ?_⟩
        refine held_one 12 (by kernel_rfl) ?_
        simp only [pick, List.getD_cons_zero, List.getD_cons_succ]
        go_wp2_with fail
        refine ⟨HB.out, ?_⟩
        refine wpAnyH_done (by kernel_rfl) ?_ _
        cases is with
        | true =>
          have hin : allIn D (L.take (i + 1)) = true := by rw [HT.out.1, HR.out.1]; rfl
          have HI := Lib.hid hin
          clear hin
          go_wp2_with fail
          exact ⟨⟨i + 1, hlt, by first | rw [hw3] | rw [Int.natCast_succ], HI.out, G3.out.1.keep HB.out, G3.out.2.1.on HB.out, bcall G3.out.2.2.1 (Nat.le_refl _) HB.out⟩, by first | (rw [hw3]; exact mSucc hlt) | (rw [← Int.natCast_succ]; exact mSucc hlt)⟩
        | false =>
          have hno : allIn D L = false := by
            unfold allIn
            rw [List.all_eq_false]
            exact ⟨y, HT.out.2.1, by rw [HR.out.1]; simp⟩
          have HN := Lib.hid hno
          clear hno
          go_wp2_with fail
          go_ret
          exact Taken.no (n := 4) (by unfold takeE; rw [HB1.out, HB2.out, HN.out]; rfl) (by decide) HH.out (bcall G3.out.2.2.1 (Nat.le_refl _) HB.out)
      · simp only [pick, List.getD_cons_zero, List.getD_cons_succ]
        go_wp2_with fail
        have hal := (Below.refl w4.heap.size w4).alloc (Nat.le_refl _) (.cells #[.int .i64 0, .int .i64 0, .int .u32 0, .int .i64 0, .int .i64 0] 34)
        have hnw : (w4.alloc (.cells #[.int .i64 0, .int .i64 0, .int .u32 0, .int .i64 0, .int .i64 0] 34)).heap[w4.heap.size]? = some (.cells #[.int .i64 0, .int .i64 0, .int .u32 0, .int .i64 0, .int .i64 0] 34) := hnew _ _
        have hle : Lew w4 w4.heap.size := HB.out.size
        have HB := Lib.hid (bcall HB.out (Nat.le_refl _) hal)
        have HP := Lib.hid (And.intro hnw hle)
        clear hal hnw hle
        generalize w4.alloc (.cells #[.int .i64 0, .int .i64 0, .int .u32 0, .int .i64 0, .int .i64 0] 34) = w5 at *
        generalize w4.heap.size = qp at HP ⊢
        refine ⟨HB.out, ?_⟩
        refine held_one 6 (by kernel_rfl) ?_
        simp only [pick, List.getD_cons_zero, List.getD_cons_succ]
        go_wp2_with fail
        refine (iface_any ((G3.out.1.at.keep HB.out).hops) HT.out.2.2 r is HR.out.1 HR.out.2).mono ?_
        rintro e w6 ⟨rfl, hb⟩
        have HB := Lib.hid (bcall HB.out (Nat.le_refl _) hb)
        have HP := Lib.hid (And.intro ((hb.block _ (lt_of_blk HP.out.1)).trans HP.out.1) HP.out.2)
        clear hb
        rw [show r.v = .agg #[.int .i64 r.id, .int .i64 r.r, .int .u32 (r.ad : Int), .int .i64 r.ln, .int .i64 r.cp] from rfl]
        go_wp2_with fail
        refine ⟨HB.out, ?_⟩
        refine held_reads [7, 8, 9] (g := 2) rfl (by kernel_rfl) HB.out (fun _ _ d _ _ h => by cases d <;> exact h) ?_
        simp only [pick, List.getD_cons_zero, List.getD_cons_succ]
        ((with_reducible refine wpRead_step (fun K hK => ?_)); go_simp; first | ((with_reducible refine hK _ ?_); clear hK K) | (apply Exists.intro; (with_reducible refine ⟨fun w' hw' => ?_, hK _ ?_⟩); (skip; go_simp; first | exact rfl | exact ⟨rfl, rfl⟩); clear hK K))
        ((with_reducible refine wpRead_step (fun K hK => ?_)); go_simp; first | ((with_reducible refine hK _ ?_); clear hK K) | (apply Exists.intro; (with_reducible refine ⟨fun w' hw' => ?_, hK _ ?_⟩); (skip; go_simp; first | exact rfl | exact ⟨rfl, rfl⟩); clear hK K))
        ((with_reducible refine wpRead_step (fun K hK => ?_)); go_simp; first | ((with_reducible refine hK _ ?_); clear hK K) | (apply Exists.intro; (with_reducible refine ⟨fun w' hw' => ?_, hK _ ?_⟩); (skip; go_simp; first | exact rfl | exact ⟨rfl, rfl⟩); clear hK K))
        with_reducible refine wpRead_nil ?_
        refine held_one 11 (by kernel_rfl) ?_
        simp only [pick, List.getD_cons_zero, List.getD_cons_succ]
        go_wp2_with (with_reducible refine halt_store 34 rfl ?_)
        refine Halted.go ?_
        refine store_whole rfl 34 _ _ rfl qp #[.int .i64 r.id, .int .i64 r.r, .int .u32 (r.ad : Int), .int .i64 r.ln, .int .i64 r.cp] rfl rfl HP.out.1 rfl (by kernel_rfl) (by simp [Value.oneCell']) ?_
        intro wz hwz hsz
        have HB := Lib.hid (Below.trans HB.out (hsz.below HP.out.2))
        clear hwz hsz HP
        go_wp2_with fail
        refine ⟨HB.out, ?_⟩
        refine held_one 12 (by kernel_rfl) ?_
        simp only [pick, List.getD_cons_zero, List.getD_cons_succ]
        go_wp2_with fail
        refine ⟨HB.out, ?_⟩
        refine wpAnyH_done (by kernel_rfl) ?_ _
        cases is with
        | true =>
          have hin : allIn D (L.take (i + 1)) = true := by rw [HT.out.1, HR.out.1]; rfl
          have HI := Lib.hid hin
          clear hin
          go_wp2_with fail
          exact ⟨⟨i + 1, hlt, by first | rw [hw3] | rw [Int.natCast_succ], HI.out, G3.out.1.keep HB.out, G3.out.2.1.on HB.out, bcall G3.out.2.2.1 (Nat.le_refl _) HB.out⟩, by first | (rw [hw3]; exact mSucc hlt) | (rw [← Int.natCast_succ]; exact mSucc hlt)⟩
        | false =>
          have hno : allIn D L = false := by
            unfold allIn
            rw [List.all_eq_false]
            exact ⟨y, HT.out.2.1, by rw [HR.out.1]; simp⟩
          have HN := Lib.hid hno
          clear hno
          go_wp2_with fail
          go_ret
          exact Taken.no (n := 4) (by unfold takeE; rw [HB1.out, HB2.out, HN.out]; rfl) (by decide) HH.out (bcall G3.out.2.2.1 (Nat.le_refl _) HB.out)
    · obtain rfl : n = i := by omega
      have hil : ((n : Int) < (n : Int)) = False := by simp
      rw [List.take_of_length_le (by rw [HL.out]; exact Nat.le_refl _)] at hall
      have hsr : (0 ≤ src ∧ src ≤ 15) := by
        have h1 := HB1.out
        unfold okCs at h1
        simp only [Bool.and_eq_true, decide_eq_true_eq] at h1
        exact h1.1.1.1.1
      obtain ⟨σ, rfl⟩ : ∃ σ : Nat, src = σ := ⟨src.toNat, by omega⟩
      have hσ : σ < 16 := by omega
      have hs0 : ((0 : Int) ≤ (σ : Int)) = True := by simp
      have hs1 : ((σ : Int) < 16) = True := by simp; omega
      have hdd := (Below.refl w2.heap.size w2).drew
      have G3 := Lib.hid (And.intro (hcap.keep hdd) (And.intro (hx0.on hdd) (bcall hb (Nat.le_refl _) hdd)))
      have HA := Lib.hid hall
      clear hall hcap hx0 hb hsr hdd
      obtain ⟨z0, z1, z2⟩ := G3.out.2.1.cells
      go_wp2_with fail
      refine wp_region_quiet_tail (fun w' => w' = w2.drew) 6 (by kernel_rfl) (by kernel_rfl) rfl ?_
      simp only [List.take_succ_cons, List.take_zero, List.drop_succ_cons, List.drop_zero]
      iterate 6 ((with_reducible refine wpQuiet_step (fun K hK => ?_)); go_simp; first | ((with_reducible refine hK _ ?_); clear hK K) | (apply Exists.intro; (with_reducible refine ⟨fun w' hw' => ?_, hK _ ?_⟩); (subst hw'; go_simp; first | exact rfl | exact ⟨rfl, rfl⟩); clear hK K))
      refine wpQuiet_nil ?_
      rintro _ rfl
      generalize w2.drew = wA at *
      clear z0 z1 z2
      have hdd := (Below.refl wA.heap.size wA).drew
      have G4 := Lib.hid (And.intro (G3.out.1.keep hdd) (And.intro (G3.out.2.1.on hdd) (bcall G3.out.2.2 (Nat.le_refl _) hdd)))
      clear hdd G3
      obtain ⟨z0, z1, z2⟩ := G4.out.2.1.cells
      obtain ⟨⟨k0, k1, k2⟩, -⟩ := G4.out.1.ct hσ
      obtain ⟨bs, hbs⟩ : ∃ b, (T σ).2.2 = b := ⟨_, rfl⟩
      obtain ⟨ts, hts⟩ : ∃ t, (T σ).1 = t := ⟨_, rfl⟩
      rw [hbs] at k2
      rw [hts] at k0
      have HBS := Lib.hid (And.intro hbs hts)
      clear hbs hts
      cases bs with
      | false =>
        go_wp2_with fail
        refine wp_region_quiet_tail (fun w' => w' = wA.drew) 12 (by kernel_rfl) (by kernel_rfl) rfl ?_
        simp only [List.take_succ_cons, List.take_zero, List.drop_succ_cons, List.drop_zero]
        iterate 12 ((with_reducible refine wpQuiet_step (fun K hK => ?_)); go_simp; first | ((with_reducible refine hK _ ?_); clear hK K) | (apply Exists.intro; (with_reducible refine ⟨fun w' hw' => ?_, hK _ ?_⟩); (subst hw'; go_simp; first | exact rfl | exact ⟨rfl, rfl⟩); clear hK K))
        refine wpQuiet_nil ?_
        rintro _ rfl
        have hte : takeE D T (σ : Int) seq now L = 0 := by unfold takeE; rw [HB1.out, HB2.out, HA.out, show oldT T ((σ : Int)).toNat seq = false from (by unfold oldT; rw [Int.toNat_natCast, HBS.out.1]; rfl)]; rfl
        have HTE := Lib.hid hte
        clear hte k0 k1 k2
        generalize wA.drew = wB at *
        obtain ⟨⟨k0, k1, k2⟩, kf⟩ := G4.out.1.ct hσ
        have kf0 := kf (2 + σ * 3)
        have kf1 := kf (2 + σ * 3 + 1)
        have kf2 := kf (2 + σ * 3 + 2)
        have hcw : c ≠ w.heap.size := by have := HH.out.lc.1; omega
        have hst3 := G4.out.1.stamp (a := seq) (b := now) (d := true) hσ rfl
        have hx3 : CsS w.heap.size (σ : Int) seq oa n cc (((wB.setCell ⟨c, 2 + σ * 3, none⟩ (.int .i64 seq)).setCell ⟨c, 2 + σ * 3 + 1, none⟩ (.int .i64 now)).setCell ⟨c, 2 + σ * 3 + 2, none⟩ (.bool true)) := (hst3.2.block _ (lt_of_blk G4.out.2.1) (by simp; exact Ne.symm hcw)).trans G4.out.2.1
        have hbt : But w (((wB.setCell ⟨c, 2 + σ * 3, none⟩ (.int .i64 seq)).setCell ⟨c, 2 + σ * 3 + 1, none⟩ (.int .i64 now)).setCell ⟨c, 2 + σ * 3 + 2, none⟩ (.bool true)) [c, bm] := (But.of_below G4.out.2.2 _).trans ((hst3.2).mono (by simp) |> fun h => h.trans (But.refl _ _))
        have H5 := Lib.hid (And.intro hst3.1 (And.intro hx3 hbt))
        clear kf hst3 hx3 hbt
        obtain ⟨z0, z1, z2⟩ := H5.out.2.1.cells
        go_wp2_with fail
        generalize (((wB.setCell ⟨c, 2 + σ * 3, none⟩ (.int .i64 seq)).setCell ⟨c, 2 + σ * 3 + 1, none⟩ (.int .i64 now)).setCell ⟨c, 2 + σ * 3 + 2, none⟩ (.bool true)) = wC at *
        clear z0 z1 z2 k0 k1 k2 kf0 kf1 kf2 G4
        go_loopw [73] (fun iv wr => ∃ i : Nat, i ≤ n ∧ iv = .int .i64 i ∧ CapS w0 wr c bm h D (sayAll S (L.take i)) (setT T σ (seq, now, true)) ∧ But w wr [c, bm]) (fun iv _ => n - (intOf iv).toNat)
        case atStart => exact ⟨0, Nat.zero_le _, rfl, H5.out.1, H5.out.2.2⟩
        case round =>
          obtain ⟨i, hi, rfl, hcap, hbt⟩ := hrel
          obtain ⟨w3, rfl⟩ : ∃ w3 : World, w3 = wr := ⟨_, rfl⟩
          by_cases hlt : i < n
          · have hil : ((i : Int) < (n : Int)) = True := by simp; omega
            have hw3 := wrapS hlt hmax
            have hlen : L.length = n := HL.out.symm
            obtain ⟨b0, o0, rfl, hbb, hat⟩ := (Sl.on (w' := w3) F.out.sl (fun hn b o e hl => hbt.block b hl (by have := FR.out hn b o e; simp; omega))).at hlt
            have c0 := hat 0 (by decide)
            have c1 := hat 1 (by decide)
            have c2 := hat 2 (by decide)
            simp only [RCy, Nat.add_zero, List.getElem?_cons_zero, List.getElem?_cons_succ] at c0 c1 c2
            have t1 := sayAll_succ (S := S) (L := L) (i := i) (by omega)
            have hid := F.out.ok _ (getD_mem (i := i) (by omega))
            generalize L.getD i default = y at *
            have hal := ((Below.refl w3.heap.size w3).alloc (Nat.le_refl _) (.cells #[.int .i64 y.id, .int .i64 y.cp, .bool y.dr] 69)).drew
            have hxs : CyS w3.heap.size y (w3.alloc (.cells #[.int .i64 y.id, .int .i64 y.cp, .bool y.dr] 69)).drew := hnew _ _
            have hbt2 := hbt.trans (But.of_below hal [c, bm])
            obtain ⟨O, hu, hc2⟩ := (hcap.keep hal).said hid
            rw [← t1] at hc2
            have hcap2 := hcap.keep hal
            have f0 := hcap2.c1
            obtain ⟨y0, y1, y2⟩ := hxs.cells
            have H6 := Lib.hid (And.intro hc2 (hbt2.setBlock (b := bm) (.inr (by simp)) O))
            clear hcap hbt hat t1 hid hal hbt2 hc2 hcap2 hxs hlen
            go_wp2_with fail
            refine wp_region_pieces (by kernel_rfl) ?_
            refine wpAny_seg (fun w' => w' = (w3.alloc (.cells #[.int .i64 y.id, .int .i64 y.cp, .bool y.dr] 69)).drew) [0, 1, 2, 3, 4, 5, 6] (g := 1) rfl (by kernel_rfl) rfl ?_
            simp only [pick, List.getD_cons_zero, List.getD_cons_succ]
            iterate 7 ((with_reducible refine wpQuiet_step (fun K hK => ?_)); go_simp; first | ((with_reducible refine hK _ ?_); clear hK K) | (apply Exists.intro; (with_reducible refine ⟨fun w' hw' => ?_, hK _ ?_⟩); (subst hw'; go_simp; first | exact rfl | exact ⟨rfl, rfl⟩); clear hK K))
            refine wpQuiet_nil ?_
            rintro _ rfl
            refine wpAny_one 7 (by kernel_rfl) ?_
            simp only [pick, List.getD_cons_zero, List.getD_cons_succ]
            go_wp2_with fail
            refine wpAny_done (by kernel_rfl) ?_ _
            clear c0 c1 c2 f0 y0 y1 y2 hu
            go_wp2_with fail
            exact ⟨⟨i + 1, hlt, by first | rw [hw3] | rw [Int.natCast_succ], H6.out.1, H6.out.2⟩, by first | (rw [hw3]; exact mSucc hlt) | (rw [← Int.natCast_succ]; exact mSucc hlt)⟩
          · obtain rfl : n = i := by omega
            have hil : ((n : Int) < (n : Int)) = False := by simp
            rw [List.take_of_length_le (by rw [HL.out]; exact Nat.le_refl _)] at hcap
            have H6 := Lib.hid (And.intro hcap hbt)
            clear hcap hbt
            go_wp2_with fail
            go_ret
            exact ⟨ret_int HTE.out.symm, by rw [HTE.out, if_pos rfl, if_pos rfl, Int.toNat_natCast]; exact H6.out.1, H6.out.2⟩
      | true =>
        by_cases hse : seq ≤ ts
        · have hst : (seq ≤ ts) = True := eq_true hse
          have HO := Lib.hid hse
          clear hse
          go_wp2_with fail
          refine wp_region_quiet_tail (fun w' => w' = wA.drew) 12 (by kernel_rfl) (by kernel_rfl) rfl ?_
          simp only [List.take_succ_cons, List.take_zero, List.drop_succ_cons, List.drop_zero]
          iterate 12 ((with_reducible refine wpQuiet_step (fun K hK => ?_)); go_simp; first | ((with_reducible refine hK _ ?_); clear hK K) | (apply Exists.intro; (with_reducible refine ⟨fun w' hw' => ?_, hK _ ?_⟩); (subst hw'; go_simp; first | exact rfl | exact ⟨rfl, rfl⟩); clear hK K))
          refine wpQuiet_nil ?_
          rintro _ rfl
          go_wp2_with fail
          go_ret
          exact Taken.no (n := 170) (by unfold takeE; rw [HB1.out, HB2.out, HA.out, show oldT T ((σ : Int)).toNat seq = true from by unfold oldT; rw [Int.toNat_natCast, HBS.out.1, HBS.out.2]; simp [HO.out]]; rfl) (by decide) HH.out G4.out.2.2
        · have hst : (seq ≤ ts) = False := eq_false hse
          have HO := Lib.hid hse
          clear hse
          go_wp2_with fail
          refine wp_region_quiet_tail (fun w' => w' = wA.drew) 12 (by kernel_rfl) (by kernel_rfl) rfl ?_
          simp only [List.take_succ_cons, List.take_zero, List.drop_succ_cons, List.drop_zero]
          iterate 12 ((with_reducible refine wpQuiet_step (fun K hK => ?_)); go_simp; first | ((with_reducible refine hK _ ?_); clear hK K) | (apply Exists.intro; (with_reducible refine ⟨fun w' hw' => ?_, hK _ ?_⟩); (subst hw'; go_simp; first | exact rfl | exact ⟨rfl, rfl⟩); clear hK K))
          refine wpQuiet_nil ?_
          rintro _ rfl
          clear hst
          have hte : takeE D T (σ : Int) seq now L = 0 := by unfold takeE; rw [HB1.out, HB2.out, HA.out, show oldT T ((σ : Int)).toNat seq = false from (by unfold oldT; rw [Int.toNat_natCast, HBS.out.1, HBS.out.2]; simp [HO.out])]; rfl
          have HTE := Lib.hid hte
          clear hte k0 k1 k2
          generalize wA.drew = wB at *
          obtain ⟨⟨k0, k1, k2⟩, kf⟩ := G4.out.1.ct hσ
          have kf0 := kf (2 + σ * 3)
          have kf1 := kf (2 + σ * 3 + 1)
          have kf2 := kf (2 + σ * 3 + 2)
          have hcw : c ≠ w.heap.size := by have := HH.out.lc.1; omega
          have hst3 := G4.out.1.stamp (a := seq) (b := now) (d := true) hσ rfl
          have hx3 : CsS w.heap.size (σ : Int) seq oa n cc (((wB.setCell ⟨c, 2 + σ * 3, none⟩ (.int .i64 seq)).setCell ⟨c, 2 + σ * 3 + 1, none⟩ (.int .i64 now)).setCell ⟨c, 2 + σ * 3 + 2, none⟩ (.bool true)) := (hst3.2.block _ (lt_of_blk G4.out.2.1) (by simp; exact Ne.symm hcw)).trans G4.out.2.1
          have hbt : But w (((wB.setCell ⟨c, 2 + σ * 3, none⟩ (.int .i64 seq)).setCell ⟨c, 2 + σ * 3 + 1, none⟩ (.int .i64 now)).setCell ⟨c, 2 + σ * 3 + 2, none⟩ (.bool true)) [c, bm] := (But.of_below G4.out.2.2 _).trans ((hst3.2).mono (by simp) |> fun h => h.trans (But.refl _ _))
          have H5 := Lib.hid (And.intro hst3.1 (And.intro hx3 hbt))
          clear kf hst3 hx3 hbt
          obtain ⟨z0, z1, z2⟩ := H5.out.2.1.cells
          go_wp2_with fail
          generalize (((wB.setCell ⟨c, 2 + σ * 3, none⟩ (.int .i64 seq)).setCell ⟨c, 2 + σ * 3 + 1, none⟩ (.int .i64 now)).setCell ⟨c, 2 + σ * 3 + 2, none⟩ (.bool true)) = wC at *
          clear z0 z1 z2 k0 k1 k2 kf0 kf1 kf2 G4
          go_loopw [73] (fun iv wr => ∃ i : Nat, i ≤ n ∧ iv = .int .i64 i ∧ CapS w0 wr c bm h D (sayAll S (L.take i)) (setT T σ (seq, now, true)) ∧ But w wr [c, bm]) (fun iv _ => n - (intOf iv).toNat)
          case atStart => exact ⟨0, Nat.zero_le _, rfl, H5.out.1, H5.out.2.2⟩
          case round =>
            obtain ⟨i, hi, rfl, hcap, hbt⟩ := hrel
            obtain ⟨w3, rfl⟩ : ∃ w3 : World, w3 = wr := ⟨_, rfl⟩
            by_cases hlt : i < n
            · have hil : ((i : Int) < (n : Int)) = True := by simp; omega
              have hw3 := wrapS hlt hmax
              have hlen : L.length = n := HL.out.symm
              obtain ⟨b0, o0, rfl, hbb, hat⟩ := (Sl.on (w' := w3) F.out.sl (fun hn b o e hl => hbt.block b hl (by have := FR.out hn b o e; simp; omega))).at hlt
              have c0 := hat 0 (by decide)
              have c1 := hat 1 (by decide)
              have c2 := hat 2 (by decide)
              simp only [RCy, Nat.add_zero, List.getElem?_cons_zero, List.getElem?_cons_succ] at c0 c1 c2
              have t1 := sayAll_succ (S := S) (L := L) (i := i) (by omega)
              have hid := F.out.ok _ (getD_mem (i := i) (by omega))
              generalize L.getD i default = y at *
              have hal := ((Below.refl w3.heap.size w3).alloc (Nat.le_refl _) (.cells #[.int .i64 y.id, .int .i64 y.cp, .bool y.dr] 69)).drew
              have hxs : CyS w3.heap.size y (w3.alloc (.cells #[.int .i64 y.id, .int .i64 y.cp, .bool y.dr] 69)).drew := hnew _ _
              have hbt2 := hbt.trans (But.of_below hal [c, bm])
              obtain ⟨O, hu, hc2⟩ := (hcap.keep hal).said hid
              rw [← t1] at hc2
              have hcap2 := hcap.keep hal
              have f0 := hcap2.c1
              obtain ⟨y0, y1, y2⟩ := hxs.cells
              have H6 := Lib.hid (And.intro hc2 (hbt2.setBlock (b := bm) (.inr (by simp)) O))
              clear hcap hbt hat t1 hid hal hbt2 hc2 hcap2 hxs hlen
              go_wp2_with fail
              refine wp_region_pieces (by kernel_rfl) ?_
              refine wpAny_seg (fun w' => w' = (w3.alloc (.cells #[.int .i64 y.id, .int .i64 y.cp, .bool y.dr] 69)).drew) [0, 1, 2, 3, 4, 5, 6] (g := 1) rfl (by kernel_rfl) rfl ?_
              simp only [pick, List.getD_cons_zero, List.getD_cons_succ]
              iterate 7 ((with_reducible refine wpQuiet_step (fun K hK => ?_)); go_simp; first | ((with_reducible refine hK _ ?_); clear hK K) | (apply Exists.intro; (with_reducible refine ⟨fun w' hw' => ?_, hK _ ?_⟩); (subst hw'; go_simp; first | exact rfl | exact ⟨rfl, rfl⟩); clear hK K))
              refine wpQuiet_nil ?_
              rintro _ rfl
              refine wpAny_one 7 (by kernel_rfl) ?_
              simp only [pick, List.getD_cons_zero, List.getD_cons_succ]
              go_wp2_with fail
              refine wpAny_done (by kernel_rfl) ?_ _
              clear c0 c1 c2 f0 y0 y1 y2 hu
              go_wp2_with fail
              exact ⟨⟨i + 1, hlt, by first | rw [hw3] | rw [Int.natCast_succ], H6.out.1, H6.out.2⟩, by first | (rw [hw3]; exact mSucc hlt) | (rw [← Int.natCast_succ]; exact mSucc hlt)⟩
            · obtain rfl : n = i := by omega
              have hil : ((n : Int) < (n : Int)) = False := by simp
              rw [List.take_of_length_le (by rw [HL.out]; exact Nat.le_refl _)] at hcap
              have H6 := Lib.hid (And.intro hcap hbt)
              clear hcap hbt
              go_wp2_with fail
              go_ret
              exact ⟨ret_int HTE.out.symm, by rw [HTE.out, if_pos rfl, if_pos rfl, Int.toNat_natCast]; exact H6.out.1, H6.out.2⟩
end Go.Proofs.Ytlkbaplfffbmkaa
/- A thing stored into an owned slice, in place. -/
namespace Go.Proofs.Ytlkbaplfffbmkaa
open Go.RowKit
namespace Rep
variable {α : Type} [Inhabited α] {R : Rep α}
theorem getD_set (L : List α) (k i : Nat) (y : α) (hi : i < L.length) : (L.set k y).getD i default = if i = k then y else L.getD i default := by
  simp only [List.getD_eq_getElem?_getD, List.getElem?_set]
  by_cases e : k = i
  · subst e; simp [hi]
  · rw [if_neg e, if_neg (Ne.symm e)]
theorem flat_set_get (L : List α) (k q : Nat) (y : α) (hk : k < L.length) (hq : q < L.length * R.k) : (R.flat (L.set k y))[q]? = if k * R.k ≤ q ∧ q < k * R.k + R.k then (R.cells y)[q - k * R.k]? else (R.flat L)[q]? := by
  have hp := R.pos
  have hi : q / R.k < L.length := Nat.div_lt_of_lt_mul (by rw [Nat.mul_comm]; exact hq)
  have hj : q % R.k < R.k := Nat.mod_lt _ hp
  have he : q / R.k * R.k + q % R.k = q := by rw [Nat.mul_comm]; exact Nat.div_add_mod q R.k
  generalize q / R.k = i at *
  generalize q % R.k = j at *
  subst he
  rw [R.flat_get _ i j (by rw [List.length_set]; exact hi) hj, R.flat_get _ i j hi hj, getD_set L k i y hi]
  by_cases e : i = k
  · subst e
    rw [if_pos rfl, if_pos ⟨by omega, by omega⟩, show i * R.k + j - i * R.k = j by omega]
  · rw [if_neg e, if_neg]
    rintro ⟨h1, h2⟩
    rcases Nat.lt_or_gt_of_ne e with h | h
    · have := Nat.mul_le_mul_right R.k h; rw [Nat.succ_mul] at this; omega
    · have := Nat.mul_le_mul_right R.k h; rw [Nat.succ_mul] at this; omega
theorem own_set {w w' : World} {base g cap n : Nat} {L : List α} (h : R.Own w base (.slice (some ⟨g, 0, none⟩) n cap) L) {k : Nat} (hk : k < n) (y : α) {cur cur' : Array Value} (hc : w.heap[g]? = some (.cells cur R.T (0, 0))) (hset : w'.heap[g]? = some (.cells cur' R.T (0, 0)))
    (hsz : cur'.size = cur.size) (hcur : ∀ q, cur'[q]? = if k * R.k ≤ q ∧ q < k * R.k + R.k then (R.cells y)[q - k * R.k]? else cur[q]?) : R.Own w' base (.slice (some ⟨g, 0, none⟩) n cap) (L.set k y) := by
  obtain ⟨h1, h2⟩ := h
  rcases h2 with ⟨h2, _⟩ | ⟨g', cap', c0, hv, hg, hh, h3, h4, h5, h6⟩
  · cases h2
  · simp only [Value.slice.injEq, Option.some.injEq, Addr.mk.injEq, and_true] at hv
    obtain ⟨rfl, rfl, rfl⟩ := hv
    rw [hh] at hc
    simp only [Option.some.injEq, Obj.cells.injEq, and_true] at hc
    subst hc
    refine ⟨by rw [R.flat_length], .inr ⟨g, cap, cur', by rw [List.length_set], hg, hset, by rw [List.length_set]; exact h3, h4, by rw [hsz]; exact h5, ?_⟩⟩
    rw [List.length_set]
    apply List.ext_getElem?
    intro q
    rw [List.getElem?_take]
    by_cases hq : q < L.length * R.k
    · rw [if_pos hq, flat_set_get L k q y hk hq, Array.getElem?_toList, hcur]
      split
      · rfl
      · rw [← h6, List.getElem?_take, if_pos hq, Array.getElem?_toList]
    · rw [if_neg hq, List.getElem?_eq_none (by rw [R.flat_length, List.length_set]; omega)]
end Rep
end Go.Proofs.Ytlkbaplfffbmkaa
/- The reference's capa with its stamps; its find. -/
namespace Go.Proofs.Ytlkbaplfffbmkaa
open Go.RowKit

structure RefS (w : World) (base x : Nat) (L : List Cy) (Sq At : Nat → Int) : Prop where
  lt : x < base
  out : ∃ cs v, w.heap[x]? = some (.cells cs 67 (0, 0)) ∧ cs.size = 33 ∧ cs[0]? = some v ∧ (∀ i, i < 16 → cs[1 + i]? = some (.int .i64 (Sq i)) ∧ cs[17 + i]? = some (.int .i64 (At i))) ∧ RCy.Own w base v L
theorem RefB.stamps {w : World} {base x : Nat} {L : List Cy} (H : RefB w base x L) : ∃ Sq At, RefS w base x L Sq At := by
  obtain ⟨cs, v, h1, h2, h3, h4, h5⟩ := H.out
  have : ∃ f : Nat → Int, ∀ j, 1 ≤ j → j < 33 → cs[j]? = some (.int .i64 (f j)) := by
    refine ⟨fun j => if hj : 1 ≤ j ∧ j < 33 then (h4 j hj.1 hj.2).choose else 0, fun j a b => ?_⟩
    simp only [a, b, and_self, dif_pos]
    exact (h4 j a b).choose_spec
  obtain ⟨f, hf⟩ := this
  exact ⟨fun i => f (1 + i), fun i => f (17 + i), H.lt, cs, v, h1, h2, h3, fun i hi => ⟨hf _ (by omega) (by omega), hf _ (by omega) (by omega)⟩, h5⟩
theorem RefS.on {w w' : World} {base x : Nat} {L : List Cy} {Sq At : Nat → Int} (H : RefS w base x L Sq At) (hk : ∀ k, k < w.heap.size → (k = x ∨ base ≤ k) → w'.heap[k]? = w.heap[k]?) : RefS w' base x L Sq At := by
  obtain ⟨cs, v, h1, h2, h3, h4, h5⟩ := H.out
  refine ⟨H.lt, cs, v, (hk x (lt_of_blk h1) (.inl rfl)).trans h1, h2, h3, h4, h5.keep fun b hb => ?_⟩
  rcases h5.cases with ⟨rfl, -⟩ | ⟨g, cap, rfl, hg, hl, -⟩
  · cases hb
  · injection hb with hb; dsimp only at hb; subst hb; exact hk g hl (.inr hg)
theorem RefS.keep {w w' : World} {base x : Nat} {L : List Cy} {Sq At : Nat → Int} (H : RefS w base x L Sq At) (hb : Below w.heap.size w w') : RefS w' base x L Sq At := H.on fun k hk _ => hb.block k hk
theorem RefS.setS {w w' : World} {base x : Nat} {L : List Cy} {Sq At : Nat → Int} (H : RefS w base x L Sq At) {σ : Nat} (hσ : σ < 16) {s : Int} (hw : w' = w.setCell ⟨x, 1 + σ, none⟩ (.int .i64 s)) : RefS w' base x L (fun i => if i = σ then s else Sq i) At ∧ But w w' [x] := by
  subst hw
  obtain ⟨cs, v, c1, c2, c3, c4, c5⟩ := H.out
  have hs := (SetB.self c1).store (o := 1 + σ) (lt_of_blk c1) (.int .i64 s)
  refine ⟨⟨H.lt, cs.setIfInBounds (1 + σ) (.int .i64 s), v, hs.at (lt_of_blk c1), by simpa using c2, ?_, fun i hi => ?_, ?_⟩, But.of_set hs (by simp)⟩
  · rw [Array.getElem?_setIfInBounds, if_neg (by omega)]; exact c3
  · refine ⟨?_, by rw [Array.getElem?_setIfInBounds, if_neg (by omega)]; exact (c4 i hi).2⟩
    rw [Array.getElem?_setIfInBounds]
    by_cases e : i = σ
    · subst e; rw [if_pos rfl, if_pos (by omega), if_pos rfl]
    · rw [if_neg (by omega), if_neg e]; exact (c4 i hi).1
  · refine c5.keep fun b hb => hs.other fun e => ?_
    subst e
    rcases c5.cases with ⟨rfl, -⟩ | ⟨g, cap, rfl, hg, -⟩
    · cases hb
    · injection hb with hb; have := H.lt; dsimp only at hb; omega
theorem RefS.setA {w w' : World} {base x : Nat} {L : List Cy} {Sq At : Nat → Int} (H : RefS w base x L Sq At) {σ : Nat} (hσ : σ < 16) {s : Int} (hw : w' = w.setCell ⟨x, 17 + σ, none⟩ (.int .i64 s)) : RefS w' base x L Sq (fun i => if i = σ then s else At i) ∧ But w w' [x] := by
  subst hw
  obtain ⟨cs, v, c1, c2, c3, c4, c5⟩ := H.out
  have hs := (SetB.self c1).store (o := 17 + σ) (lt_of_blk c1) (.int .i64 s)
  refine ⟨⟨H.lt, cs.setIfInBounds (17 + σ) (.int .i64 s), v, hs.at (lt_of_blk c1), by simpa using c2, ?_, fun i hi => ?_, ?_⟩, But.of_set hs (by simp)⟩
  · rw [Array.getElem?_setIfInBounds, if_neg (by omega)]; exact c3
  · refine ⟨by rw [Array.getElem?_setIfInBounds, if_neg (by omega)]; exact (c4 i hi).1, ?_⟩
    rw [Array.getElem?_setIfInBounds]
    by_cases e : i = σ
    · subst e; rw [if_pos rfl, if_pos (by omega), if_pos rfl]
    · rw [if_neg (by omega), if_neg e]; exact (c4 i hi).2
  · refine c5.keep fun b hb => hs.other fun e => ?_
    subst e
    rcases c5.cases with ⟨rfl, -⟩ | ⟨g, cap, rfl, hg, -⟩
    · cases hb
    · injection hb with hb; have := H.lt; dsimp only at hb; omega
/-- the slice of what interfaces carry, read -/
theorem RefS.sl {w : World} {base x : Nat} {L : List Cy} {Sq At : Nat → Int} (H : RefS w base x L Sq At) : ∃ a c, w.cell? ⟨x, 0, none⟩ = some (.slice a L.length c) ∧ w.frozen? ⟨x, 0, none⟩ = false ∧ L.length ≤ c ∧ c ≤ maxLen ∧ RCy.Sl w a L.length c L ∧ RCy.Own w base (.slice a L.length c) L ∧ (a = none → c = 0) := by
  obtain ⟨cs, v, h1, h2, h3, h4, h5⟩ := H.out
  obtain ⟨a, c, rfl, ha, hb, hc, -⟩ := h5.sl
  refine ⟨a, c, cell_of h1 h3, free_of h1, ha, hb, hc, h5, fun e => ?_⟩
  subst e
  rcases h5.cases with ⟨h, -⟩ | ⟨g, cap, h, -⟩
  · simp only [Value.slice.injEq] at h; exact h.2.2
  · simp at h
def posN (L : List Cy) (id : Int) : Int := match L.findIdx? (fun y => decide (y.id = id)) with | none => -1 | some k => (k : Int)
theorem pos_none {L : List Cy} {id : Int} (h : ∀ j, j < L.length → (L.getD j default).id ≠ id) : posN L id = -1 := by
  unfold posN
  have : L.findIdx? (fun y => decide (y.id = id)) = none := by
    rw [List.findIdx?_eq_none_iff]
    intro y hy
    obtain ⟨j, hj, rfl⟩ := List.mem_iff_getElem.1 hy
    have := h j hj
    simp only [List.getD_eq_getElem?_getD, List.getElem?_eq_getElem hj, Option.getD_some] at this
    simpa using this
  rw [this]
theorem pos_some {L : List Cy} {id : Int} {k : Nat} (hk : k < L.length) (he : (L.getD k default).id = id) (h : ∀ j, j < k → (L.getD j default).id ≠ id) : posN L id = (k : Int) := by
  unfold posN
  have : L.findIdx? (fun y => decide (y.id = id)) = some k := by
    rw [List.findIdx?_eq_some_iff_getElem]
    refine ⟨hk, ?_, fun j hj => ?_⟩
    · simp only [List.getD_eq_getElem?_getD, List.getElem?_eq_getElem hk, Option.getD_some] at he
      simpa using he
    · have := h j hj
      simp only [List.getD_eq_getElem?_getD, List.getElem?_eq_getElem (show j < L.length by omega), Option.getD_some] at this
      simpa using this
  rw [this]
theorem pos_cases (L : List Cy) (id : Int) : (posN L id = -1 ∧ ∀ y ∈ L, y.id ≠ id) ∨ ∃ k, posN L id = (k : Nat) ∧ k < L.length ∧ (L.getD k default).id = id := by
  unfold posN
  cases h : L.findIdx? (fun y => decide (y.id = id)) with
  | none =>
    rw [List.findIdx?_eq_none_iff] at h
    exact .inl ⟨rfl, fun y hy => by simpa using h y hy⟩
  | some k =>
    rw [List.findIdx?_eq_some_iff_getElem] at h
    obtain ⟨hk, h1, -⟩ := h
    refine .inr ⟨k, rfl, hk, ?_⟩
    simp only [List.getD_eq_getElem?_getD, List.getElem?_eq_getElem hk, Option.getD_some]
    simpa using h1
set_option maxRecDepth 100000 in
set_option maxHeartbeats 1000000 in
theorem rfind_any {w : World} {base x : Nat} {L : List Cy} {Sq At : Nat → Int} (H : RefS w base x L Sq At) (id : Int) : Calls Try.prog 52 #[.pointer (some ⟨x, 0, none⟩), .int .i64 id] w fun e w' => e = .returned (.int .i64 (posN L id)) ∧ w' = w := by
  obtain ⟨a, c, z0, -, hc1, hc2, hs, -⟩ := H.sl
  have F := Lib.hid hs
  have hmax : L.length ≤ maxLen := by omega
  have HL : ∃ n, L.length = n := ⟨_, rfl⟩
  obtain ⟨n, hn⟩ := HL
  rw [hn] at z0 hs F hmax
  have HN := Lib.hid hn
  clear H hc1 hc2 hs hn
  go_enter Try.func52, Try.ntmps52
  go_wp2_with fail
  go_loop [5] (fun iv => ∃ i : Nat, i ≤ n ∧ iv = .int .i64 i ∧ (∀ j, j < i → (L.getD j default).id ≠ id)) (fun iv => n - (intOf iv).toNat)
  case atStart => exact ⟨0, Nat.zero_le _, rfl, fun j hj => by omega⟩
  case round =>
    obtain ⟨i, hi, rfl, hne⟩ := hrel
    have HE := Lib.hid hne
    clear hne
    by_cases hlt : i < n
    · have hil : ((i : Int) < (n : Int)) = True := by simp; omega
      have hw3 := wrapS hlt hmax
      obtain ⟨b0, o0, rfl, hbb, hat⟩ := F.out.at hlt
      have c0 := hat 0 (by decide)
      simp only [RCy, Nat.add_zero, List.getElem?_cons_zero] at c0
      obtain ⟨u, hu⟩ : ∃ u, (L.getD i default).id = u := ⟨_, rfl⟩
      rw [hu] at c0
      obtain ⟨be, hbe⟩ : ∃ be, (u == id) = be := ⟨_, rfl⟩
      have HB := Lib.hid (And.intro hbe hu)
      clear hu hat hbb
      cases be with
      | true =>
        go_wp2_with fail
        go_ret
        exact ⟨ret_int (pos_some (by rw [HN.out]; exact hlt) (by rw [HB.out.2]; simpa using HB.out.1) HE.out).symm, rfl⟩
      | false =>
        go_wp2_with fail
        exact ⟨⟨i + 1, hlt, by first | rw [hw3] | rw [Int.natCast_succ], fun j hj => by
          rcases Nat.lt_succ_iff_lt_or_eq.1 hj with h | rfl
          · exact HE.out j h
          · rw [HB.out.2]; simpa using HB.out.1⟩, by first | (rw [hw3]; exact mSucc hlt) | (rw [← Int.natCast_succ]; exact mSucc hlt)⟩
    · obtain rfl : n = i := by omega
      have hil : ((n : Int) < (n : Int)) = False := by simp
      go_wp2_with fail
      go_ret
      exact ⟨ret_int (pos_none (by rw [HN.out]; exact HE.out)).symm, rfl⟩
end Go.Proofs.Ytlkbaplfffbmkaa
