/- The reference's Take. -/
import Derived.Test.YtlkbaplfffbmkaaKag
import Derived.Test.YtlkbaplfffbmkaaKab
import Derived.Laws.Tables
import Derived.Deep.Quiet
import Derived.Test.YtlkbaplfffbmkaaKaa
import Derived.Test.YtlkbaplfffbmkaaKae
namespace Go.Proofs.Ytlkbaplfffbmkaa
open Go.RowKit

theorem pos_map {L L' : List Cy} (h : L.map Cy.id = L'.map Cy.id) (id : Int) : posN L id = posN L' id := by
  have e : ∀ L : List Cy, L.findIdx? (fun y => decide (y.id = id)) = (L.map Cy.id).findIdx? (fun z => decide (z = id)) := fun L => by rw [List.findIdx?_map]; rfl
  unfold posN
  rw [e L, e L', h]
def SetsIn (w w' : World) (g : Nat) : Prop := ∃ o, SetB w w' g o
def setOne (L : List Cy) (y : Cy) : List Cy := L.set (posN L y.id).toNat y
def setCs (L M : List Cy) : List Cy := M.foldl setOne L
def found (L M : List Cy) : Bool := M.all fun y => decide (0 ≤ posN L y.id)
theorem setOne_ids {L : List Cy} {y : Cy} (h : 0 ≤ posN L y.id) : (setOne L y).map Cy.id = L.map Cy.id := by
  rcases pos_cases L y.id with ⟨h1, _⟩ | ⟨k, h1, h2, h3⟩
  · omega
  · unfold setOne
    rw [h1, Int.toNat_natCast, List.map_set]
    apply List.ext_getElem?
    intro j
    rw [List.getElem?_set]
    by_cases e : k = j
    · subst e
      rw [if_pos rfl, if_pos (by simpa using h2), List.getElem?_map, List.getElem?_eq_getElem h2, Option.map_some]
      simp only [List.getD_eq_getElem?_getD, List.getElem?_eq_getElem h2, Option.getD_some] at h3
      rw [h3]
    · rw [if_neg e]
theorem setCs_snoc (L M : List Cy) (y : Cy) : setCs L (M ++ [y]) = setOne (setCs L M) y := by unfold setCs; rw [List.foldl_append]; rfl
theorem setCs_succ {L M : List Cy} {i : Nat} (hi : i < M.length) : setCs L (M.take (i + 1)) = setOne (setCs L (M.take i)) (M.getD i default) := by
  rw [List.take_succ_eq_append_getElem hi, setCs_snoc]
  simp [List.getD_eq_getElem?_getD, hi]
theorem setCs_ids {L M : List Cy} (h : found L M = true) (i : Nat) : (setCs L (M.take i)).map Cy.id = L.map Cy.id := by
  induction i with
  | zero => rfl
  | succ i ih =>
    by_cases hi : i < M.length
    · rw [setCs_succ hi, setOne_ids, ih]
      rw [pos_map ih]
      have := List.all_eq_true.1 h (M.getD i default) (getD_mem hi)
      simpa using this
    · rw [List.take_of_length_le (by omega)]
      rw [List.take_of_length_le (by omega)] at ih
      exact ih
theorem setCs_len {L M : List Cy} (h : found L M = true) (i : Nat) : (setCs L (M.take i)).length = L.length := by
  have := congrArg List.length (setCs_ids h i)
  simpa using this
def nowOk (now : Int) : Bool := decide (0 ≤ now) && decide (now ≤ 9007199254740991)
def rtakeE (L : List Cy) (Sq : Nat → Int) (src seq now : Int) (M : List Cy) : Int := if okCs src seq M && nowOk now then (if found L M then (if seq ≤ Sq src.toNat then 170 else 0) else 4) else 1
structure RTaken (w w' : World) (base x : Nat) (L : List Cy) (Sq At : Nat → Int) (src seq now : Int) (M : List Cy) : Prop where
  no : rtakeE L Sq src seq now M ≠ 0 → RefS w' base x L Sq At
  yes : rtakeE L Sq src seq now M = 0 → ∃ b', RefS w' b' x (setCs L M) (fun i => if i = src.toNat then seq else Sq i) (fun i => if i = src.toNat then now else At i)
  but : But w w' [x]
theorem RTaken.left {w w' : World} {base x : Nat} {L : List Cy} {Sq At : Nat → Int} {src seq now : Int} {M : List Cy} {m : Int} (he : rtakeE L Sq src seq now M = m) (hm : m ≠ 0) (H : RefS w base x L Sq At) (hb : Below w.heap.size w w') : Ending.returned (.int .i64 m) = .returned (.int .i64 (rtakeE L Sq src seq now M)) ∧ RTaken w w' base x L Sq At src seq now M :=
  ⟨ret_int he.symm, fun _ => H.keep hb, fun h => absurd (he.symm.trans h) hm, But.of_below hb _⟩
theorem RefS.cell0 {w : World} {base x : Nat} {L : List Cy} {Sq At : Nat → Int} (H : RefS w base x L Sq At) {σ : Nat} (hσ : σ < 16) : w.cell? ⟨x, 1 + σ, none⟩ = some (.int .i64 (Sq σ)) ∧ w.cell? ⟨x, 17 + σ, none⟩ = some (.int .i64 (At σ)) ∧ ∀ o, w.frozen? ⟨x, o, none⟩ = false := by
  obtain ⟨cs, v, h1, h2, h3, h4, h5⟩ := H.out
  exact ⟨cell_of h1 (h4 σ hσ).1, cell_of h1 (h4 σ hσ).2, fun o => free_of h1⟩
theorem RefS.lx {w : World} {base x : Nat} {L : List Cy} {Sq At : Nat → Int} (H : RefS w base x L Sq At) : x < w.heap.size := by
  obtain ⟨cs, v, h1, h2, h3, h4, h5⟩ := H.out
  exact lt_of_blk h1
def RefC (w : World) (x : Nat) (Sq At : Nat → Int) : Prop := ∃ cs v, w.heap[x]? = some (.cells cs 67 (0, 0)) ∧ cs.size = 33 ∧ cs[0]? = some v ∧ (∀ i, i < 16 → cs[1 + i]? = some (.int .i64 (Sq i)) ∧ cs[17 + i]? = some (.int .i64 (At i)))
theorem RefS.toC {w : World} {base x : Nat} {L : List Cy} {Sq At : Nat → Int} (H : RefS w base x L Sq At) : RefC w x Sq At := by
  obtain ⟨cs, v, h1, h2, h3, h4, h5⟩ := H.out
  exact ⟨cs, v, h1, h2, h3, h4⟩
theorem RefC.on {w w' : World} {x : Nat} {Sq At : Nat → Int} (H : RefC w x Sq At) (h : w'.heap[x]? = w.heap[x]?) : RefC w' x Sq At := by
  obtain ⟨cs, v, h1, h2⟩ := H
  exact ⟨cs, v, h.trans h1, h2⟩
theorem RefC.c0 {w : World} {x : Nat} {Sq At : Nat → Int} (H : RefC w x Sq At) : (∃ v, w.cell? ⟨x, 0, none⟩ = some v) ∧ w.frozen? ⟨x, 0, none⟩ = false := by
  obtain ⟨cs, v, h1, h2, h3, h4⟩ := H
  exact ⟨⟨v, cell_of h1 h3⟩, free_of h1⟩
/-- a slice of its own put in its place -/
theorem RefC.setL {w w' : World} {base' x : Nat} {M : List Cy} {Sq At : Nat → Int} (H : RefC w x Sq At) {v : Value} (hx : x < base') (hv : RCy.Own w base' v M) (hw : w' = w.setCell ⟨x, 0, none⟩ v) : RefS w' base' x M Sq At ∧ But w w' [x] := by
  subst hw
  obtain ⟨cs, v0, c1, c2, c3, c4⟩ := H
  have hs := (SetB.self c1).store (o := 0) (lt_of_blk c1) v
  refine ⟨⟨hx, cs.setIfInBounds 0 v, v, hs.at (lt_of_blk c1), by simpa using c2, ?_, fun i hi => ⟨?_, ?_⟩, ?_⟩, But.of_set hs (by simp)⟩
  · rw [Array.getElem?_setIfInBounds, if_pos rfl, if_pos (by omega)]
  · rw [Array.getElem?_setIfInBounds, if_neg (by omega)]; exact (c4 i hi).1
  · rw [Array.getElem?_setIfInBounds, if_neg (by omega)]; exact (c4 i hi).2
  · refine hv.keep fun b hb => hs.other fun e => ?_
    subst e
    rcases hv.cases with ⟨rfl, -⟩ | ⟨g, cap, rfl, hg, -⟩
    · cases hb
    · injection hb with hb; dsimp only at hb; omega
/-- one of what interfaces carry stored in place -/
theorem RefS.put {w w' : World} {base x : Nat} {L : List Cy} {Sq At : Nat → Int} {g k cap : Nat} {y : Cy} (H : RefS w base x L Sq At) (h0 : w.cell? ⟨x, 0, none⟩ = some (.slice (some ⟨g, 0, none⟩) L.length cap)) (hk : k < L.length)
    (hw : w' = ((w.setCell ⟨g, k * 3, none⟩ (.int .i64 y.id)).setCell ⟨g, k * 3 + 1, none⟩ (.int .i64 y.cp)).setCell ⟨g, k * 3 + 2, none⟩ (.bool y.dr)) : RefS w' base x (L.set k y) Sq At ∧ SetsIn w w' g ∧ base ≤ g := by
  obtain ⟨cs, v, c1, c2, c3, c4, c5⟩ := H.out
  have hv : v = .slice (some ⟨g, 0, none⟩) L.length cap := by
    have := cell_of (o := 0) c1 c3
    rw [this] at h0
    simpa using h0
  subst hv
  rcases c5.cases with ⟨h, -⟩ | ⟨g', cap', he, hg, hl, h1, h2, hr, hf, cur, hc, hs⟩
  · cases h
  · simp only [Value.slice.injEq, Option.some.injEq, Addr.mk.injEq, and_true, true_and] at he
    obtain ⟨rfl, rfl⟩ := he
    have hne : x ≠ g := by have := H.lt; omega
    have hS := (((SetB.self hc).store (o := k * 3) hl (.int .i64 y.id)).store (o := k * 3 + 1) hl (.int .i64 y.cp)).store (o := k * 3 + 2) hl (.bool y.dr)
    rw [← hw] at hS
    refine ⟨⟨H.lt, cs, _, (hS.other hne).trans c1, c2, c3, c4, ?_⟩, ⟨_, hS⟩, hg⟩
    refine Rep.own_set c5 hk y hc (hS.at hl) (by simp) fun q => ?_
    have hsz : (k + 1) * 3 ≤ cur.size := by rw [hs]; exact Nat.mul_le_mul_right _ (by omega)
    simp only [Array.getElem?_setIfInBounds, Array.size_setIfInBounds]
    by_cases e : k * 3 ≤ q ∧ q < k * 3 + 3
    · rw [if_pos (show k * RCy.k ≤ q ∧ q < k * RCy.k + RCy.k from e)]
      have e3 : q = k * 3 ∨ q = k * 3 + 1 ∨ q = k * 3 + 2 := by omega
      rcases e3 with rfl | rfl | rfl
      · rw [if_neg (by omega), if_neg (by omega), if_pos rfl, if_pos (by omega), show k * 3 - k * RCy.k = 0 from by show k * 3 - k * 3 = 0; omega]; rfl
      · rw [if_neg (by omega), if_pos rfl, if_pos (by omega), show k * 3 + 1 - k * RCy.k = 1 from by show k * 3 + 1 - k * 3 = 1; omega]; rfl
      · rw [if_pos rfl, if_pos (by omega), show k * 3 + 2 - k * RCy.k = 2 from by show k * 3 + 2 - k * 3 = 2; omega]; rfl
    · rw [if_neg (show ¬ (k * RCy.k ≤ q ∧ q < k * RCy.k + RCy.k) from e), if_neg (by omega), if_neg (by omega), if_neg (by omega)]
theorem RefS.own0 {w : World} {base x : Nat} {L : List Cy} {Sq At : Nat → Int} (H : RefS w base x L Sq At) (hL : 0 < L.length) : ∃ g cap, w.cell? ⟨x, 0, none⟩ = some (.slice (some ⟨g, 0, none⟩) L.length cap) ∧ w.frozen? ⟨x, 0, none⟩ = false ∧ (∀ o, w.frozen? ⟨g, o, none⟩ = false) ∧ base ≤ g ∧ g < w.heap.size ∧ L.length ≤ cap ∧ cap ≤ maxLen ∧ RCy.Row w g 0 L := by
  obtain ⟨cs, v, c1, c2, c3, c4, c5⟩ := H.out
  rcases c5.cases with ⟨-, h⟩ | ⟨g, cap, rfl, hg, hl, h1, h2, hr, hf, -⟩
  · rw [h] at hL; simp at hL
  · exact ⟨g, cap, cell_of c1 c3, free_of c1, hf, hg, hl, h1, h2, hr⟩
set_option maxRecDepth 100000 in
set_option maxHeartbeats 4000000 in
theorem rtake_any {w : World} {base x : Nat} {L : List Cy} {Sq At : Nat → Int} (H : RefS w base x L Sq At) {src seq : Int} {oa : Option Addr} {n cc : Nat} {M : List Cy} (hM : Cys w oa n cc M) (hfar : 0 < n → ∀ b o, oa = some ⟨b, o, none⟩ → b ≠ x) (hLl : L.length ≤ 4294967296) (now : Int) :
    Calls Try.prog 28 #[.pointer (some ⟨x, 0, none⟩), .agg #[.int .i64 src, .int .i64 seq, .slice oa n cc], .int .i64 now] w fun e w' => e = .returned (.int .i64 (rtakeE L Sq src seq now M)) ∧ RTaken w w' base x L Sq At src seq now M := by
  have hal := (Below.refl w.heap.size w).alloc (Nat.le_refl _) (.cells #[.int .i64 src, .int .i64 seq, .slice oa n cc] 55)
  have hx0 : CsS w.heap.size src seq oa n cc (w.alloc (.cells #[.int .i64 src, .int .i64 seq, .slice oa n cc] 55)) := hnew _ _
  have HL := Lib.hid hM.sl.len
  have hmax := hM.sl.max
  have G := Lib.hid (And.intro (H.keep hal) (And.intro hx0 hal))
  have F := Lib.hid (And.intro hM hfar)
  have HH := Lib.hid (And.intro H hLl)
  have HC := Lib.hid (rccheck_any (src := src) (seq := seq) (hM.sl.keep hal) : Calls Try.prog 26 #[.agg #[.int .i64 src, .int .i64 seq, .slice oa n cc]] (w.alloc (.cells #[.int .i64 src, .int .i64 seq, .slice oa n cc] 55)) _)
  obtain ⟨b1, hb1⟩ : ∃ b, okCs src seq M = b := ⟨_, rfl⟩
  rw [hb1] at HC
  have HB1 := Lib.hid hb1
  obtain ⟨z0, z1, z2⟩ := hx0.cells
  clear hal hx0 hM H hb1 hfar hLl
  go_enter Try.func28, Try.ntmps28
  go_wp2_with fail
  generalize (w.alloc (.cells #[.int .i64 src, .int .i64 seq, .slice oa n cc] 55)) = W at *
  refine (HC.out).mono ?_
  rintro e w1 ⟨rfl, hb⟩
  have G1 := Lib.hid (And.intro (G.out.1.keep hb) (And.intro (G.out.2.1.on hb) (bcall G.out.2.2 (Nat.le_refl _) hb)))
  clear hb G HC z0 z1 z2
  obtain ⟨z0, z1, z2⟩ := G1.out.2.1.cells
  cases b1 with
  | false =>
    go_wp2_with fail
    go_ret
    exact RTaken.left (m := 1) (by unfold rtakeE; rw [HB1.out, Bool.false_and, if_neg (by simp)]) (by decide) HH.out.1 G1.out.2.2
  | true =>
  by_cases g1 : now < 0
  · have g1t : (now < 0) = True := eq_true g1
    have HG := Lib.hid g1
    clear g1
    go_wp2_with fail
    go_ret
    exact RTaken.left (m := 1) (by unfold rtakeE nowOk; rw [decide_eq_false (by have := HG.out; omega : ¬ 0 ≤ now), Bool.false_and, Bool.and_false, if_neg (by simp)]) (by decide) HH.out.1 G1.out.2.2
  have g1t : (now < 0) = False := eq_false g1
  by_cases g2 : 9007199254740991 < now
  · have g2t : (9007199254740991 < now) = True := eq_true g2
    have HG := Lib.hid g2
    clear g1 g2
    go_wp2_with fail
    go_ret
    exact RTaken.left (m := 1) (by unfold rtakeE nowOk; rw [decide_eq_false (by have := HG.out; omega : ¬ now ≤ 9007199254740991), Bool.and_false, Bool.and_false, if_neg (by simp)]) (by decide) HH.out.1 G1.out.2.2
  have g2t : (9007199254740991 < now) = False := eq_false g2
  have HNW := Lib.hid (show nowOk now = true from by unfold nowOk; simp; omega)
  clear g1 g2
  go_wp2_with fail
  clear g1t g2t
  go_loopw [7] (fun iv wr => ∃ i : Nat, i ≤ n ∧ iv = .int .i64 i ∧ found L (M.take i) = true ∧ wr = w1) (fun iv _ => n - (intOf iv).toNat)
  case atStart => exact ⟨0, Nat.zero_le _, rfl, rfl, rfl⟩
  case round =>
    obtain ⟨i, hi, rfl, hfd, rfl⟩ := hrel
    by_cases hlt : i < n
    · have hil : ((i : Int) < (n : Int)) = True := by simp; omega
      have hw3 := wrapS hlt hmax
      have hlen : M.length = n := HL.out.symm
      obtain ⟨b0, o0, rfl, hbb, hat⟩ := (F.out.1.keep G1.out.2.2).sl.at hlt
      have c0 := hat 0 (by decide)
      simp only [RCy, Nat.add_zero, List.getElem?_cons_zero] at c0
      have t1 : found L (M.take (i + 1)) = (found L (M.take i) && decide (0 ≤ posN L (M.getD i default).id)) := all_take_s M (fun y => decide (0 ≤ posN L y.id)) i (by omega)
      rw [hfd, Bool.true_and] at t1
      have hmem : M.getD i default ∈ M := getD_mem (by omega)
      generalize M.getD i default = y at *
      have hfi := rfind_any G1.out.1 y.id
      obtain ⟨p, hp⟩ : ∃ p, posN L y.id = p := ⟨_, rfl⟩
      rw [hp] at t1 hfi
      have HF := Lib.hid hfi
      have HT := Lib.hid (And.intro t1 (And.intro hmem hp))
      clear hfd hat hbb hlen t1 hmem hfi hp
      go_wp2_with fail
      refine (HF.out).mono ?_
      rintro e w2 ⟨rfl, hw2⟩
      subst w2
      by_cases hp0 : p < 0
      · have hpt : (p < 0) = True := eq_true hp0
        have HP := Lib.hid hp0
        clear hp0
        go_wp2_with fail
        go_ret
        have hno : found L M = false := by
          unfold found
          rw [List.all_eq_false]
          exact ⟨y, HT.out.2.1, by rw [HT.out.2.2]; have := HP.out; simp; omega⟩
        exact RTaken.left (m := 4) (by unfold rtakeE; rw [HB1.out, HNW.out, hno]; rfl) (by decide) HH.out.1 G1.out.2.2
      · have hpt : (p < 0) = False := eq_false hp0
        have HP := Lib.hid hp0
        clear hp0
        go_wp2_with fail
        exact ⟨⟨i + 1, hlt, by first | rw [hw3] | rw [Int.natCast_succ], by rw [HT.out.1]; have := HP.out; simp; omega, trivial⟩, by first | (rw [hw3]; exact mSucc hlt) | (rw [← Int.natCast_succ]; exact mSucc hlt)⟩
    · obtain rfl : n = i := by omega
      have hil : ((n : Int) < (n : Int)) = False := by simp
      rw [List.take_of_length_le (by rw [HL.out]; exact Nat.le_refl _)] at hfd
      have hsr : (0 ≤ src ∧ src ≤ 15) := by
        have h1 := HB1.out
        unfold okCs at h1
        simp only [Bool.and_eq_true, decide_eq_true_eq] at h1
        exact h1.1.1.1.1
      obtain ⟨σ, rfl⟩ : ∃ σ : Nat, src = σ := ⟨src.toNat, by omega⟩
      have hσ : σ < 16 := by omega
      have hs0 : ((0 : Int) ≤ (σ : Int)) = True := by simp
      have hs1 : ((σ : Int) < 16) = True := by simp; omega
      have hd := (Below.refl wr.heap.size wr).drew
      have G3 := Lib.hid (And.intro (G1.out.1.keep hd) (And.intro (G1.out.2.1.on hd) (bcall G1.out.2.2 (Nat.le_refl _) hd)))
      have HA := Lib.hid hfd
      clear hfd hsr hd
      go_wp2_with fail
      clear z0 z1 z2
      obtain ⟨z0, z1, z2⟩ := G3.out.2.1.cells
      obtain ⟨k0, k1, -⟩ := G3.out.1.cell0 hσ
      obtain ⟨sq, hsq⟩ : ∃ s, Sq σ = s := ⟨_, rfl⟩
      rw [hsq] at k0
      have HSQ := Lib.hid hsq
      clear hsq
      by_cases hse : seq ≤ sq
      · have hst : (seq ≤ sq) = True := eq_true hse
        have HO := Lib.hid hse
        clear hse
        refine wp_region_quiet_tail (fun w' => w' = wr.drew) 9 (by kernel_rfl) (by kernel_rfl) rfl ?_
        simp only [List.take_succ_cons, List.take_zero, List.drop_succ_cons, List.drop_zero]
        iterate 9 ((with_reducible refine wpQuiet_step (fun K hK => ?_)); go_simp; first | ((with_reducible refine hK _ ?_); clear hK K) | (apply Exists.intro; (with_reducible refine ⟨fun w' hw' => ?_, hK _ ?_⟩); (subst hw'; first | (go_simp; first | exact rfl | exact ⟨rfl, rfl⟩) | exact rfl | exact ⟨rfl, rfl⟩); clear hK K))
        refine wpQuiet_nil ?_
        rintro _ rfl
        go_wp2_with fail
        go_ret
        exact RTaken.left (m := 170) (by unfold rtakeE; rw [HB1.out, HNW.out, HA.out, Int.toNat_natCast, HSQ.out]; simp [HO.out]) (by decide) HH.out.1 G3.out.2.2
      · have hst : (seq ≤ sq) = False := eq_false hse
        have hte : rtakeE L Sq (σ : Int) seq now M = 0 := by unfold rtakeE; rw [HB1.out, HNW.out, HA.out, Int.toNat_natCast, HSQ.out]; simp [hse]
        have HTE := Lib.hid hte
        clear hse hte
        refine wp_region_quiet_tail (fun w' => w' = wr.drew) 9 (by kernel_rfl) (by kernel_rfl) rfl ?_
        simp only [List.take_succ_cons, List.take_zero, List.drop_succ_cons, List.drop_zero]
        iterate 9 ((with_reducible refine wpQuiet_step (fun K hK => ?_)); go_simp; first | ((with_reducible refine hK _ ?_); clear hK K) | (apply Exists.intro; (with_reducible refine ⟨fun w' hw' => ?_, hK _ ?_⟩); (subst hw'; first | (go_simp; first | exact rfl | exact ⟨rfl, rfl⟩) | exact rfl | exact ⟨rfl, rfl⟩); clear hK K))
        refine wpQuiet_nil ?_
        rintro _ rfl
        generalize wr.drew = wA at *
        clear z0 z1 z2 k0 k1
        go_wp2_with fail
        clear hst
        have hd := (Below.refl wA.heap.size wA).drew
        have G4 := Lib.hid (And.intro (G3.out.1.keep hd) (And.intro (G3.out.2.1.on hd) (bcall G3.out.2.2 (Nat.le_refl _) hd)))
        clear hd G3
        obtain ⟨z0, z1, z2⟩ := G4.out.2.1.cells
        obtain ⟨k0, k1, kf⟩ := G4.out.1.cell0 hσ
        have kf0 := kf (1 + σ)
        have hxq : x ≠ w.heap.size := by have := HH.out.1.lx; omega
        obtain ⟨hR5, hb5⟩ := G4.out.1.setS (w' := (wA.setCell ⟨x, 1 + σ, none⟩ (.int .i64 seq)).drew) hσ (s := seq) rfl
        have hc5 : CsS w.heap.size (σ : Int) seq oa n cc (wA.setCell ⟨x, 1 + σ, none⟩ (.int .i64 seq)).drew := (hb5.block _ (lt_of_blk G4.out.2.1) (by simp; exact Ne.symm hxq)).trans G4.out.2.1
        have hbt5 : But w (wA.setCell ⟨x, 1 + σ, none⟩ (.int .i64 seq)).drew [x] := (But.of_below G4.out.2.2 _).trans hb5
        have H5 := Lib.hid (And.intro hR5 (And.intro hc5 hbt5))
        clear kf hR5 hb5 hc5 hbt5
        refine wp_region_quiet_tail (fun w' => w' = wA.drew) 8 (by kernel_rfl) (by kernel_rfl) rfl ?_
        simp only [List.take_succ_cons, List.take_zero, List.drop_succ_cons, List.drop_zero]
        iterate 8 ((with_reducible refine wpQuiet_step (fun K hK => ?_)); go_simp; first | ((with_reducible refine hK _ ?_); clear hK K) | (apply Exists.intro; (with_reducible refine ⟨fun w' hw' => ?_, hK _ ?_⟩); (subst hw'; first | (go_simp; first | exact rfl | exact ⟨rfl, rfl⟩) | exact rfl | exact ⟨rfl, rfl⟩); clear hK K))
        refine wpQuiet_nil ?_
        rintro _ rfl
        go_wp2_with fail
        generalize (wA.setCell ⟨x, 1 + σ, none⟩ (.int .i64 seq)).drew = wB at *
        clear z0 z1 z2 k0 k1 kf0 G4
        have hd := (Below.refl wB.heap.size wB).drew
        have H6 := Lib.hid (And.intro (H5.out.1.keep hd) (And.intro (H5.out.2.1.on hd) (H5.out.2.2.drew)))
        clear hd H5
        obtain ⟨z0, z1, z2⟩ := H6.out.2.1.cells
        obtain ⟨k0, k1, kf⟩ := H6.out.1.cell0 hσ
        have kf0 := kf (17 + σ)
        obtain ⟨hR5, hb5⟩ := H6.out.1.setA (w' := (wB.setCell ⟨x, 17 + σ, none⟩ (.int .i64 now)).drew) hσ (s := now) rfl
        have hc5 : CsS w.heap.size (σ : Int) seq oa n cc (wB.setCell ⟨x, 17 + σ, none⟩ (.int .i64 now)).drew := (hb5.block _ (lt_of_blk H6.out.2.1) (by simp; exact Ne.symm hxq)).trans H6.out.2.1
        have hbt5 : But w (wB.setCell ⟨x, 17 + σ, none⟩ (.int .i64 now)).drew [x] := H6.out.2.2.trans hb5
        have H7 := Lib.hid (And.intro hR5 (And.intro hc5 hbt5))
        clear kf hR5 hb5 hc5 hbt5
        refine wp_region_quiet_tail (fun w' => w' = wB.drew) 7 (by kernel_rfl) (by kernel_rfl) rfl ?_
        simp only [List.take_succ_cons, List.take_zero, List.drop_succ_cons, List.drop_zero]
        iterate 7 ((with_reducible refine wpQuiet_step (fun K hK => ?_)); go_simp; first | ((with_reducible refine hK _ ?_); clear hK K) | (apply Exists.intro; (with_reducible refine ⟨fun w' hw' => ?_, hK _ ?_⟩); (subst hw'; first | (go_simp; first | exact rfl | exact ⟨rfl, rfl⟩) | exact rfl | exact ⟨rfl, rfl⟩); clear hK K))
        refine wpQuiet_nil ?_
        rintro _ rfl
        have hwz : (wB.setCell ⟨x, 17 + σ, none⟩ (.int .i64 now)).heap.size = wB.heap.size := by simp [World.setCell]
        have hal : Below (wB.setCell ⟨x, 17 + σ, none⟩ (.int .i64 now)).drew.heap.size (wB.setCell ⟨x, 17 + σ, none⟩ (.int .i64 now)).drew ((wB.setCell ⟨x, 17 + σ, none⟩ (.int .i64 now)).alloc (.cells #[] 69)).drew := by have h := ((Below.refl _ (wB.setCell ⟨x, 17 + σ, none⟩ (.int .i64 now))).alloc (Nat.le_refl _) (.cells #[] 69)).drew; exact ⟨h.os, h.tape, h.output, h.size, h.block⟩
        have hnw : ((wB.setCell ⟨x, 17 + σ, none⟩ (.int .i64 now)).alloc (.cells #[] 69)).drew.heap[wB.heap.size]? = some (.cells #[] 69 (0, 0)) := hnewAt hwz.symm
        have hwle : w.heap.size ≤ wB.heap.size := by have := H7.out.2.2.size; rw [← hwz]; exact this
        have H8 := Lib.hid (And.intro (H7.out.1.keep hal) (And.intro (H7.out.2.1.on hal) (And.intro (H7.out.2.2.trans (But.of_below hal _)) (And.intro hnw (And.intro hwle (Nat.lt_of_lt_of_le H7.out.1.lx (Nat.le_of_eq hwz)))))))
        have hclt : w.heap.size < wB.heap.size := lt_of_blk H6.out.2.1
        clear hwz hal hnw hwle H7 H6
        obtain ⟨a0, cap0, s0, sf0, hn1, hn2, hs0', -, hcn⟩ := H8.out.1.sl
        have HS0 := Lib.hid (And.intro hs0' (And.intro hn1 (And.intro hn2 hcn)))
        clear hs0' hn1 hn2 hcn
        go_wp2_with (at_builtin; refine halt ?_)
        refine Halted.go ?_
        clear z0 z1 z2 k0 k1 kf0 s0 sf0
        generalize ((wB.setCell ⟨x, 17 + σ, none⟩ (.int .i64 now)).alloc (.cells #[] 69)).drew = wC at *
        have hown : RCy.Own wC wB.heap.size (.slice (some ⟨wB.heap.size, 0, none⟩) 0 0) [] := ⟨rfl, .inr ⟨wB.heap.size, 0, #[], rfl, Nat.le_refl _, H8.out.2.2.2.1, Nat.le_refl _, Nat.zero_le _, rfl, rfl⟩⟩
        refine Rep.append_list T64 rfl _ _ rfl rfl hown (M := L) (m := L.length) rfl HS0.out.1 HS0.out.2.2.2 (by have := HH.out.2; rw [List.length_nil]; unfold maxLen; omega) (by have := HH.out.2; rw [List.length_nil]; omega) (Nat.le_of_lt (lt_of_blk H8.out.2.2.2.1)) ?_
        intro v9 w9 hown9 hbel9 _
        rw [List.nil_append] at hown9
        obtain ⟨a9, c9, rfl, -, -⟩ := hown9.sl0
        have hx9 : x < wB.heap.size := H8.out.2.2.2.2.2
        have hk9 : ∀ k, k < wB.heap.size → w9.heap[k]? = wC.heap[k]? := fun k hk => hbel9.block k hk
        have hrc := H8.out.1.toC.on (hk9 x hx9)
        obtain ⟨⟨vo, s0⟩, sf0⟩ := hrc.c0
        obtain ⟨hR, hb9⟩ := hrc.setL hx9 hown9 rfl
        have hc9 : CsS w.heap.size (σ : Int) seq oa n cc (w9.setCell ⟨x, 0, none⟩ (.slice a9 L.length c9)) := (hb9.block _ (Nat.lt_of_lt_of_le hclt (Nat.le_trans (Nat.le_of_lt (lt_of_blk H8.out.2.2.2.1)) hbel9.size)) (by simp; exact Ne.symm hxq)).trans ((hk9 _ hclt).trans H8.out.2.1)
        have hbt9 : But w (w9.setCell ⟨x, 0, none⟩ (.slice a9 L.length c9)) [x] := (Rep.But.step H8.out.2.2.1 hbel9 (Nat.le_of_lt hclt)).trans hb9
        have H9 := Lib.hid (And.intro hR (And.intro hc9 hbt9))
        clear hx9 hk9 hrc hR hb9 hc9 hbt9 hown9 hbel9 hown H8 hxq
        go_wp2_with fail
        generalize w9.setCell ⟨x, 0, none⟩ (.slice a9 L.length c9) = wD at *
        have HNB := Lib.hid hclt
        clear s0 sf0 hclt
        generalize wB.heap.size = nb at *
        have HLL := Lib.hid (setCs_len HA.out)
        go_loopw [8] (fun iv wr => ∃ i : Nat, i ≤ n ∧ iv = .int .i64 i ∧ RefS wr nb x (setCs L (M.take i)) (fun i => if i = σ then seq else Sq i) (fun i => if i = σ then now else At i) ∧ CsS w.heap.size (σ : Int) seq oa n cc wr ∧ But w wr [x]) (fun iv _ => n - (intOf iv).toNat)
        case atStart => exact ⟨0, Nat.zero_le _, rfl, H9.out⟩
        case round =>
          clear H9 HS0
          obtain ⟨i, hi, rfl, hR, hC, hbt⟩ := hrel
          obtain ⟨w3, rfl⟩ : ∃ w3 : World, w3 = wr := ⟨_, rfl⟩
          have hL1 := HLL.out i
          by_cases hlt : i < n
          · have hil : ((i : Int) < (n : Int)) = True := by simp; omega
            have hi0 : ((0 : Int) ≤ (i : Int)) = True := by simp
            have hw3 := wrapS hlt hmax
            have hlen : M.length = n := HL.out.symm
            have hd := (Below.refl w3.heap.size w3).drew
            have hbt3 : But w w3.drew [x] := hbt.drew
            obtain ⟨b0, o0, rfl, hbb, hat⟩ := (Sl.on (w' := w3.drew) F.out.1.sl (fun hn b o e hl => hbt3.block b hl (by have := F.out.2 hn b o e; simp; omega))).at hlt
            have c0 := hat 0 (by decide)
            have c1 := hat 1 (by decide)
            have c2 := hat 2 (by decide)
            simp only [RCy, Nat.add_zero, List.getElem?_cons_zero, List.getElem?_cons_succ] at c0 c1 c2
            have t1 := setCs_succ (L := L) (M := M) (i := i) (by omega)
            have hpf : 0 ≤ posN L (M.getD i default).id := by simpa using List.all_eq_true.1 HA.out (M.getD i default) (getD_mem (by omega))
            rw [← pos_map (setCs_ids HA.out i)] at hpf
            generalize M.getD i default = y at *
            unfold setOne at t1
            generalize setCs L (M.take i) = L1 at *
            obtain ⟨k, hk1, hk2, hk3⟩ : ∃ k : Nat, posN L1 y.id = k ∧ k < L1.length ∧ (L1.getD k default).id = y.id := by
              rcases pos_cases L1 y.id with ⟨h1, _⟩ | h
              · omega
              · exact h
            rw [hk1, Int.toNat_natCast] at t1
            have hR3 := hR.keep hd
            obtain ⟨g, cap, s0, sf, gf, hg1, hg2, hg3, hg4, hrow⟩ := hR.own0 (by omega)
            have hfi := rfind_any hR3 y.id
            rw [hk1] at hfi
            have HF := Lib.hid hfi
            have hrk := hrow.get k hk2
            have r0 := hrk 0 (by decide)
            have r1 := hrk 1 (by decide)
            have r2 := hrk 2 (by decide)
            rw [Nat.zero_add] at r0 r1 r2
            simp only [RCy, Nat.add_zero, List.getElem?_cons_zero, List.getElem?_cons_succ] at r0 r1 r2
            have f0 := gf (k * 3)
            have f1 := gf (k * 3 + 1)
            have f2 := gf (k * 3 + 2)
            have hgw : g ≠ w.heap.size := by have := HNB.out; omega
            have hgx : g ≠ x := by have := hR.lt; omega
            have hwg : w.heap.size ≤ g := by have := HNB.out; omega
            have hk0 : ((0 : Int) ≤ (k : Int)) = True := by simp
            obtain ⟨N1, hN1⟩ : ∃ N, L1.length = N := ⟨_, rfl⟩
            have hput := @RefS.put w3.drew
            rw [hN1] at s0 hk2
            have hkN : ((k : Int) < (N1 : Int)) = True := by simp; omega
            have HR3 := Lib.hid (And.intro hR3 (And.intro hbt3 (And.intro t1 (And.intro hN1 (And.intro (hC.on hd) (And.intro hgw (And.intro hwg hk2)))))))
            obtain ⟨z0, z1, z2⟩ := (hC.on hd).cells
            obtain ⟨y0, y1, y2⟩ := hC.cells
            clear hput hR3 hR hC hbt hbt3 hd hlen hat hbb hpf hk1 hk3 hL1 hrow hrk hfi t1 hg1 hg2 hg3 hg4 hgw hwg hN1 hk2 gf
            have HS0 := Lib.hid s0
            go_wp2_with fail
            refine wp_region_quiet_tail (fun w' => w' = w3.drew) 18 (by kernel_rfl) (by kernel_rfl) rfl ?_
            simp only [List.take_succ_cons, List.take_zero, List.drop_succ_cons, List.drop_zero]
            iterate 18 ((with_reducible refine wpQuiet_step (fun K hK => ?_)); go_simp; first | ((with_reducible refine hK _ ?_); clear hK K) | (apply Exists.intro; (with_reducible refine ⟨fun w' hw' => ?_, hK _ ?_⟩); (subst hw'; first | (go_simp; first | exact rfl | exact ⟨rfl, rfl⟩) | exact rfl | exact ⟨rfl, rfl⟩); clear hK K) | (apply Exists.intro; (with_reducible refine ⟨?_, hK _ ?_⟩); ((with_reducible refine (HF.out).mono ?_); rintro e w2 ⟨rfl, hw2⟩; exact ⟨rfl, hw2⟩); clear hK K))
            refine wpQuiet_nil ?_
            rintro _ rfl
            obtain ⟨hR4, ⟨o4, hs4⟩, -⟩ := HR3.out.1.put (w' := (((w3.setCell ⟨g, k * 3, none⟩ (.int .i64 y.id)).setCell ⟨g, k * 3 + 1, none⟩ (.int .i64 y.cp)).setCell ⟨g, k * 3 + 2, none⟩ (.bool y.dr)).drew) (by rw [HR3.out.2.2.2.1]; exact HS0.out) (by rw [HR3.out.2.2.2.1]; exact HR3.out.2.2.2.2.2.2.2) rfl
            rw [← HR3.out.2.2.1] at hR4
            have hbt4 := (HR3.out.2.1).thenSet hs4 (.inl HR3.out.2.2.2.2.2.2.1)
            have hC4 : CsS w.heap.size (σ : Int) seq (some ⟨b0, o0, none⟩) n cc (((w3.setCell ⟨g, k * 3, none⟩ (.int .i64 y.id)).setCell ⟨g, k * 3 + 1, none⟩ (.int .i64 y.cp)).setCell ⟨g, k * 3 + 2, none⟩ (.bool y.dr)).drew := (hs4.other (Ne.symm HR3.out.2.2.2.2.2.1)).trans HR3.out.2.2.2.2.1
            have H4 := Lib.hid (And.intro hR4 (And.intro hC4 hbt4))
            clear hR4 hs4 hbt4 hC4 HS0 HR3 HF
            go_wp2_with fail
            exact ⟨⟨i + 1, hlt, by first | rw [hw3] | rw [Int.natCast_succ], H4.out.1, H4.out.2.1, H4.out.2.2⟩, by first | (rw [hw3]; exact mSucc hlt) | (rw [← Int.natCast_succ]; exact mSucc hlt)⟩
          · obtain rfl : n = i := by omega
            have hil : ((n : Int) < (n : Int)) = False := by simp
            rw [List.take_of_length_le (by rw [HL.out]; exact Nat.le_refl _)] at hR
            have H9 := Lib.hid (And.intro hR hbt)
            obtain ⟨z0, z1, z2⟩ := hC.cells
            clear hR hC hbt hL1
            go_wp2_with fail
            go_ret
            exact ⟨ret_int HTE.out.symm, fun h => absurd HTE.out h, fun _ => ⟨nb, by rw [Int.toNat_natCast]; exact H9.out.1⟩, H9.out.2⟩
end Go.Proofs.Ytlkbaplfffbmkaa
/- Great structs: an aggregate known by a few of its cells: loaded whole, built, with its cells out of sight. -/
namespace Go.Proofs.Ytlkbaplfffbmkaa
open Go.RowKit

section
variable {P : Program} {ops : Array Oper} {rest : List Oper} {o : Oper} {a : Act} {Q : Exit → Act → World → Prop} {w : World}
theorem halt_load (ty : TypeId) {x : Operand} (_ho : o.op = .load ty x) (h : Halted (wpList P ops Q (o :: rest) a w)) : wpList P ops Q (o :: rest) a w := h
theorem halt_build (ty : TypeId) {x : Array (Nat × Operand)} (_ho : o.op = .build ty x) (h : Halted (wpList P ops Q (o :: rest) a w)) : wpList P ops Q (o :: rest) a w := h
theorem load_whole (hgd : o.guard = none) (ty : TypeId) (x : Operand) (ho : o.op = .load ty x) (b : Nat) (cells : Array Value) (hx : a.eval x = .pointer (some ⟨b, 0, none⟩))
    {T : TypeId} {fr : Nat × Nat} (hb : w.heap[b]? = some (.cells cells T fr)) {d : TypeDesc} (hu : P.underlying ty = some d) (hd : d.isRow = true) (hi : (P.info? ty).map (·.size) = some cells.size)
    (h : wpList P ops Q rest (a.put o.dst (.agg cells)) w) : wpList P ops Q (o :: rest) a w :=
  wpList_plain hgd fun K hK => by
    have hk := hK _ _ h
    unfold Oper.wp execOp
    have hr := run_load_whole (P := P) (ty := ty) hb hu hd hi
    have hl : (Instr.loadAt ty (.pointer (some ⟨b, 0, none⟩))).run P w = .ok (.agg cells) w := by
      simp only [Instr.loadAt, Instr.sureAddr, Sem.run_bind, Sem.run_pure, Result.andThen_ok]
      exact hr
    simp only [ho, hx, Sem.run_bind, hl, Sem.run_pure, Result.andThen_ok]
    exact hk
theorem exec_load_whole (ty : TypeId) (x : Operand) (ho : o.op = .load ty x) (b : Nat) (cells : Array Value) (hx : a.eval x = .pointer (some ⟨b, 0, none⟩))
    {T : TypeId} {fr : Nat × Nat} (hb : w.heap[b]? = some (.cells cells T fr)) {d : TypeDesc} (hu : P.underlying ty = some d) (hd : d.isRow = true) (hi : (P.info? ty).map (·.size) = some cells.size) : (execOp a.eval o).run P w = .ok (.value (.agg cells)) w := by
  have hl : (Instr.loadAt ty (.pointer (some ⟨b, 0, none⟩))).run P w = .ok (.agg cells) w := by
    simp only [Instr.loadAt, Instr.sureAddr, Sem.run_bind, Sem.run_pure, Result.andThen_ok]
    exact run_load_whole (P := P) (ty := ty) hb hu hd hi
  unfold execOp
  simp only [ho, hx, Sem.run_bind, hl, Sem.run_pure, Result.andThen_ok]
theorem exec_build (ty : TypeId) (x : Array (Nat × Operand)) (ho : o.op = .build ty x) (cells : Array Value) (hp : P.built ty (x.toList.map (fun p => (p.1, a.eval p.2))) = some cells) : (execOp a.eval o).run P w = .ok (.value (.agg cells)) w := by
  have hl := run_build (P := P) w ty (x.map (fun p => (p.1, a.eval p.2))) cells (by rw [Array.toList_map]; exact hp)
  unfold execOp
  simp only [ho, Sem.run_bind, hl, Sem.run_pure, Result.andThen_ok]
/-- an operation that yields a value -/
theorem op_value (hgd : o.guard = none) (v : Value) (hrun : (execOp a.eval o).run P w = .ok (.value v) w) (h : wpList P ops Q rest (a.put o.dst v) w) : wpList P ops Q (o :: rest) a w :=
  wpList_plain hgd fun K hK => by
    have hk := hK _ _ h
    unfold Oper.wp
    rw [hrun]
    exact hk
end
/-- the cells v are laid from off on -/
theorem lay_get (l : List Value) : ∀ (k off : Nat) (cs : Array Value), ((l.zipIdx k).foldl (fun cs (p : Value × Nat) => cs.setIfInBounds (off + p.2) p.1) cs).size = cs.size ∧
    ∀ j, off + k + l.length ≤ cs.size → ((l.zipIdx k).foldl (fun cs (p : Value × Nat) => cs.setIfInBounds (off + p.2) p.1) cs)[j]? = if off + k ≤ j ∧ j < off + k + l.length then l[j - (off + k)]? else cs[j]? := by
  induction l with
  | nil => intro k off cs; exact ⟨rfl, fun j _ => by rw [if_neg (by simp)]; rfl⟩
  | cons x r ih =>
    intro k off cs
    obtain ⟨h1, h2⟩ := ih (k + 1) off (cs.setIfInBounds (off + k) x)
    rw [List.zipIdx_cons, List.foldl_cons]
    refine ⟨by rw [h1]; simp, fun j hj => ?_⟩
    rw [List.length_cons] at hj ⊢
    rw [h2 j (by simp; omega), Array.getElem?_setIfInBounds]
    by_cases e : off + k = j
    · subst e
      rw [if_neg (by omega), if_pos rfl, if_pos (by omega), if_pos (by omega)]
      simp
    · by_cases c : off + (k + 1) ≤ j ∧ j < off + (k + 1) + r.length
      · rw [if_pos c, if_pos (by omega)]
        rw [show j - (off + k) = (j - (off + (k + 1))) + 1 by omega, List.getElem?_cons_succ]
      · rw [if_neg c, if_neg e, if_neg (by omega)]
theorem lay_arr (v : Array Value) (off : Nat) (cs : Array Value) : (v.zipIdx.foldl (fun cs (p : Value × Nat) => cs.setIfInBounds (off + p.2) p.1) cs).size = cs.size ∧
    ∀ j, off + v.size ≤ cs.size → (v.zipIdx.foldl (fun cs (p : Value × Nat) => cs.setIfInBounds (off + p.2) p.1) cs)[j]? = if off ≤ j ∧ j < off + v.size then v[j - off]? else cs[j]? := by
  have h := lay_get v.toList 0 off cs
  rw [← Array.foldl_toList, Array.toList_zipIdx]
  refine ⟨h.1, fun j hj => ?_⟩
  have h2 := h.2 j (by simpa using hj)
  simp only [Nat.add_zero, Array.length_toList, Array.getElem?_toList] at h2
  exact h2
end Go.Proofs.Ytlkbaplfffbmkaa
/- Quiet steps of a drawn region: a guard that holds; a struct loaded whole; a call. -/
namespace Go.Proofs.Ytlkbaplfffbmkaa
open Go Go.RowKit

section
variable {P : Program} {ops : Array Oper} {C : World → Prop} {Q : Act → Prop} {K : Act → Prop} {a : Act} {o : Oper} {rest : List Oper}
theorem wpQuiet_yes (h : ∀ K : Act → Prop, (∀ a, wpQuiet P ops C Q rest a → K a) → o.quiet P a C K) (hw : Region.wanted o (yielded ops a.tmps) = true) : wpQuiet P ops C Q (o :: rest) a := by
  unfold wpQuiet
  rw [if_pos hw]
  exact h _ fun _ h => h
theorem quiet_value (v : Value) (h : ∀ w, C w → (execOp a.eval o).run P w = .ok (.value v) w) (hK : K (a.put o.dst v)) : o.quiet P a C K :=
  ⟨v, fun w hw => by unfold Oper.quietAt; rw [h w hw]; exact ⟨rfl, rfl⟩, hK⟩
theorem exec_load_mid {w : World} (ty : TypeId) (x : Operand) (ho : o.op = .load ty x) (b off : Nat) (cells : Array Value) (hx : a.eval x = .pointer (some ⟨b, off, none⟩))
    (hb : w.rangeAt b off cells.toList) {d : TypeDesc} (hu : P.underlying ty = some d) (hd : d.isRow = true) (hi : (P.info? ty).map (·.size) = some cells.size) : (execOp a.eval o).run P w = .ok (.value (.agg cells)) w := by
  have hr := run_loadVar_mid (P := P) w b off ty cells.toList d hb hu hd (by simpa using hi)
  have hl : (Instr.loadAt ty (.pointer (some ⟨b, off, none⟩))).run P w = .ok (.agg cells) w := by
    simp only [Instr.loadAt, Instr.sureAddr, Sem.run_bind, Sem.run_pure, Result.andThen_ok]
    simpa using hr
  unfold execOp
  simp only [ho, hx, Sem.run_bind, hl, Sem.run_pure, Result.andThen_ok]
theorem quiet_load (ty : TypeId) (x : Operand) (ho : o.op = .load ty x) (b off : Nat) (cells : Array Value) (hx : a.eval x = .pointer (some ⟨b, off, none⟩))
    (hb : ∀ w, C w → w.rangeAt b off cells.toList) {d : TypeDesc} (hu : P.underlying ty = some d) (hd : d.isRow = true) (hi : (P.info? ty).map (·.size) = some cells.size) (hK : K (a.put o.dst (.agg cells))) : o.quiet P a C K :=
  quiet_value _ (fun _ hw => exec_load_mid ty x ho b off cells hx (hb _ hw) hu hd hi) hK
theorem rangeAt_block {w : World} {b : Nat} {cells : Array Value} {T : TypeId} {fr : Nat × Nat} (h : w.heap[b]? = some (.cells cells T fr)) (off : Nat) (l : List Value) (hl : (cells.toList.drop off).take l.length = l) : w.rangeAt b off l := by
  intro j v hv
  refine cell_of h ?_
  have hj : j < l.length := (List.getElem?_eq_some_iff.1 hv).1
  rw [← hl] at hv
  rw [List.getElem?_take, if_pos hj, List.getElem?_drop] at hv
  simpa using hv
end
end Go.Proofs.Ytlkbaplfffbmkaa
/- A struct loaded whole, as one of those that read ahead of a write. -/
namespace Go.Proofs.Ytlkbaplfffbmkaa
open Go Go.RowKit
section
variable {P : Program} {ops : Array Oper} {S : World → Prop} {L : Act → Prop} {K : Act → Prop} {a : Act} {o : Oper} {rest : List Oper}
theorem wpRead_yes (h : ∀ K : Act → Prop, (∀ a, wpRead P ops S L rest a → K a) → ∃ v, (∀ w, S w → (execOp a.eval o).run P w = .ok (.value v) w) ∧ K (a.put o.dst v)) (hw : Region.wanted o (yielded ops a.tmps) = true) : wpRead P ops S L (o :: rest) a := by
  unfold wpRead
  rw [if_pos hw]
  exact h _ fun _ h => h
theorem read_load (ty : TypeId) (x : Operand) (ho : o.op = .load ty x) (b off : Nat) (cells : Array Value) (hx : a.eval x = .pointer (some ⟨b, off, none⟩))
    (hb : ∀ w, S w → w.rangeAt b off cells.toList) {d : TypeDesc} (hu : P.underlying ty = some d) (hd : d.isRow = true) (hi : (P.info? ty).map (·.size) = some cells.size) (hK : K (a.put o.dst (.agg cells))) : ∃ v, (∀ w, S w → (execOp a.eval o).run P w = .ok (.value v) w) ∧ K (a.put o.dst v) :=
  ⟨_, fun _ hw => exec_load_mid ty x ho b off cells hx (hb _ hw) hu hd hi, hK⟩
end
end Go.Proofs.Ytlkbaplfffbmkaa
/- Get, Limit, Stamp: capa's, and the reference's. -/
namespace Go.Proofs.Ytlkbaplfffbmkaa
open Go.RowKit

/-- thousandths -/
def thou (p : Int) : Nat := (min (max p 0) 1000).toNat
theorem thou_le (p : Int) : thou p ≤ 1000 := by unfold thou; omega
def limB (is : Bool) (r : Cy) (p : Int) : Int := if is && !r.dr then ((r.cp.toNat * thou p / 1000 : Nat) : Int) else 0
theorem part_of {x y : Nat} (h1 : x ≤ 9007199254740991) (h2 : y ≤ 1000) {v : Int} (hv : v = (y : Int)) (w : World) : Calls Try.prog 53 #[.int .i64 (x : Int), .int .i64 v, .int .i64 1000] w fun e w' => e = .returned (.int .i64 ((x * y / 1000 : Nat) : Int)) ∧ Below w.heap.size w w' := by
  subst hv; exact part_ok h1 h2 w
theorem rpart_of {x y : Nat} (h1 : x ≤ 9007199254740991) (h2 : y ≤ 1000) {v : Int} (hv : v = (y : Int)) (w : World) : Calls Try.prog 54 #[.int .i64 (x : Int), .int .i64 v, .int .i64 1000] w fun e w' => e = .returned (.int .i64 ((x * y / 1000 : Nat) : Int)) ∧ w' = w := by
  subst hv; exact rpart_ok h1 h2 w
def CpOk (r : Cy) : Prop := 0 ≤ r.cp ∧ r.cp ≤ 9007199254740991
theorem lim_no {r : Cy} {p : Int} : limB false r p = 0 := rfl
theorem lim_dr {r : Cy} {is : Bool} {p : Int} (h : r.dr = true) : limB is r p = 0 := by simp [limB, h]
theorem lim_yes {r : Cy} {p : Int} (h : r.dr = false) : limB true r p = ((r.cp.toNat * thou p / 1000 : Nat) : Int) := by simp [limB, h]
set_option maxRecDepth 100000 in
set_option maxHeartbeats 1000000 in
theorem limit_any {w0 w : World} {c bm h : Nat} {D : HD} {S : Int → Option Cy} (H : CapAt w0 w c bm h D S) {id : Int} (hid : IN.ok id) (p : Int) (r : Cy) (is : Bool) (hr : CGet D S id = if is then some r else none) (hz : is = false → r = ⟨0, 0, false⟩) (hc : CpOk r) : Calls Try.prog 35 #[.pointer (some ⟨c, 0, none⟩), .int .i64 id, .int .i64 p] w fun e w' => e = .returned (.int .i64 (limB is r p)) ∧ Below w.heap.size w w' := by
  have HG := Lib.hid (get_any H hid r is hr hz)
  have HC := Lib.hid hc
  clear H hid hr hz hc
  cases is with
  | false =>
    rw [lim_no]
    go_enter Try.func35, Try.ntmps35
    go_wp2_with fail
    refine HG.out.mono ?_
    rintro e W1 ⟨rfl, hb⟩
    unfold Cy.v
    have hal := (Below.refl W1.heap.size W1).alloc (Nat.le_refl _) (.cells #[.int .i64 r.id, .int .i64 r.cp, .bool r.dr] 69)
    have hcs : CyS W1.heap.size r (W1.alloc (.cells #[.int .i64 r.id, .int .i64 r.cp, .bool r.dr] 69)) := hnew _ _
    have HB := Lib.hid (bcall hb (Nat.le_refl _) hal)
    obtain ⟨z0, z1, z2⟩ := hcs.cells
    clear hb hal hcs HG
    go_wp2_with fail
    go_ret
    exact ⟨rfl, HB.out⟩
  | true =>
    rcases hd : r.dr with _ | _
    · rw [lim_yes hd]
      obtain ⟨x, hx⟩ : ∃ x : Nat, r.cp = (x : Int) := ⟨r.cp.toNat, by have := HC.out.1; omega⟩
      have hx1 : x ≤ 9007199254740991 := by have := HC.out.2; omega
      rw [show r.cp.toNat = x by rw [hx]; rfl]
      obtain ⟨y, hy⟩ : ∃ y, thou p = y := ⟨_, rfl⟩
      have hy1 : y ≤ 1000 := hy ▸ thou_le p
      rw [hy]
      have HP := Lib.hid (fun v (hv : v = (y : Int)) w => part_of hx1 hy1 hv w)
      have HXD := Lib.hid (And.intro hx hd)
      have HY := Lib.hid hy
      clear hy hx1 hy1 HC hx hd
      by_cases h1 : p < 0
      · have hp1 : (p < 0) = True := by simp [h1]
        have HP1 := Lib.hid (HP.out 0 (by have := HY.out; unfold thou at this; omega))
        clear h1 HP HY
        go_enter Try.func35, Try.ntmps35
        go_wp2_with fail
        refine HG.out.mono ?_
        rintro e W1 ⟨rfl, hb⟩
        unfold Cy.v
        have hal := (Below.refl W1.heap.size W1).alloc (Nat.le_refl _) (.cells #[.int .i64 r.id, .int .i64 r.cp, .bool r.dr] 69)
        have hcs : CyS W1.heap.size r (W1.alloc (.cells #[.int .i64 r.id, .int .i64 r.cp, .bool r.dr] 69)) := hnew _ _
        have HB := Lib.hid (bcall hb (Nat.le_refl _) hal)
        obtain ⟨z0, z1, z2⟩ := hcs.cells
        clear hb hal hcs HG
        rw [HXD.out.1, HXD.out.2] at z0 z1 z2 HB ⊢
        go_wp2_with fail
        refine (HP1.out _).mono ?_
        rintro e W2 ⟨rfl, hb⟩
        have HB2 := Lib.hid (bcall HB.out (Nat.le_refl _) hb)
        clear hb
        go_wp2_with fail
        go_ret
        exact ⟨rfl, HB2.out⟩
      by_cases h2 : 1000 < p
      · have hp1 : (p < 0) = False := by simp; omega
        have hp2 : (1000 < p) = True := by simp [h2]
        have HP1 := Lib.hid (HP.out 1000 (by have := HY.out; unfold thou at this; omega))
        clear h1 HP HY
        go_enter Try.func35, Try.ntmps35
        go_wp2_with fail
        refine HG.out.mono ?_
        rintro e W1 ⟨rfl, hb⟩
        unfold Cy.v
        have hal := (Below.refl W1.heap.size W1).alloc (Nat.le_refl _) (.cells #[.int .i64 r.id, .int .i64 r.cp, .bool r.dr] 69)
        have hcs : CyS W1.heap.size r (W1.alloc (.cells #[.int .i64 r.id, .int .i64 r.cp, .bool r.dr] 69)) := hnew _ _
        have HB := Lib.hid (bcall hb (Nat.le_refl _) hal)
        obtain ⟨z0, z1, z2⟩ := hcs.cells
        clear hb hal hcs HG
        rw [HXD.out.1, HXD.out.2] at z0 z1 z2 HB ⊢
        go_wp2_with fail
        refine (HP1.out _).mono ?_
        rintro e W2 ⟨rfl, hb⟩
        have HB2 := Lib.hid (bcall HB.out (Nat.le_refl _) hb)
        clear hb
        go_wp2_with fail
        go_ret
        exact ⟨rfl, HB2.out⟩
      · have hp1 : (p < 0) = False := by simp; omega
        have hp2 : (1000 < p) = False := by simp; omega
        have HP1 := Lib.hid (HP.out p (by have := HY.out; unfold thou at this; omega))
        clear h1 HP HY
        go_enter Try.func35, Try.ntmps35
        go_wp2_with fail
        refine HG.out.mono ?_
        rintro e W1 ⟨rfl, hb⟩
        unfold Cy.v
        have hal := (Below.refl W1.heap.size W1).alloc (Nat.le_refl _) (.cells #[.int .i64 r.id, .int .i64 r.cp, .bool r.dr] 69)
        have hcs : CyS W1.heap.size r (W1.alloc (.cells #[.int .i64 r.id, .int .i64 r.cp, .bool r.dr] 69)) := hnew _ _
        have HB := Lib.hid (bcall hb (Nat.le_refl _) hal)
        obtain ⟨z0, z1, z2⟩ := hcs.cells
        clear hb hal hcs HG
        rw [HXD.out.1, HXD.out.2] at z0 z1 z2 HB ⊢
        go_wp2_with fail
        refine (HP1.out _).mono ?_
        rintro e W2 ⟨rfl, hb⟩
        have HB2 := Lib.hid (bcall HB.out (Nat.le_refl _) hb)
        clear hb
        go_wp2_with fail
        go_ret
        exact ⟨rfl, HB2.out⟩
    · rw [lim_dr hd]
      have HXD := Lib.hid hd
      clear hd
      go_enter Try.func35, Try.ntmps35
      go_wp2_with fail
      refine HG.out.mono ?_
      rintro e W1 ⟨rfl, hb⟩
      unfold Cy.v
      have hal := (Below.refl W1.heap.size W1).alloc (Nat.le_refl _) (.cells #[.int .i64 r.id, .int .i64 r.cp, .bool r.dr] 69)
      have hcs : CyS W1.heap.size r (W1.alloc (.cells #[.int .i64 r.id, .int .i64 r.cp, .bool r.dr] 69)) := hnew _ _
      have HB := Lib.hid (bcall hb (Nat.le_refl _) hal)
      obtain ⟨z0, z1, z2⟩ := hcs.cells
      clear hb hal hcs HG
      rw [HXD.out] at z0 z1 z2 HB ⊢
      go_wp2_with fail
      go_ret
      exact ⟨rfl, HB.out⟩
theorem limit_nil (id p : Int) (w : World) : Calls Try.prog 35 #[.pointer none, .int .i64 id, .int .i64 p] w fun e w' => e = .returned (.int .i64 0) ∧ Below w.heap.size w w' := by
  go_enter Try.func35, Try.ntmps35
  go_wp2_with fail
  refine (get_nil id _).mono ?_
  rintro e W1 ⟨rfl, hb⟩
  have HB := Lib.hid (bcall hb (Nat.le_refl _) ((Below.refl W1.heap.size W1).alloc (Nat.le_refl _) (.cells #[.int .i64 0, .int .i64 0, .bool false] 69)))
  clear hb
  go_wp2_with fail
  go_ret
  exact ⟨rfl, HB.out⟩
/-- the reference's Get -/
def getL (L : List Cy) (id : Int) : Option Cy := if 0 ≤ posN L id then some (L.getD (posN L id).toNat default) else none
set_option maxRecDepth 100000 in
theorem rget_any {w : World} {base x : Nat} {L : List Cy} {Sq At : Nat → Int} (H : RefS w base x L Sq At) (id : Int) (r : Cy) (is : Bool) (hr : getL L id = if is then some r else none) (hz : is = false → r = ⟨0, 0, false⟩) : Calls Try.prog 34 #[.pointer (some ⟨x, 0, none⟩), .int .i64 id] w fun e w' => e = .returned (.tuple #[r.v, .bool is]) ∧ Below w.heap.size w w' := by
  have hal := (Below.refl w.heap.size w).alloc (Nat.le_refl _) (.cells #[.int .i64 0, .int .i64 0, .bool false] 69)
  have H1 := H.keep hal
  have hzero : (w.alloc (.cells #[.int .i64 0, .int .i64 0, .bool false] 69)).heap[w.heap.size]? = some (.cells #[.int .i64 0, .int .i64 0, .bool false] 69 (0, 0)) := hnew _ _
  have F := Lib.hid (And.intro hal (And.intro H1 hzero))
  clear H hal H1 hzero
  go_enter Try.func34, Try.ntmps34
  go_wp2_with fail
  refine (rfind_any F.out.2.1 id).mono ?_
  rintro e W ⟨rfl, hW⟩
  generalize w.alloc (.cells #[.int .i64 0, .int .i64 0, .bool false] 69) = W1 at *
  subst W
  rcases pos_cases L id with ⟨hp, -⟩ | ⟨k, hp, hk, -⟩
  · have hg : getL L id = none := by unfold getL; rw [hp]; rfl
    rw [hg] at hr
    obtain rfl : is = false := by cases is with | false => rfl | true => cases hr
    have hr0 := hz rfl
    subst hr0
    rw [hp]
    clear hr hz hg hp
    go_wp2_with (with_reducible refine halt_store 69 (x := .tmp 4) rfl ?_)
    refine Halted.go ?_
    refine store_whole rfl 69 _ _ rfl w.heap.size #[.int .i64 0, .int .i64 0, .bool false] rfl rfl F.out.2.2 rfl (by kernel_rfl) (by simp [Value.oneCell']) ?_
    intro Wz hwz hsz
    have HZ := Lib.hid (And.intro hwz (F.out.1.trans (hsz.below (Nat.le_refl _))))
    clear hwz hsz
    go_wp2_with fail
    refine ret_cell2 rfl rfl rfl HZ.out.1 Try.underlying69 rfl (by kernel_rfl) ?_
    exact ⟨rfl, HZ.out.2⟩
  · have hg : getL L id = some (L.getD k default) := by unfold getL; rw [hp]; simp
    rw [hg] at hr
    obtain rfl : is = true := by cases is with | false => cases hr | true => rfl
    have hL : L.getD k default = r := by injection hr
    obtain ⟨a, cc, hc0, -, -, -, hsl, -, -⟩ := F.out.2.1.sl
    obtain ⟨b, o, rfl, hlt, hat⟩ := hsl.at hk
    have z0 := hat 0 (by decide)
    have z1 := hat 1 (by decide)
    have z2 := hat 2 (by decide)
    simp only [RCy, Nat.add_zero, List.getElem?_cons_zero, List.getElem?_cons_succ] at z0 z1 z2
    rw [hp]
    rw [hL] at z0 z1 z2
    have hn : ((k : Int) < 0) = False := by simp
    have hkl : ((k : Int) < (L.length : Int)) = True := by simp; omega
    have hk0 : (0 : Int) ≤ (k : Int) := by omega
    clear hr hz hg hp hsl hat hL
    generalize L.length = n at *
    go_wp2_with (with_reducible refine halt_store 69 (x := .tmp 4) rfl ?_)
    refine Halted.go ?_
    refine store_whole rfl 69 _ _ rfl w.heap.size #[.int .i64 r.id, .int .i64 r.cp, .bool r.dr] rfl rfl F.out.2.2 rfl (by kernel_rfl) (by simp [Value.oneCell']) ?_
    intro Wz hwz hsz
    have HZ := Lib.hid (And.intro hwz (F.out.1.trans (hsz.below (Nat.le_refl _))))
    clear hwz hsz
    go_wp2_with fail
    refine ret_cell2 rfl rfl rfl HZ.out.1 Try.underlying69 rfl (by kernel_rfl) ?_
    exact ⟨rfl, HZ.out.2⟩
set_option maxRecDepth 100000 in
set_option maxHeartbeats 1000000 in
theorem rlimit_any {w : World} {base x : Nat} {L : List Cy} {Sq At : Nat → Int} (H : RefS w base x L Sq At) (id p : Int) (r : Cy) (is : Bool) (hr : getL L id = if is then some r else none) (hz : is = false → r = ⟨0, 0, false⟩) (hc : CpOk r) : Calls Try.prog 36 #[.pointer (some ⟨x, 0, none⟩), .int .i64 id, .int .i64 p] w fun e w' => e = .returned (.int .i64 (limB is r p)) ∧ Below w.heap.size w w' := by
  have HG := Lib.hid (rget_any H id r is hr hz)
  have HC := Lib.hid hc
  clear H hr hz hc
  cases is with
  | false =>
    rw [lim_no]
    go_enter Try.func36, Try.ntmps36
    go_wp2_with fail
    refine HG.out.mono ?_
    rintro e W1 ⟨rfl, hb⟩
    unfold Cy.v
    have hal := (Below.refl W1.heap.size W1).alloc (Nat.le_refl _) (.cells #[.int .i64 r.id, .int .i64 r.cp, .bool r.dr] 69)
    have hcs : CyS W1.heap.size r (W1.alloc (.cells #[.int .i64 r.id, .int .i64 r.cp, .bool r.dr] 69)) := hnew _ _
    have HB := Lib.hid (bcall hb (Nat.le_refl _) hal)
    obtain ⟨z0, z1, z2⟩ := hcs.cells
    clear hb hal hcs HG
    go_wp2_with fail
    go_ret
    exact ⟨rfl, HB.out⟩
  | true =>
    rcases hd : r.dr with _ | _
    · rw [lim_yes hd]
      obtain ⟨x, hx⟩ : ∃ x : Nat, r.cp = (x : Int) := ⟨r.cp.toNat, by have := HC.out.1; omega⟩
      have hx1 : x ≤ 9007199254740991 := by have := HC.out.2; omega
      rw [show r.cp.toNat = x by rw [hx]; rfl]
      obtain ⟨y, hy⟩ : ∃ y, thou p = y := ⟨_, rfl⟩
      have hy1 : y ≤ 1000 := hy ▸ thou_le p
      rw [hy]
      have HP := Lib.hid (fun v (hv : v = (y : Int)) w => rpart_of hx1 hy1 hv w)
      have HXD := Lib.hid (And.intro hx hd)
      have HY := Lib.hid hy
      clear hy hx1 hy1 HC hx hd
      by_cases h1 : p < 0
      · have hp1 : (p < 0) = True := by simp [h1]
        have HP1 := Lib.hid (HP.out 0 (by have := HY.out; unfold thou at this; omega))
        clear h1 HP HY
        go_enter Try.func36, Try.ntmps36
        go_wp2_with fail
        refine HG.out.mono ?_
        rintro e W1 ⟨rfl, hb⟩
        unfold Cy.v
        have hal := (Below.refl W1.heap.size W1).alloc (Nat.le_refl _) (.cells #[.int .i64 r.id, .int .i64 r.cp, .bool r.dr] 69)
        have hcs : CyS W1.heap.size r (W1.alloc (.cells #[.int .i64 r.id, .int .i64 r.cp, .bool r.dr] 69)) := hnew _ _
        have HB := Lib.hid (bcall hb (Nat.le_refl _) hal)
        obtain ⟨z0, z1, z2⟩ := hcs.cells
        clear hb hal hcs HG
        rw [HXD.out.1, HXD.out.2] at z0 z1 z2 HB ⊢
        go_wp2_with fail
        refine (HP1.out _).mono ?_
        rintro e W2 ⟨rfl, rfl⟩
        have HB2 := HB
        go_wp2_with fail
        go_ret
        exact ⟨rfl, HB2.out⟩
      by_cases h2 : 1000 < p
      · have hp1 : (p < 0) = False := by simp; omega
        have hp2 : (1000 < p) = True := by simp [h2]
        have HP1 := Lib.hid (HP.out 1000 (by have := HY.out; unfold thou at this; omega))
        clear h1 HP HY
        go_enter Try.func36, Try.ntmps36
        go_wp2_with fail
        refine HG.out.mono ?_
        rintro e W1 ⟨rfl, hb⟩
        unfold Cy.v
        have hal := (Below.refl W1.heap.size W1).alloc (Nat.le_refl _) (.cells #[.int .i64 r.id, .int .i64 r.cp, .bool r.dr] 69)
        have hcs : CyS W1.heap.size r (W1.alloc (.cells #[.int .i64 r.id, .int .i64 r.cp, .bool r.dr] 69)) := hnew _ _
        have HB := Lib.hid (bcall hb (Nat.le_refl _) hal)
        obtain ⟨z0, z1, z2⟩ := hcs.cells
        clear hb hal hcs HG
        rw [HXD.out.1, HXD.out.2] at z0 z1 z2 HB ⊢
        go_wp2_with fail
        refine (HP1.out _).mono ?_
        rintro e W2 ⟨rfl, rfl⟩
        have HB2 := HB
        go_wp2_with fail
        go_ret
        exact ⟨rfl, HB2.out⟩
      · have hp1 : (p < 0) = False := by simp; omega
        have hp2 : (1000 < p) = False := by simp; omega
        have HP1 := Lib.hid (HP.out p (by have := HY.out; unfold thou at this; omega))
        clear h1 HP HY
        go_enter Try.func36, Try.ntmps36
        go_wp2_with fail
        refine HG.out.mono ?_
        rintro e W1 ⟨rfl, hb⟩
        unfold Cy.v
        have hal := (Below.refl W1.heap.size W1).alloc (Nat.le_refl _) (.cells #[.int .i64 r.id, .int .i64 r.cp, .bool r.dr] 69)
        have hcs : CyS W1.heap.size r (W1.alloc (.cells #[.int .i64 r.id, .int .i64 r.cp, .bool r.dr] 69)) := hnew _ _
        have HB := Lib.hid (bcall hb (Nat.le_refl _) hal)
        obtain ⟨z0, z1, z2⟩ := hcs.cells
        clear hb hal hcs HG
        rw [HXD.out.1, HXD.out.2] at z0 z1 z2 HB ⊢
        go_wp2_with fail
        refine (HP1.out _).mono ?_
        rintro e W2 ⟨rfl, rfl⟩
        have HB2 := HB
        go_wp2_with fail
        go_ret
        exact ⟨rfl, HB2.out⟩
    · rw [lim_dr hd]
      have HXD := Lib.hid hd
      clear hd
      go_enter Try.func36, Try.ntmps36
      go_wp2_with fail
      refine HG.out.mono ?_
      rintro e W1 ⟨rfl, hb⟩
      unfold Cy.v
      have hal := (Below.refl W1.heap.size W1).alloc (Nat.le_refl _) (.cells #[.int .i64 r.id, .int .i64 r.cp, .bool r.dr] 69)
      have hcs : CyS W1.heap.size r (W1.alloc (.cells #[.int .i64 r.id, .int .i64 r.cp, .bool r.dr] 69)) := hnew _ _
      have HB := Lib.hid (bcall hb (Nat.le_refl _) hal)
      obtain ⟨z0, z1, z2⟩ := hcs.cells
      clear hb hal hcs HG
      rw [HXD.out] at z0 z1 z2 HB ⊢
      go_wp2_with fail
      go_ret
      exact ⟨rfl, HB.out⟩
end Go.Proofs.Ytlkbaplfffbmkaa
