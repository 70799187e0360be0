/- The reference's table: Expire. -/
import Derived.Test.YtfmehahjjgalfaaDi
namespace Go.Proofs.Ytfmehahjjgalfaa
open Go.RowKit

/-- two owned slices lie apart -/
def Apart (v u : Value) : Prop := ∀ b, v.ownBlock = some b → u.ownBlock ≠ some b
theorem own_lt {α : Type} [Inhabited α] {R : Rep α} {w : World} {base : Nat} {v : Value} {L : List α} (h : R.Own w base v L) {b : Nat} (hb : v.ownBlock = some b) : b < w.heap.size := by
  rcases h.cases with ⟨rfl, -⟩ | ⟨g, cap, rfl, -, hg, -⟩
  · cases hb
  · injection hb with hb; subst hb; exact hg
theorem Apart.symm {v u : Value} (h : Apart v u) : Apart u v := fun b hb hv => h b hv hb
structure RExp (w w' : World) (x : Nat) (L : List Ov) (now : Int) (v : Value) : Prop where
  own : ROv.Own w' w.heap.size v (L.filter (tillP now))
  tab : RefT w' w.heap.size x (L.filter fun y => !tillP now y)
  but : But w w' [x]
theorem filter_succ {L : List Ov} (p : Ov → Bool) {i : Nat} (hi : i < L.length) : (L.take (i + 1)).filter p = if p (L.getD i default) then (L.take i).filter p ++ [L.getD i default] else (L.take i).filter p := by
  rw [List.take_succ_eq_append_getElem hi, filter_snoc]
  simp [List.getD_eq_getElem?_getD, hi]
theorem filt_le (L : List Ov) (p : Ov → Bool) (i : Nat) : ((L.take i).filter p).length ≤ i := Nat.le_trans (List.length_filter_le _ _) (List.length_take_le _ _)
set_option maxRecDepth 100000 in
set_option maxHeartbeats 2000000 in
theorem rtexp_any {w : World} {base x : Nat} {L : List Ov} (H : RefT w base x L) (hlen : L.length ≤ 4611686) (now : Int) : Calls Try.prog 38 #[.pointer (some ⟨x, 0, none⟩), .int .i64 now] w fun e w' => ∃ v, e = .returned v ∧ RExp w w' x L now v := by
  obtain ⟨a, c, h0, hsl, -, -, -⟩ := H.len
  have HO := Lib.hid H.ord
  obtain ⟨n, hn⟩ : ∃ n, L.length = n := ⟨_, rfl⟩
  rw [hn] at h0 hsl hlen
  have HN := Lib.hid hn
  have hmax : n ≤ maxLen := hsl.max
  have F := Lib.hid (And.intro h0 hsl)
  have hc0 : w.cell? ⟨x, 0, none⟩ = some (.slice a n c) := cell_of h0 rfl
  clear h0 hsl hn H
  go_enter Try.func38, Try.ntmps38
  go_wp2_with fail
  clear hc0
  go_loopw [5, 6, 7] (fun gv lv iv wr => ∃ i : Nat, i ≤ n ∧ iv = .int .i64 i ∧ ROv.Own wr w.heap.size gv ((L.take i).filter (tillP now)) ∧ ROv.Own wr w.heap.size lv ((L.take i).filter fun y => !tillP now y) ∧ Apart gv lv ∧ Below w.heap.size w wr) (fun _ _ iv _ => n - (intOf iv).toNat)
  case atStart => exact ⟨0, Nat.zero_le _, rfl, Rep.Own.nil _ _, Rep.Own.nil _ _, fun b hb => (by cases hb), Below.refl _ _⟩
  case round =>
    obtain ⟨i, hi, rfl, hg, hl, hap, hb⟩ := hrel
    obtain ⟨w2, rfl⟩ : ∃ w2 : World, w2 = wr := ⟨_, rfl⟩
    have c0 : w2.cell? ⟨x, 0, none⟩ = some (.slice a n c) := cell_of ((hb.block _ (lt_of_blk F.out.1)).trans F.out.1) rfl
    by_cases hlt : i < n
    · have hil : ((i : Int) < (n : Int)) = True := by simp; omega
      have hi0 : ((0 : Int) ≤ (i : Int)) = True := by simp
      have hw3 := wrapS hlt hmax
      have hsg := filter_succ (L := L) (tillP now) (i := i) (by rw [HN.out]; exact hlt)
      have hsl2 := filter_succ (L := L) (fun y => !tillP now y) (i := i) (by rw [HN.out]; exact hlt)
      have hfg := filt_le L (tillP now) i
      have hfl := filt_le L (fun y => !tillP now y) i
      obtain ⟨b, o, rfl, hbb, hat⟩ := (F.out.2.keep hb).at hlt
      generalize L.getD i default = y at *
      have y0 := hat 0 (by decide)
      have y1 := hat 1 (by decide)
      have y2 := hat 2 (by decide)
      have y3 := hat 3 (by decide)
      have y4 := hat 4 (by decide)
      simp only [ROv, Nat.add_zero, List.getElem?_cons_zero, List.getElem?_cons_succ] at y0 y1 y2 y3 y4
      have G := Lib.hid (And.intro hb (And.intro hg (And.intro hl (And.intro hap (And.intro hsg (And.intro hsl2 (And.intro hfg hfl)))))))
      have hal := (Below.refl w2.heap.size w2).alloc (Nat.le_refl _) (.cells #[.int .i64 y.r, .int .u32 (y.ad : Int), .int .i64 y.ln, .int .i64 y.id, .int .i64 y.till] 62)
      have hone : ROv.Sl (w2.alloc (.cells #[.int .i64 y.r, .int .u32 (y.ad : Int), .int .i64 y.ln, .int .i64 y.id, .int .i64 y.till] 62)) (some ⟨w2.heap.size, 0, none⟩) 1 1 [y] := Rep.sl_one (R := ROv) (y := y) (hnew _ _)
      have HA := Lib.hid (And.intro hal hone)
      obtain ⟨og, cg, eg, -, -⟩ := hg.sl0
      obtain ⟨ol, cl2, el, -, -⟩ := hl.sl0
      obtain ⟨ng, hng⟩ : ∃ k, ((L.take i).filter (tillP now)).length = k := ⟨_, rfl⟩
      obtain ⟨nl, hnl⟩ : ∃ k, ((L.take i).filter fun y => !tillP now y).length = k := ⟨_, rfl⟩
      rw [hng] at eg
      rw [hnl] at el
      subst eg el
      have HL := Lib.hid (And.intro hng hnl)
      clear hb hg hl hap hsg hsl2 hfg hfl hbb hat hal hone hng hnl
      cases hp : tillP now y with
      | true =>
        have hyt : (y.till < now) = True := eq_true (of_decide_eq_true hp)
        have HP := Lib.hid hp
        clear hp
        go_wp2_with (at_builtin; refine halt ?_)
        refine Halted.go ?_
        clear c0 y0 y1 y2 y3 y4
        generalize w2.alloc (.cells #[.int .i64 y.r, .int .u32 (y.ad : Int), .int .i64 y.ln, .int .i64 y.id, .int .i64 y.till] 62) = w3 at *
        refine Rep.append_list2 T53 rfl _ _ rfl rfl (G.out.2.1.below HA.out.1) rfl HA.out.2 (by omega) (by have := G.out.2.2.2.2.2.2.1; unfold maxLen; omega) (by have := G.out.2.2.2.2.2.2.1; omega) (Nat.le_trans G.out.1.size HA.out.1.size) ?_
        intro v6 w6 hown6 hb6 hbad
        obtain ⟨a6, c6, rfl, -, -⟩ := hown6.sl0
        have hl6 : ROv.Own w6 w.heap.size (.slice ol nl cl2) ((L.take i).filter fun y => !tillP now y) := (G.out.2.2.1.below HA.out.1).keep fun b hb => (hbad b (fun h => G.out.2.2.2.1 b h hb) (own_lt (G.out.2.2.1.below HA.out.1) hb)).2
        have hap6 : Apart (.slice a6 ((L.take i).filter (tillP now) ++ [y]).length c6) (.slice ol nl cl2) := fun b hb hb2 => (hbad b (fun h => G.out.2.2.2.1 b h hb2) (own_lt (G.out.2.2.1.below HA.out.1) hb2)).1 hb
        have e1 : (L.take (i + 1)).filter (tillP now) = (L.take i).filter (tillP now) ++ [y] := by rw [G.out.2.2.2.2.1, HP.out, if_pos rfl]
        have e2 : ((L.take (i + 1)).filter fun y => !tillP now y) = (L.take i).filter fun y => !tillP now y := by rw [G.out.2.2.2.2.2.1, HP.out]; rfl
        obtain ⟨n6, hn6⟩ : ∃ k, ((L.take i).filter (tillP now) ++ [y]).length = k := ⟨_, rfl⟩
        rw [hn6] at hown6 hap6 ⊢
        rw [← e1] at hown6
        rw [← e2] at hl6
        have G2 := Lib.hid (And.intro hown6 (And.intro hl6 (And.intro hap6 (G.out.1.trans ((HA.out.1.mono G.out.1.size).trans hb6)))))
        clear hown6 hb6 hbad hl6 hap6 e1 e2 hn6
        go_wp2_with fail
        exact ⟨⟨i + 1, hlt, by first | rw [hw3] | rw [Int.natCast_succ], G2.out⟩, by first | (rw [hw3]; exact mSucc hlt) | (rw [← Int.natCast_succ]; exact mSucc hlt)⟩
      | false =>
        have hyt : (y.till < now) = False := eq_false (of_decide_eq_false hp)
        have HP := Lib.hid hp
        clear hp
        go_wp2_with (at_builtin; refine halt ?_)
        refine Halted.go ?_
        clear c0 y0 y1 y2 y3 y4
        generalize w2.alloc (.cells #[.int .i64 y.r, .int .u32 (y.ad : Int), .int .i64 y.ln, .int .i64 y.id, .int .i64 y.till] 62) = w3 at *
        refine Rep.append_list2 T53 rfl _ _ rfl rfl (G.out.2.2.1.below HA.out.1) rfl HA.out.2 (by omega) (by have := G.out.2.2.2.2.2.2.2; unfold maxLen; omega) (by have := G.out.2.2.2.2.2.2.2; omega) (Nat.le_trans G.out.1.size HA.out.1.size) ?_
        intro v6 w6 hown6 hb6 hbad
        obtain ⟨a6, c6, rfl, -, -⟩ := hown6.sl0
        have hg6 : ROv.Own w6 w.heap.size (.slice og ng cg) ((L.take i).filter (tillP now)) := (G.out.2.1.below HA.out.1).keep fun b hb => (hbad b (fun h => G.out.2.2.2.1 b hb h) (own_lt (G.out.2.1.below HA.out.1) hb)).2
        have hap6 : Apart (.slice og ng cg) (.slice a6 (((L.take i).filter fun y => !tillP now y) ++ [y]).length c6) := fun b hb hb2 => (hbad b (fun h => G.out.2.2.2.1 b hb h) (own_lt (G.out.2.1.below HA.out.1) hb)).1 hb2
        have e1 : (L.take (i + 1)).filter (tillP now) = (L.take i).filter (tillP now) := by rw [G.out.2.2.2.2.1, HP.out]; rfl
        have e2 : ((L.take (i + 1)).filter fun y => !tillP now y) = ((L.take i).filter fun y => !tillP now y) ++ [y] := by rw [G.out.2.2.2.2.2.1, HP.out]; rfl
        obtain ⟨n6, hn6⟩ : ∃ k, (((L.take i).filter fun y => !tillP now y) ++ [y]).length = k := ⟨_, rfl⟩
        rw [hn6] at hown6 hap6 ⊢
        rw [← e2] at hown6
        rw [← e1] at hg6
        have G2 := Lib.hid (And.intro hg6 (And.intro hown6 (And.intro hap6 (G.out.1.trans ((HA.out.1.mono G.out.1.size).trans hb6)))))
        clear hown6 hb6 hbad hg6 hap6 e1 e2 hn6
        go_wp2_with fail
        exact ⟨⟨i + 1, hlt, by first | rw [hw3] | rw [Int.natCast_succ], G2.out⟩, by first | (rw [hw3]; exact mSucc hlt) | (rw [← Int.natCast_succ]; exact mSucc hlt)⟩
    · obtain rfl : n = i := by omega
      have hil : ((n : Int) < (n : Int)) = False := by simp
      rw [List.take_of_length_le (by rw [HN.out]; exact Nat.le_refl _)] at hg hl
      obtain ⟨ol, cl2, el, -, -⟩ := hl.sl0
      obtain ⟨og, cg, eg, -, -⟩ := hg.sl0
      obtain ⟨ng, hng⟩ : ∃ k, (L.filter (tillP now)).length = k := ⟨_, rfl⟩
      obtain ⟨nl, hnl⟩ : ∃ k, (L.filter fun y => !tillP now y).length = k := ⟨_, rfl⟩
      rw [hng] at eg
      rw [hnl] at el
      subst eg el
      have hx2 : w2.heap[x]? = some (.cells #[.slice a n c] 55 (0, 0)) := (hb.block _ (lt_of_blk F.out.1)).trans F.out.1
      have f2 : w2.frozen? ⟨x, 0, none⟩ = false := free_of hx2
      have hxw := lt_of_blk F.out.1
      obtain ⟨hR, hbt⟩ := RefT.put hx2 hxw hl (HO.out.filter _) rfl
      have G := Lib.hid (show RExp w (w2.setCell ⟨x, 0, none⟩ (.slice ol nl cl2)) x L now (.slice og ng cg) from ⟨Rep.Own.but hg hbt (by simp; exact hxw), hR, (But.of_below hb [x]).trans hbt⟩)
      clear hb hg hl hap hx2 hxw hR hbt hng hnl
      go_wp2_with fail
      go_ret
      exact ⟨_, rfl, G.out⟩
end Go.Proofs.Ytfmehahjjgalfaa
