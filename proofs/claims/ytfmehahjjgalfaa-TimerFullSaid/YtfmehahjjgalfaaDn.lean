/- TableExpires: the law's walk. -/
import Derived.Test.YtfmehahjjgalfaaDm
namespace Go.Proofs.Ytfmehahjjgalfaa
open Go.RowKit

theorem filter_two (L : List Ov) (p : Ov → Bool) : (L.filter p).length + (L.filter fun x => !p x).length = L.length := by
  induction L with
  | nil => rfl
  | cons x r ih =>
    rw [List.filter_cons, List.filter_cons]
    cases p x <;> simp at * <;> omega
theorem set_len {L : List Ov} (_h : Ord L) (o : Ov) : (setO L o).length ≤ L.length + 1 := by
  unfold setO
  have h1 := filter_two L (fun x => ltO x o)
  have h2 : (L.filter fun x => ltO o x).length ≤ (L.filter fun x => !ltO x o).length := by
    have : (L.filter fun x => ltO o x).Sublist (L.filter fun x => !ltO x o) := by
      have e : L.filter (fun x => ltO o x) = (L.filter fun x => !ltO x o).filter fun x => ltO o x := by
        rw [List.filter_filter]
        refine List.filter_congr fun x _ => ?_
        cases hx : ltO o x with
        | false => simp
        | true => rw [ltO_asymm _ _ hx]; rfl
      rw [e]
      exact List.filter_sublist
    exact this.length_le
  rw [List.length_append, List.length_cons]
  omega
theorem tset_len {L : List Ov} (h : Ord L) (o : Ov) : (if setE L o = 0 then setO L o else L).length ≤ L.length + 1 := by
  split
  · exact set_len h o
  · omega
/-- detours that come in -/
structure Ovs (w : World) (oa : Option Addr) (n c : Nat) (l : List Ov) : Prop where
  sl : ROv.Sl w oa n c l
  ok : ∀ o ∈ l, o.ad < 4294967296 ∧ PN.ok o.key
theorem filter_at {L : List Ov} {p : Ov → Bool} {i : Nat} (h : i < (L.filter p).length) : p ((L.filter p).getD i default) = true := (List.mem_filter.1 (getD_mem h)).2
set_option maxRecDepth 100000 in
set_option maxHeartbeats 4000000 in
theorem texpires_law {w : World} {oa : Option Addr} {n cn : Nat} {l : List Ov} (hl : Ovs w oa n cn l) (now : Int) : Calls Try.prog 8 #[.slice oa n cn, .int .i64 now] w fun e w' => e = .returned (.bool true) ∧ Below w.heap.size w w' := by
  have HL := Lib.hid hl.sl.len
  have hmax := hl.sl.max
  have HI := Lib.hid hl
  clear hl
  by_cases h200 : 200 < n
  · have h2 : ((200 : Int) < (n : Int)) = True := by simp; omega
    clear h200
    go_enter Try.func8, Try.ntmps8
    go_wp2_with fail
    refine (tnew_any _).mono ?_
    rintro e W1 ⟨t, bm, rfl, hT, hb, ht0, hm0⟩
    have HBM := Lib.hid hm0
    have F1 := Lib.hid (And.intro hb hT)
    clear hT hb ht0 hm0
    go_wp2_with fail
    refine (lives23 _).mono ?_
    rintro e W2 ⟨rfl, hb⟩
    have F2 := Lib.hid (And.intro (bcall F1.out.1 (Nat.le_refl _) hb) (F1.out.2.keep hb))
    clear hb F1
    go_wp2_with fail
    refine (lives23 _).mono ?_
    rintro e W3 ⟨rfl, hb⟩
    have F3 := Lib.hid (bcall F2.out.1 (Nat.le_refl _) hb)
    clear hb F2
    go_wp2_with fail
    go_ret
    exact ⟨rfl, F3.out⟩
  have h2 : ((200 : Int) < (n : Int)) = False := by simp; omega
  go_enter Try.func8, Try.ntmps8
  go_wp2_with fail
  refine (tnew_any _).mono ?_
  rintro e W1 ⟨t, bm, rfl, hT, hb, ht0, hm0⟩
  have HBM := Lib.hid hm0
  have F1 := Lib.hid (And.intro hb hT)
  clear hT hb ht0 hm0
  go_wp2_with fail
  refine (lives23 _).mono ?_
  rintro e W2 ⟨rfl, hb⟩
  have F2 := Lib.hid (And.intro (bcall F1.out.1 (Nat.le_refl _) hb) (F1.out.2.keep hb))
  clear hb F1
  go_wp2_with fail
  go_loopw [6] (fun iv wr => ∃ (i : Nat) (L : List Ov), i ≤ n ∧ iv = .int .i64 i ∧ TabAt wr t bm L ∧ L.length ≤ i ∧ Below w.heap.size w wr) (fun iv _ => n - (intOf iv).toNat)
  case atStart => exact ⟨0, [], Nat.zero_le _, rfl, F2.out.2, Nat.le_refl _, F2.out.1⟩
  case round =>
    obtain ⟨i, L, hi, rfl, htab, hLi, hb⟩ := hrel
    obtain ⟨w2, rfl⟩ : ∃ w2 : World, w2 = wr := ⟨_, rfl⟩
    have G := Lib.hid (And.intro hb htab)
    have HLI := Lib.hid hLi
    clear hb htab F2
    by_cases hlt : i < n
    · have hil : ((i : Int) < (n : Int)) = True := by simp; omega
      have hi0 : ((0 : Int) ≤ (i : Int)) = True := by simp
      have hw3 := wrapS hlt hmax
      have hok := HI.out.ok (l.getD i default) (getD_mem (by rw [← HL.out]; exact hlt))
      obtain ⟨b, o, rfl, hbb, hat⟩ := (HI.out.sl.keep G.out.1).at hlt
      generalize l.getD i default = y at *
      have y0 := hat 0 (by decide)
      have y1 := hat 1 (by decide)
      have y2 := hat 2 (by decide)
      have y3 := hat 3 (by decide)
      have y4 := hat 4 (by decide)
      simp only [ROv, Nat.add_zero, List.getElem?_cons_zero, List.getElem?_cons_succ] at y0 y1 y2 y3 y4
      have HS := Lib.hid (tset_any G.out.2 (o := y) hok.1 hok.2)
      clear hat hbb hok hLi
      go_wp2_with fail
      refine HS.out.mono ?_
      rintro e w3 ⟨rfl, hs⟩
      have G2 := Lib.hid (show ∃ L', TabAt w3 t bm L' ∧ L'.length ≤ i + 1 ∧ Below w.heap.size w w3 from ⟨_, hs.tab, Nat.le_trans (tset_len G.out.2.ord y) (by have := HLI.out; omega), Below.step G.out.1 G.out.1.size hs.but (by simp; exact HBM.out)⟩)
      generalize setE L y = se at *
      clear hs HS y0 y1 y2 y3 y4
      go_wp2_with fail
      obtain ⟨L', g1, g2, g3⟩ := G2.out
      exact ⟨⟨i + 1, L', hlt, by first | rw [hw3] | rw [Int.natCast_succ], g1, g2, g3⟩, by first | (rw [hw3]; exact mSucc hlt) | (rw [← Int.natCast_succ]; exact mSucc hlt)⟩
    · obtain rfl : n = i := by omega
      have hil : ((n : Int) < (n : Int)) = False := by simp
      have hLb : L.length ≤ 4611686 := by omega
      have HLB := Lib.hid hLb
      clear hLb hLi
      go_wp2_with fail
      refine (tall_any G.out.2 HLB.out).mono ?_
      rintro e W3 ⟨v, rfl, hown, hb⟩
      obtain ⟨a3, c3, rfl, -, -⟩ := hown.sl0
      have F3 := Lib.hid (And.intro (bcall G.out.1 (Nat.le_refl _) hb) (G.out.2.keep hb))
      clear hown hb G
      obtain ⟨nL, hnL⟩ : ∃ k, L.length = k := ⟨_, rfl⟩
      have HNL := Lib.hid hnL
      rw [hnL]
      clear hnL
      go_wp2_with fail
      refine (texp_any F3.out.2 HLB.out now).mono ?_
      rintro e W4 ⟨v, rfl, hx⟩
      obtain ⟨a4, c4, rfl, hs4, -⟩ := hx.own.sl0
      have hown := hx.own
      have hft := filter_two L (tillP now)
      have hfar : bm < W3.heap.size := F3.out.2.lt.2.1
      have F4 := Lib.hid (And.intro (Below.step F3.out.1 F3.out.1.size hx.but (by simp; exact HBM.out)) (And.intro hx.tab hown))
      have HBF := Lib.hid (And.intro hfar (show ((L.filter fun x => !tillP now x).length ≤ 4611686) from Nat.le_trans (List.length_filter_le _ _) HLB.out))
      have HFT := Lib.hid hft
      clear hx hown hs4 hft hfar F3
      obtain ⟨n4, hn4⟩ : ∃ k, (L.filter (tillP now)).length = k := ⟨_, rfl⟩
      have HN4 := Lib.hid hn4
      rw [hn4] at F4 ⊢
      clear hn4
      go_wp2_with fail
      refine (tall_any F4.out.2.1 HBF.out.2).mono ?_
      rintro e W5 ⟨v, rfl, hown, hb⟩
      obtain ⟨a5, c5, rfl, hs5, -⟩ := hown.sl0
      obtain ⟨n5, hn5⟩ : ∃ k, (L.filter fun x => !tillP now x).length = k := ⟨_, rfl⟩
      have HN5 := Lib.hid hn5
      obtain ⟨a4', c4', e4, hs4, -⟩ := (F4.out.2.2.below hb).sl0
      rw [HN4.out] at e4 hs4
      injection e4 with e41 e42 e43
      subst e41 e43
      rw [hn5] at hs5 ⊢
      have F5 := Lib.hid (And.intro (bcall F4.out.1 (Nat.le_refl _) hb) (And.intro hs4 hs5))
      have hsum : n4 + n5 = nL := by rw [← HN4.out, ← HN5.out, ← HNL.out]; exact HFT.out
      have hnb : nL ≤ 4611686 := HNL.out ▸ HLB.out
      have hadd : wrap64 ((n4 : Int) + (n5 : Int)) = (nL : Int) := by unfold wrap64; omega
      have hm4 : n4 ≤ maxLen := by unfold maxLen; omega
      have hm5 : n5 ≤ maxLen := by unfold maxLen; omega
      have hadd2 : ((n4 : Int) + (n5 : Int)) = (nL : Int) := by omega
      clear hown hb hn5 hs4 hs5 F4 hsum e42
      go_wp2_with fail
      go_loopw [10] (fun kv wr => ∃ k : Nat, k ≤ n4 ∧ kv = .int .i64 k ∧ wr = W5) (fun kv _ => n4 - (intOf kv).toNat)
      case atStart => exact ⟨0, Nat.zero_le _, rfl, rfl⟩
      case round =>
        obtain ⟨k, hk, rfl, rfl⟩ := hrel
        by_cases hkt : k < n4
        · have hki : ((k : Int) < (n4 : Int)) = True := by simp; omega
          have hk0 : ((0 : Int) ≤ (k : Int)) = True := by simp
          have hwk := wrapS hkt hm4
          have hp := filter_at (L := L) (p := tillP now) (i := k) (by rw [HN4.out]; exact hkt)
          obtain ⟨b4, o4, rfl, hbb, hat⟩ := F5.out.2.1.at hkt
          generalize (L.filter (tillP now)).getD k default = y at *
          have y4 := hat 4 (by decide)
          simp only [ROv, List.getElem?_cons_zero, List.getElem?_cons_succ] at y4
          have hyt : (now ≤ y.till) = False := by
            have := of_decide_eq_true hp
            simp; omega
          clear hat hbb hp
          go_wp2_with fail
          exact ⟨⟨k + 1, hkt, by first | rw [hwk] | rw [Int.natCast_succ], trivial⟩, by first | (rw [hwk]; exact mSucc hkt) | (rw [← Int.natCast_succ]; exact mSucc hkt)⟩
        · obtain rfl : n4 = k := by omega
          have hki : ((n4 : Int) < (n4 : Int)) = False := by simp
          go_wp2_with fail
          go_loopw [11] (fun kv wr2 => ∃ k : Nat, k ≤ n5 ∧ kv = .int .i64 k ∧ wr2 = wr) (fun kv _ => n5 - (intOf kv).toNat)
          case atStart => exact ⟨0, Nat.zero_le _, rfl, rfl⟩
          case round =>
            obtain ⟨k, hk, rfl, rfl⟩ := hrel
            by_cases hkt : k < n5
            · have hki2 : ((k : Int) < (n5 : Int)) = True := by simp; omega
              have hk0 : ((0 : Int) ≤ (k : Int)) = True := by simp
              have hwk := wrapS hkt hm5
              have hp := filter_at (L := L) (p := fun x => !tillP now x) (i := k) (by rw [HN5.out]; exact hkt)
              obtain ⟨b5, o5, rfl, hbb, hat⟩ := F5.out.2.2.at hkt
              generalize (L.filter fun x => !tillP now x).getD k default = y at *
              have y4 := hat 4 (by decide)
              simp only [ROv, List.getElem?_cons_zero, List.getElem?_cons_succ] at y4
              have hyt : (y.till < now) = False := by
                have : tillP now y = false := by simpa using hp
                exact eq_false (of_decide_eq_false this)
              clear hat hbb hp
              go_wp2_with fail
              exact ⟨⟨k + 1, hkt, by first | rw [hwk] | rw [Int.natCast_succ], trivial⟩, by first | (rw [hwk]; exact mSucc hkt) | (rw [← Int.natCast_succ]; exact mSucc hkt)⟩
            · obtain rfl : n5 = k := by omega
              have hki2 : ((n5 : Int) < (n5 : Int)) = False := by simp
              go_wp2_with fail
              go_ret
              exact ⟨rfl, F5.out.1⟩
end Go.Proofs.Ytfmehahjjgalfaa
