/- DiffTells. -/
import Derived.Test.YtadoflcomienoaaGreatQaw
namespace Go.Proofs.YtadoflcomienoaaGreat
open Go.RowKit

theorem ups_len {four : Bool} {was is : List Sy} (_hi : okY four is = true) : (upsI szN (asz four) was is).length ≤ was.length + is.length := by
  unfold upsI
  rw [List.length_append]
  have h1 := goneI_len (goingI was is)
  have h2 := comeI_lenA (sz := szN) (asz := asz four) (newsI was is).length (newsI was is)
  have h3 : (goingI was is).length ≤ was.length := by
    unfold goingI
    rw [List.length_map]
    refine Nat.le_trans (List.length_filter_le _ _) ?_
    rw [sortK_length]
    exact Nat.le_refl _
  have h4 : (newsI was is).length ≤ is.length := by
    unfold newsI
    refine Nat.le_trans (List.length_filter_le _ _) ?_
    rw [sortK_length]
    exact Nat.le_refl _
  omega
/-- behind the first i updates -/
structure TlI (was : List Sy) (us : List Up) (i : Nat) (S : List SyV) : Prop where
  look : lookA (S.map SyV.sy) = foldF (us.take i) (lookA was)
  sm : ∀ s ∈ S, smAt s.a.at
  len : S.length ≤ 60 + 60 * i
  ord : 0 < i → Kl.Ordered (ltB SyV.k) S
  fst : i = 0 → S.map SyV.sy = was
theorem TlI.step {was : List Sy} {us : List Up} {i : Nat} {S O : List SyV} {u : Up} (h : TlI was us i S) (hi : i < us.length) (hu : us.getD i default = u) (hO : Kl.Ordered (ltB SyV.k) O) (hl : ∀ k, lookA (O.map SyV.sy) k = appF u (lookA (S.map SyV.sy)) k) (hs : ∀ s ∈ O, smAt s.a.at) (hn : O.length ≤ S.length + 60) : TlI was us (i + 1) O := by
  refine ⟨?_, hs, by have := h.len; omega, fun _ => hO, fun e => by omega⟩
  funext k
  rw [hl k, h.look, take_snoc us i hi, hu, foldF_append]
  rfl
theorem TlI.done {four : Bool} {was is : List Sy} {i : Nat} {S : List SyV} (h : TlI was (upsI szN (asz four) was is) i S) (hw : okY four was = true) (hk : okY four is = true) (hi : i = (upsI szN (asz four) was is).length) (h0 : 0 < i) : S.map SyV.sy = sortK Sy.k is := by
  have hl := h.look
  rw [hi, List.take_length, tells hw hk] at hl
  exact sorted_eq (List.pairwise_map.2 (h.ord h0)) (okY_all.1 hk).2 hl
theorem TlI.none {four : Bool} {was is : List Sy} {i : Nat} {S : List SyV} (h : TlI was (upsI szN (asz four) was is) i S) (hw : okY four was = true) (hk : okY four is = true) (hi : i = (upsI szN (asz four) was is).length) (h0 : i = 0) : (sortK SyV.k S).map SyV.sy = sortK Sy.k is := by
  have hl := h.look
  rw [hi, List.take_length, tells hw hk] at hl
  have e := h.fst h0
  rw [sortK_map (key := SyV.k) (key' := Sy.k) SyV.sy (fun _ => rfl), e]
  rw [e] at hl
  refine sorted_eq (sortK_ord (okY_all.1 hw).2) (okY_all.1 hk).2 ?_
  rw [← hl]
  funext k
  unfold lookA
  rw [look_sortK (okY_all.1 hw).2]
set_option maxRecDepth 100000 in
set_option maxHeartbeats 16000000 in
theorem tells_law {w : World} {wa ia : Option Addr} {wn wc jn jc : Nat} {wl il : List SyV} (four : Bool) (hw : SlOk RSy SyOk w ⟨wa, wn, wc, wl⟩) (hi : SlOk RSy SyOk w ⟨ia, jn, jc, il⟩) : Calls Tryz.prog 4 #[.slice wa wn wc, .slice ia jn jc, .bool four] w fun e w' => e = .returned (.bool true) ∧ Below w.heap.size w w' := by
  have H0 := Lib.hid (And.intro hw hi)
  have HL1 := Lib.hid (rlargeY_any hw)
  obtain ⟨b1, hb1⟩ : ∃ b, largeY (wl.map SyV.sy) = b := ⟨_, rfl⟩
  rw [hb1] at HL1
  have HB1 := Lib.hid hb1
  clear hw hi hb1
  go_enter Tryz.func4, Tryz.ntmps4
  go_wp2_with fail
  refine (HL1.out).mono ?_
  rintro e w1 ⟨rfl, hb⟩
  have F := Lib.hid hb
  clear hb HL1
  cases b1 with
  | true =>
    go_wp2_with fail
    refine (lives24 _).mono ?_
    rintro e w9 ⟨rfl, hb⟩
    have F9 := Lib.hid (bcall F.out (Nat.le_refl _) hb)
    clear hb
    go_wp2_with fail
    go_ret
    exact ⟨rfl, F9.out⟩
  | false =>
    have HL2 := Lib.hid (rlargeY_any (H0.out.2.keepY F.out))
    obtain ⟨b2, hb2⟩ : ∃ b, largeY (il.map SyV.sy) = b := ⟨_, rfl⟩
    rw [hb2] at HL2
    have HB2 := Lib.hid hb2
    clear hb2
    go_wp2_with fail
    refine (HL2.out).mono ?_
    rintro e w2 ⟨rfl, hb⟩
    have FN := Lib.hid (bcall F.out (Nat.le_refl _) hb)
    clear hb HL2 F
    have F := FN
    clear FN
    cases b2 with
    | true =>
      go_wp2_with fail
      refine (lives24 _).mono ?_
      rintro e w9 ⟨rfl, hb⟩
      have F9 := Lib.hid (bcall F.out (Nat.le_refl _) hb)
      clear hb
      go_wp2_with fail
      go_ret
      exact ⟨rfl, F9.out⟩
    | false =>
      have HC1 := Lib.hid (rcheckY_any (H0.out.1.keepY F.out) four)
      obtain ⟨k1, hk1⟩ : ∃ b, okY four (wl.map SyV.sy) = b := ⟨_, rfl⟩
      rw [hk1] at HC1
      have HK1 := Lib.hid hk1
      clear hk1
      go_wp2_with fail
      refine (HC1.out).mono ?_
      rintro e w3 ⟨rfl, hb⟩
      have FN := Lib.hid (bcall F.out (Nat.le_refl _) hb)
      clear hb HC1 F
      have F := FN
      clear FN
      cases k1 with
      | false =>
        go_wp2_with fail
        refine (lives24 _).mono ?_
        rintro e w9 ⟨rfl, hb⟩
        have F9 := Lib.hid (bcall F.out (Nat.le_refl _) hb)
        clear hb
        go_wp2_with fail
        go_ret
        exact ⟨rfl, F9.out⟩
      | true =>
        have HC2 := Lib.hid (rcheckY_any (H0.out.2.keepY F.out) four)
        obtain ⟨k2, hk2⟩ : ∃ b, okY four (il.map SyV.sy) = b := ⟨_, rfl⟩
        rw [hk2] at HC2
        have HK2 := Lib.hid hk2
        clear hk2
        go_wp2_with fail
        refine (HC2.out).mono ?_
        rintro e w4 ⟨rfl, hb⟩
        have FN := Lib.hid (bcall F.out (Nat.le_refl _) hb)
        clear hb HC2 F
        have F := FN
        clear FN
        cases k2 with
        | false =>
          go_wp2_with fail
          refine (lives24 _).mono ?_
          rintro e w9 ⟨rfl, hb⟩
          have F9 := Lib.hid (bcall F.out (Nat.le_refl _) hb)
          clear hb
          go_wp2_with fail
          go_ret
          exact ⟨rfl, F9.out⟩
        | true =>
          have hn1 := small_of H0.out.1 HB1.out
          have hn2 := small_of H0.out.2 HB2.out
          have HN := Lib.hid (And.intro hn1 hn2)
          clear hn1 hn2
          have HU := Lib.hid (dupdates_any (H0.out.1.keepY F.out) (H0.out.2.keepY F.out) HK1.out HK2.out (by have := HN.out; omega) (by have := HN.out; omega))
          go_wp2_with fail
          refine (HU.out).mono ?_
          rintro e w5 ⟨v, M, rfl, ho, hm, hb⟩
          obtain ⟨⟨la, ln, lc, ll⟩, rfl, hl1, hl2, -, -⟩ := ho.slok
          dsimp only at hl1
          subst hl1
          have F3 := Lib.hid (And.intro (bcall F.out (Nat.le_refl _) hb) (And.intro hl2 hm))
          clear ho hm hb hl2 HU F
          have HU := Lib.hid (dupdates_any (H0.out.2.keepY F3.out.1) (H0.out.2.keepY F3.out.1) HK2.out HK2.out (by have := HN.out; omega) (by have := HN.out; omega))
          go_wp2_with fail
          refine (HU.out).mono ?_
          rintro e w6 ⟨v, M, rfl, ho, hm, hb⟩
          rw [ups_none (okY_all.1 HK2.out).2, List.map_eq_nil_iff] at hm
          subst hm
          obtain ⟨⟨na, nn, nc, nl⟩, rfl, hl1, hl2, -, -⟩ := ho.slok
          dsimp only at hl1
          subst hl1
          obtain rfl : nn = 0 := hl2.sl.len
          have F4 := Lib.hid (And.intro (bcall F3.out.1 (Nat.le_refl _) hb) (And.intro (F3.out.2.1.keepU hb) F3.out.2.2))
          clear ho hb hl2 HU F3
          have hln : ln = ll.length := F4.out.2.1.sl.len
          have hlu : ll.length = (upsI szN (asz four) (wl.map SyV.sy) (il.map SyV.sy)).length := by rw [← F4.out.2.2, List.length_map]
          have hl120 : ln ≤ 120 := by
            have h1 := ups_len (was := wl.map SyV.sy) (HK2.out)
            rw [List.length_map, List.length_map] at h1
            have h2 : wn = wl.length := H0.out.1.sl.len
            have h3 : jn = il.length := H0.out.2.sl.len
            have h4 := HN.out
            omega
          have HLN := Lib.hid (And.intro hln hlu)
          have T0 := Lib.hid (show TlI (wl.map SyV.sy) (upsI szN (asz four) (wl.map SyV.sy) (il.map SyV.sy)) 0 wl from ⟨rfl, fun s hs => sm_ok (okA_of ((okY_iff.1 HK1.out).1 s hs)), by
            have h2 : wn = wl.length := H0.out.1.sl.len
            have h4 := HN.out
            omega, fun h => absurd h (Nat.lt_irrefl 0), fun _ => rfl⟩)
          clear hln hlu
          go_wp2_with fail
          go_loopw [11, 12] (fun sv iv wr => ∃ (i : Nat) (S : SlV SyV), i ≤ ln ∧ iv = .int .i64 i ∧ sv = .slice S.a S.n S.c ∧ SlOk RSy SyOk wr S ∧ TlI (wl.map SyV.sy) (upsI szN (asz four) (wl.map SyV.sy) (il.map SyV.sy)) i S.l ∧ Below w6.heap.size w6 wr) (fun _ iv _ => ln - (intOf iv).toNat)
          case atStart => exact ⟨0, ⟨wa, wn, wc, wl⟩, Nat.zero_le _, rfl, rfl, H0.out.1.keepY F4.out.1, T0.out, Below.refl _ _⟩
          case round =>
            obtain ⟨i, ⟨ta, tn, tc, tl⟩, hi, rfl, rfl, hs, ht, hb⟩ := hrel
            dsimp only at *
            obtain ⟨w7, rfl⟩ : ∃ w7 : World, w7 = wr := ⟨_, rfl⟩
            by_cases hlt : i < ln
            · have hil : ((i : Int) < (ln : Int)) = True := by simp; omega
              have hi0 : ((0 : Int) ≤ (i : Int)) = True := by simp
              have hw3 := wrapS hlt (show ln ≤ maxLen by unfold maxLen; omega)
              have hlL : i < ll.length := by rw [← HLN.out.1]; exact hlt
              have hsl := F4.out.2.1.keepU hb
              obtain ⟨b, o, ea, hbb, hat⟩ := hsl.sl.at hlt
              dsimp only at ea
              subst ea
              obtain ⟨u, hu⟩ : ∃ u, ll.getD i default = u := ⟨_, rfl⟩
              dsimp only at hat
              rw [hu] at hat
              have hmem : u ∈ ll := by rw [← hu]; exact getD_mem hlL
              have huo : UpOk w7 u := hsl.all u hmem
              have hup : u.up ∈ upsI szN (asz four) (wl.map SyV.sy) (il.map SyV.sy) := by rw [← F4.out.2.2]; exact List.mem_map_of_mem hmem
              have hck := ups_chk HK1.out HK2.out u.up hup
              have hrn : u.r.n ≤ 60 := by
                have h1 : u.r.n = u.r.l.length := huo.r.sl.len
                have h2 : u.r.l.length ≤ (il.map SyV.sy).length := hck.2.2
                rw [List.length_map] at h2
                have h3 : jn = il.length := H0.out.2.sl.len
                have h4 := HN.out
                omega
              have hgd : (upsI szN (asz four) (wl.map SyV.sy) (il.map SyV.sy)).getD i default = u.up := by
                rw [← F4.out.2.2, ← hu]
                simp [List.getD_eq_getElem?_getD, List.getElem?_map, List.getElem?_eq_getElem hlL]
              have htn : tn = tl.length := hs.sl.len
              have htl := ht.len
              have HC := Lib.hid (rucheck_any huo four)
              rw [hck.1] at HC
              have G := Lib.hid (And.intro hs (And.intro ht (And.intro hb (And.intro (And.intro hat hbb) (And.intro huo (And.intro hck.2.1 (And.intro hrn (And.intro hgd (And.intro hlt (And.intro (show i < (upsI szN (asz four) (wl.map SyV.sy) (il.map SyV.sy)).length by rw [← HLN.out.2]; exact hlL) (And.intro htn (show tn + u.r.n ≤ 16384 by omega))))))))))))
              have c0 := hat 0 (by decide)
              have c1 := hat 1 (by decide)
              have c2 := hat 2 (by decide)
              have c3 := hat 3 (by decide)
              have c4 := hat 4 (by decide)
              have c5 := hat 5 (by decide)
              have c6 := hat 6 (by decide)
              have c7 := hat 7 (by decide)
              have c8 := hat 8 (by decide)
              simp only [RUp, Nat.add_zero, List.getElem?_cons_zero, List.getElem?_cons_succ] at c0 c1 c2 c3 c4 c5 c6 c7 c8
              unfold UpV.v at HC
              clear hs ht hb hat hbb hsl hlL hu hmem huo hup hck hrn hgd htn htl hi
              go_wp2_with fail
              refine (HC.out).mono ?_
              rintro e V1 ⟨rfl, hb⟩
              have HB := Lib.hid hb
              have hat := G.out.2.2.2.1.1.keep (hb.block _ G.out.2.2.2.1.2)
              have HA := Lib.hid (dapply_any (G.out.1.keepY hb) (G.out.2.2.2.2.1.keep hb) G.out.2.1.sm G.out.2.2.2.2.2.1 G.out.2.2.2.2.2.2.2.2.2.2.2)
              clear hb HC c0 c1 c2 c3 c4 c5 c6 c7 c8
              have c0 := hat 0 (by decide)
              have c1 := hat 1 (by decide)
              have c2 := hat 2 (by decide)
              have c3 := hat 3 (by decide)
              have c4 := hat 4 (by decide)
              have c5 := hat 5 (by decide)
              have c6 := hat 6 (by decide)
              have c7 := hat 7 (by decide)
              have c8 := hat 8 (by decide)
              simp only [RUp, Nat.add_zero, List.getElem?_cons_zero, List.getElem?_cons_succ] at c0 c1 c2 c3 c4 c5 c6 c7 c8
              unfold UpV.v at HA
              clear hat
              go_wp2_with fail
              refine (HA.out).mono ?_
              rintro e V2 ⟨v, O, rfl, ho, hord, hlk, hsm, hle, hb⟩
              obtain ⟨⟨pa, pn, pc, pl⟩, rfl, hp1, hp2, -, -⟩ := ho.slok
              dsimp only at hp1
              subst hp1
              have HF := Lib.hid (And.intro hp2 (And.intro (G.out.2.1.step G.out.2.2.2.2.2.2.2.2.2.1 G.out.2.2.2.2.2.2.2.1 hord hlk hsm (by have h1 := G.out.2.2.2.2.2.2.1; have h2 := G.out.2.2.2.2.2.2.2.2.2.2.1; omega)) (bcall G.out.2.2.1 (Nat.le_refl _) (bcall HB.out (Nat.le_refl _) hb))))
              have hlt := G.out.2.2.2.2.2.2.2.2.1
              clear ho hord hlk hsm hle hb hp2 HA c0 c1 c2 c3 c4 c5 c6 c7 c8
              go_wp2_with fail
              exact ⟨⟨i + 1, ⟨pa, pn, pc, pl⟩, hlt, by first | rw [hw3] | rw [Int.natCast_succ], rfl, HF.out⟩, by first | (rw [hw3]; exact mSucc hlt) | (rw [← Int.natCast_succ]; exact mSucc hlt)⟩
            · obtain rfl : i = ln := by omega
              have hil : ((i : Int) < (i : Int)) = False := by simp
              have hiu : i = (upsI szN (asz four) (wl.map SyV.sy) (il.map SyV.sy)).length := by rw [HLN.out.1, HLN.out.2]
              have htn : tn = tl.length := hs.sl.len
              by_cases h0 : 0 < i
              · have hne : ((i : Int) == 0) = false := by simp; omega
                have hfin := ht.done HK1.out HK2.out hiu h0
                have F5 := Lib.hid (And.intro (bcall F4.out.1 (Nat.le_refl _) hb) (And.intro hs hfin))
                clear hb hs ht hi hlt hiu htn h0 hfin
                go_wp2_with fail
                refine (lives24 _).mono ?_
                rintro e V6 ⟨rfl, hb⟩
                have F7 := Lib.hid (And.intro (bcall F5.out.1 (Nat.le_refl _) hb) (And.intro (F5.out.2.1.keepY hb) F5.out.2.2))
                clear hb F5
                have HSI := Lib.hid (rsortY_any (H0.out.2.keepY F7.out.1).sl (by have := HN.out; show jn ≤ 16384; omega))
                go_wp2_with fail
                refine (HSI.out).mono ?_
                rintro e V7 ⟨v, rfl, ho, hb⟩
                obtain ⟨⟨ra, rn, rc, rl⟩, rfl, hr1, hr2, -, -⟩ := Own_slok (ok := SyOk) ho (fun x hx => (H0.out.2.keepY (bcall F7.out.1 (Nat.le_refl _) hb)).all x ((sortK_perm _).mem_iff.1 hx))
                dsimp only at hr1
                have HSM := Lib.hid (rsameY_any (F7.out.2.1.keepY hb) hr2)
                rw [F7.out.2.2, hr1, sortK_map (key := SyV.k) (key' := Sy.k) SyV.sy (fun _ => rfl), show decide (sortK Sy.k (il.map SyV.sy) = sortK Sy.k (il.map SyV.sy)) = true from decide_eq_true rfl] at HSM
                have F8 := Lib.hid (bcall F7.out.1 (Nat.le_refl _) hb)
                clear ho hb hr1 hr2 HSI F7
                go_wp2_with fail
                refine (HSM.out).mono ?_
                rintro e V8 ⟨rfl, hb⟩
                have F9 := Lib.hid (bcall F8.out (Nat.le_refl _) hb)
                clear hb HSM
                go_wp2_with fail
                go_ret
                exact ⟨rfl, F9.out⟩
              · obtain rfl : i = 0 := by omega
                have hfin := ht.none HK1.out HK2.out hiu rfl
                have hlen := ht.len
                have HS0 := Lib.hid (rsortY_any hs.sl (show tn ≤ 16384 by omega))
                have F6 := Lib.hid (And.intro (bcall F4.out.1 (Nat.le_refl _) hb) (And.intro hs hfin))
                clear hb hs ht hi hlt hiu htn h0 hfin hlen
                go_wp2_with fail
                refine (HS0.out).mono ?_
                rintro e V5 ⟨v, rfl, ho, hb⟩
                obtain ⟨⟨qa, qn, qc, ql⟩, rfl, hq1, hq2, -, -⟩ := Own_slok (ok := SyOk) ho (fun x hx => (F6.out.2.1.keepY hb).all x ((sortK_perm _).mem_iff.1 hx))
                dsimp only at hq1
                have hfin2 : List.map SyV.sy ql = sortK Sy.k (il.map SyV.sy) := by rw [hq1]; exact F6.out.2.2
                have F5 := Lib.hid (And.intro (bcall F6.out.1 (Nat.le_refl _) hb) (And.intro hq2 hfin2))
                clear ho hb hq1 hq2 hfin2 HS0 F6
                go_wp2_with fail
                refine (lives24 _).mono ?_
                rintro e V6 ⟨rfl, hb⟩
                have F7 := Lib.hid (And.intro (bcall F5.out.1 (Nat.le_refl _) hb) (And.intro (F5.out.2.1.keepY hb) F5.out.2.2))
                clear hb F5
                have HSI := Lib.hid (rsortY_any (H0.out.2.keepY F7.out.1).sl (by have := HN.out; show jn ≤ 16384; omega))
                go_wp2_with fail
                refine (HSI.out).mono ?_
                rintro e V7 ⟨v, rfl, ho, hb⟩
                obtain ⟨⟨ra, rn, rc, rl⟩, rfl, hr1, hr2, -, -⟩ := Own_slok (ok := SyOk) ho (fun x hx => (H0.out.2.keepY (bcall F7.out.1 (Nat.le_refl _) hb)).all x ((sortK_perm _).mem_iff.1 hx))
                dsimp only at hr1
                have HSM := Lib.hid (rsameY_any (F7.out.2.1.keepY hb) hr2)
                rw [F7.out.2.2, hr1, sortK_map (key := SyV.k) (key' := Sy.k) SyV.sy (fun _ => rfl), show decide (sortK Sy.k (il.map SyV.sy) = sortK Sy.k (il.map SyV.sy)) = true from decide_eq_true rfl] at HSM
                have F8 := Lib.hid (bcall F7.out.1 (Nat.le_refl _) hb)
                clear ho hb hr1 hr2 HSI F7
                go_wp2_with fail
                refine (HSM.out).mono ?_
                rintro e V8 ⟨rfl, hb⟩
                have F9 := Lib.hid (bcall F8.out (Nat.le_refl _) hb)
                clear hb HSM
                go_wp2_with fail
                go_ret
                exact ⟨rfl, F9.out⟩
end Go.Proofs.YtadoflcomienoaaGreat

