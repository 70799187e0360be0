/- Updates, as the program tells. -/
import Derived.Test.YtadoflcomienoaaQap
import Derived.Test.YtadoflcomienoaaQan
import Derived.Test.YtadoflcomienoaaQaq
import Derived.Test.YtadoflcomienoaaQao
import Derived.Test.YtadoflcomienoaaQam
namespace Go.Proofs.Ytadoflcomienoaa
open Go.RowKit

theorem goV_is' (wl il : List SyV) : goV il (sortK SyV.k wl) = goingI (wl.map SyV.sy) (il.map SyV.sy) := by
  unfold goV goingI
  rw [← sortK_map (key := SyV.k) SyV.sy (fun _ => rfl), List.filter_map, List.map_map]
  congr 1
  refine List.filter_congr fun s _ => ?_
  show (Kl.look SyV.k il s.k).isNone = (Kl.look Sy.k (il.map SyV.sy) s.k).isNone
  rw [look_map (key := SyV.k) SyV.sy (fun _ => rfl)]
  cases Kl.look SyV.k il s.k <;> rfl
theorem newV_is' (wl il : List SyV) : (newV wl (sortK SyV.k il)).map SyV.sy = newsI (wl.map SyV.sy) (il.map SyV.sy) := by
  unfold newV newsI
  rw [← sortK_map (key := SyV.k) SyV.sy (fun _ => rfl), List.filter_map]
  congr 1
  refine List.filter_congr fun s _ => ?_
  show newQ wl s = !decide (Kl.look Sy.k (wl.map SyV.sy) s.k = some s.sy)
  unfold newQ
  rw [look_map (key := SyV.k) SyV.sy (fun _ => rfl)]
  cases hl : Kl.look SyV.k wl s.k with
  | none => simp
  | some t =>
    have hk := (Kl.look_mem hl).2
    simp only [Option.map_some, Option.some.injEq]
    congr 1
    refine decide_eq_decide.2 ⟨fun h => ?_, fun h => congrArg Sy.a h⟩
    unfold SyV.sy
    rw [hk, h]
theorem hasY_no {L : List SyV} {k : PK} (h : hasY L k = false) : Kl.look SyV.k L k = none := by
  unfold hasY at h
  cases hq : Kl.look SyV.k L k with
  | none => rfl
  | some y => rw [hq] at h; cases h
theorem hasY_yes {L : List SyV} {k : PK} (h : hasY L k = true) : ∃ t, Kl.look SyV.k L k = some t ∧ getA L k = t.a ∧ t ∈ L := by
  unfold hasY at h
  cases hq : Kl.look SyV.k L k with
  | none => rw [hq] at h; cases h
  | some y => exact ⟨y, rfl, by unfold getA; rw [hq]; rfl, (Kl.look_mem hq).1⟩
theorem getA_ok {w : World} {L : List SyV} (h : ∀ x ∈ L, SyOk w x) (k : PK) : AtOk w (getA L k) := by
  unfold getA
  cases hq : Kl.look SyV.k L k with
  | none => exact atZ_ok w
  | some y => exact (h y (Kl.look_mem hq).1).a
theorem okY_iff {four : Bool} {sl : List SyV} : okY four (sl.map SyV.sy) = true ↔ (∀ s ∈ sl, okS four s = true) ∧ (sl.map SyV.k).Nodup := by
  rw [okY_is, Bool.and_eq_true, List.all_eq_true, decide_eq_true_eq]
set_option maxRecDepth 100000 in
set_option maxHeartbeats 8000000 in
theorem dupdates_bad {w : World} {wa ia : Option Addr} {wn wc jn jc : Nat} {wl il : List SyV} {four : Bool} (hw : SlOk RSy SyOk w ⟨wa, wn, wc, wl⟩) (hi : SlOk RSy SyOk w ⟨ia, jn, jc, il⟩) (hbad : (okY four (wl.map SyV.sy) && okY four (il.map SyV.sy)) = false) : Calls Try.prog 8 #[.slice wa wn wc, .slice ia jn jc, .bool four] w fun e w' => e = .returned (.tuple #[.slice none 0 0, .int .i64 1]) ∧ Below w.heap.size w w' := by
  have HC := Lib.hid (dcheckY_any hw four)
  have H0 := Lib.hid hi
  obtain ⟨b1, hb1⟩ : ∃ b, okY four (wl.map SyV.sy) = b := ⟨_, rfl⟩
  rw [hb1] at HC hbad
  clear hw hi hb1
  cases b1 with
  | false =>
    have e1 : (errI false 1 : Int) = 1 := rfl
    go_enter Try.func8, Try.ntmps8
    go_wp2_with fail
    refine (HC.out).mono ?_
    rintro e w1 ⟨rfl, hb⟩
    have F1 := Lib.hid hb
    clear hb HC
    go_wp2_with fail
    go_ret2
    exact ⟨rfl, F1.out⟩
  | true =>
    have e1 : (errI true 1 : Int) = 0 := rfl
    have e2 : (errI false 1 : Int) = 1 := rfl
    rw [Bool.true_and] at hbad
    have HB := Lib.hid hbad
    clear hbad
    go_enter Try.func8, Try.ntmps8
    go_wp2_with fail
    refine (HC.out).mono ?_
    rintro e w1 ⟨rfl, hb⟩
    have HC2 := Lib.hid (dcheckY_any (H0.out.keepY hb) four)
    rw [HB.out] at HC2
    have F1 := Lib.hid hb
    clear hb HC
    go_wp2_with fail
    refine (HC2.out).mono ?_
    rintro e w2 ⟨rfl, hb⟩
    have F2 := Lib.hid (bcall F1.out (Nat.le_refl _) hb)
    clear hb HC2 F1
    go_wp2_with fail
    go_ret2
    exact ⟨rfl, F2.out⟩
set_option maxRecDepth 100000 in
set_option maxHeartbeats 16000000 in
theorem dupdates_any {w : World} {wa ia : Option Addr} {wn wc jn jc : Nat} {wl il : List SyV} {four : Bool} (hw : SlOk RSy SyOk w ⟨wa, wn, wc, wl⟩) (hi : SlOk RSy SyOk w ⟨ia, jn, jc, il⟩) (hkw : okY four (wl.map SyV.sy) = true) (hki : okY four (il.map SyV.sy) = true) (hm1 : wn ≤ 16384) (hm2 : jn ≤ 16384) : Calls Try.prog 8 #[.slice wa wn wc, .slice ia jn jc, .bool four] w fun e w' => ∃ v M, e = .returned (.tuple #[v, .int .i64 0]) ∧ OwnP RUp UpOk w' w.heap.size v M ∧ M.map UpV.up = upsI szN (asz four) (wl.map SyV.sy) (il.map SyV.sy) ∧ Below w.heap.size w w' := by
  have HC := Lib.hid (dcheckY_any hw four)
  rw [hkw] at HC
  have e1 : (errI true 1 : Int) = 0 := rfl
  have H0 := Lib.hid (And.intro hw (And.intro hi (And.intro (okY_iff.1 hkw) (And.intro (okY_iff.1 hki) (And.intro hm1 (And.intro hm2 hki))))))
  clear hw hi hkw hki hm1 hm2
  go_enter Try.func8, Try.ntmps8
  go_wp2_with fail
  refine (HC.out).mono ?_
  rintro e w1 ⟨rfl, hb⟩
  have HC2 := Lib.hid (dcheckY_any (H0.out.2.1.keepY hb) four)
  rw [H0.out.2.2.2.2.2.2] at HC2
  have F1 := Lib.hid hb
  clear hb HC
  go_wp2_with fail
  refine (HC2.out).mono ?_
  rintro e w2 ⟨rfl, hb⟩
  have hb2 := bcall F1.out (Nat.le_refl _) hb
  have HO := Lib.hid (of_any (H0.out.1.keepY hb2))
  have F2 := Lib.hid hb2
  clear hb hb2 HC2 F1
  go_wp2_with fail
  refine (HO.out).mono ?_
  rintro e w3 ⟨ba, rfl, hma, -, hb⟩
  have hb3 := bcall F2.out (Nat.le_refl _) hb
  rw [firstsK_self H0.out.2.2.1.2] at hma
  have HO2 := Lib.hid (of_any (H0.out.2.1.keepY hb3))
  have F3 := Lib.hid (And.intro hb3 hma)
  clear hb hb3 hma HO F2
  go_wp2_with fail
  refine (HO2.out).mono ?_
  rintro e w4 ⟨bb, rfl, hmb, -, hb⟩
  have hb4 := bcall F3.out.1 (Nat.le_refl _) hb
  rw [firstsK_self H0.out.2.2.2.1.2] at hmb
  have hma := F3.out.2.keep hb
  have hln : wl.length ≤ 16384 := by have h1 : wn = wl.length := H0.out.1.sl.len; have := H0.out.2.2.2.2.1; omega
  have hln2 : il.length ≤ 16384 := by have h1 : jn = il.length := H0.out.2.1.sl.len; have := H0.out.2.2.2.2.2.1; omega
  have HN := Lib.hid (And.intro hln hln2)
  have HL := Lib.hid (list_any hma (by omega))
  have F4 := Lib.hid (And.intro hb4 (And.intro hma hmb))
  clear hb hb4 hma hmb HO2 F3 hln hln2
  go_wp2_with fail
  refine (HL.out).mono ?_
  rintro e w5 ⟨v5, rfl, ho5, hb⟩
  obtain ⟨⟨aa, na, ac, al⟩, rfl, hA1, hA2, -, -⟩ := Own_slok (ok := SyOk) ho5 (fun x hx => (H0.out.1.keepY (bcall F4.out.1 (Nat.le_refl _) hb)).all x ((sortK_perm wl).mem_iff.1 hx))
  dsimp only at hA1
  have hna : na = al.length := hA2.sl.len
  have hna2 : na ≤ 16384 := by rw [hna, hA1, sortK_length]; exact HN.out.1
  have F := Lib.hid (And.intro (bcall F4.out.1 (Nat.le_refl _) hb) (And.intro (F4.out.2.1.keep hb) (And.intro (F4.out.2.2.keep hb) (And.intro hA2 (And.intro hA1 hna)))))
  clear ho5 hb hA1 hA2 hna HL F4
  go_wp2_with fail
  go_loopw [10, 37] (fun gv iv wr => ∃ i : Nat, i ≤ na ∧ iv = .int .i64 i ∧ RNl.Own wr w5.heap.size gv (goV il (al.take i)) ∧ Below w5.heap.size w5 wr) (fun _ iv _ => na - (intOf iv).toNat)
  case atStart => exact ⟨0, Nat.zero_le _, rfl, Rep.Own.nil _ _, Below.refl _ _⟩
  case round =>
    obtain ⟨i, hi, rfl, hown, hb⟩ := hrel
    obtain ⟨W4, rfl⟩ : ∃ W4 : World, W4 = wr := ⟨_, rfl⟩
    obtain ⟨oc, cc, rfl, -, -⟩ := hown.sl0
    by_cases hlt : i < na
    · have hil : ((i : Int) < (na : Int)) = True := by simp; omega
      have hw3 := wrapS hlt (show na ≤ maxLen by unfold maxLen; omega)
      have hlL : i < al.length := by rw [← F.out.2.2.2.2.2]; exact hlt
      have hsl := F.out.2.2.2.1.keepY hb
      obtain ⟨b, o, ea, hbb, hat⟩ := hsl.sl.at hlt
      dsimp only at ea
      subst ea
      obtain ⟨x, hx⟩ : ∃ x, al.getD i default = x := ⟨_, rfl⟩
      dsimp only at hat
      rw [hx] at hat
      have hokx : SyOk W4 x := hsl.all x (by dsimp only; rw [← hx]; exact getD_mem hlL)
      have hlen : (goV il (al.take i)).length ≤ 16384 := by
        have h1 := goV_len il (al.take i)
        rw [List.length_take] at h1
        omega
      have hgt := goV_take (B := il) hlL hx
      have c0 := hat 0 (by decide)
      have c1 := hat 1 (by decide)
      have c2 := hat 2 (by decide)
      have c3 := hat 3 (by decide)
      have c4 := hat 4 (by decide)
      have c5 := hat 5 (by decide)
      have c6 := hat 6 (by decide)
      have c7 := hat 7 (by decide)
      simp only [RSy, Nat.add_zero, List.getElem?_cons_zero, List.getElem?_cons_succ] at c0 c1 c2 c3 c4 c5 c6 c7
      have G := Lib.hid (And.intro hown (And.intro hb (And.intro hlen (And.intro hgt (And.intro hlt (PN_ok hokx))))))
      obtain ⟨n1, hn1⟩ : ∃ n1, (goV il (al.take i)).length = n1 := ⟨_, rfl⟩
      rw [hn1]
      have HN1 := Lib.hid hn1
      clear hown hb hlen hgt hat hsl hbb hn1 hlL hx hokx hi
      go_wp2_with (with_reducible refine halt_store 35 (x := .tmp 12) rfl ?_)
      refine Halted.go ?_
      have hal := (Below.refl W4.heap.size W4).alloc (Nat.le_refl _) (.cells #[.int .u32 0, .int .i64 0, .int .i64 0, .slice none 0 0, .int .u32 0, .int .i64 0, .int .i64 0, .slice none 0 0] 35)
      refine store_whole rfl 35 _ _ rfl W4.heap.size #[.int .u32 (x.k.1 : Int), .int .i64 x.k.2, .int .i64 x.a.o, .slice x.a.p.a x.a.p.n x.a.p.c, .int .u32 x.a.nx, .int .i64 x.a.md, .int .i64 x.a.pf, .slice x.a.c.a x.a.c.n x.a.c.c] rfl rfl (hnew _ _) rfl (by kernel_rfl) (by simp [Value.oneCell']) ?_
      intro W1 hwz hsz
      have hzb : Below W4.heap.size W4 W1 := Below.trans hal (hsz.below (Nat.le_refl _))
      have H1 := Lib.hid (And.intro hzb (show BxY W4.heap.size x W1 from hwz))
      have hlk := ((F.out.2.2.1.keep G.out.2.1).keep H1.out.1).lookup (k := x.k) G.out.2.2.2.2.2 W1 rfl
      clear hwz hsz hal hzb c0 c1 c2 c3 c4 c5 c6 c7
      obtain ⟨c0, c1, c2, c3, c4, c5, c6, c7⟩ := H1.out.2.cells
      obtain ⟨hs, hhs⟩ : ∃ b, hasY il x.k = b := ⟨_, rfl⟩
      obtain ⟨ga9, hga⟩ : ∃ g, getA il x.k = g := ⟨_, rfl⟩
      rw [hhs, hga] at hlk
      have HS := Lib.hid hhs
      have HGA := Lib.hid hga
      clear hhs hga
      go_wp2_with (with_reducible refine halt_store 26 (x := .tmp 13) rfl ?_)
      refine Halted.go ?_
      have hal := (Below.refl W1.heap.size W1).alloc (Nat.le_refl _) (.cells #[.int .i64 0, .slice none 0 0, .int .u32 0, .int .i64 0, .int .i64 0, .slice none 0 0] 26)
      refine store_whole rfl 26 _ _ rfl W1.heap.size #[.int .i64 ga9.o, .slice ga9.p.a ga9.p.n ga9.p.c, .int .u32 ga9.nx, .int .i64 ga9.md, .int .i64 ga9.pf, .slice ga9.c.a ga9.c.n ga9.c.c] rfl rfl (hnew _ _) rfl (by kernel_rfl) (by simp [Value.oneCell']) ?_
      intro W2 hwz hsz
      have hzb : Below W1.heap.size W1 W2 := Below.trans hal (hsz.below (Nat.le_refl _))
      have H2 := Lib.hid (And.intro (bcall H1.out.1 (Nat.le_refl _) hzb) (And.intro (H1.out.2.keep hzb) (show BxA W1.heap.size ga9 W2 from hwz)))
      clear hwz hsz hal hzb hlk c0 c1 c2 c3 c4 c5 c6 c7
      obtain ⟨c0, c1, c2, c3, c4, c5, c6, c7⟩ := H2.out.2.1.cells
      cases hs with
      | true =>
        have hgt := G.out.2.2.2.1
        rw [show (Kl.look SyV.k il x.k).isNone = false from by obtain ⟨t, h1, -⟩ := hasY_yes HS.out; rw [h1]; rfl] at hgt
        simp only [Bool.false_eq_true, if_false, List.append_nil] at hgt
        have hfin := G.out.1.below H2.out.1
        rw [HN1.out, ← hgt] at hfin
        have HF := Lib.hid hfin
        have hlt := G.out.2.2.2.2.1
        clear hgt hfin
        go_wp2_with fail
        exact ⟨⟨i + 1, hlt, by first | rw [hw3] | rw [Int.natCast_succ], HF.out, bcall G.out.2.1 (Nat.le_refl _) H2.out.1⟩, by first | (rw [hw3]; exact mSucc hlt) | (rw [← Int.natCast_succ]; exact mSucc hlt)⟩
      | false =>
        have hgt := G.out.2.2.2.1
        rw [hasY_no HS.out] at hgt
        simp only [Option.isNone_none, if_true] at hgt
        have HGT := Lib.hid hgt
        have hlt := G.out.2.2.2.2.1
        clear hgt
        go_wp2_with (at_builtin; refine halt ?_)
        refine Halted.go ?_
        clear c0 c1 c2 c3 c4 c5 c6 c7
        have hal := (Below.refl W2.heap.size W2).alloc (Nat.le_refl _) (.cells #[.int .i64 0, .int .u32 (x.k.1 : Int), .int .i64 x.k.2] 70)
        have hbA : Below W4.heap.size W4 (W2.alloc (.cells #[.int .i64 0, .int .u32 (x.k.1 : Int), .int .i64 x.k.2] 70)) := bcall H2.out.1 (Nat.le_refl _) hal
        have hwN := G.out.1.below hbA
        rw [HN1.out] at hwN
        refine Rep.append_list TNl rfl _ _ rfl rfl hwN rfl (Rep.sl_one (R := RNl) (y := x.sy.nl) (hnew _ _)) (fun h => by cases h) (by have := G.out.2.2.1; unfold maxLen; omega) (by have := G.out.2.2.1; omega) (Nat.le_trans G.out.2.1.size hbA.size) ?_
        intro v9 V9 hown9 hb9 _
        obtain ⟨a9, c9, rfl, -, -⟩ := hown9.sl0
        rw [← HGT.out] at hown9 ⊢
        have HO := Lib.hid (And.intro hown9 ((bcall G.out.2.1 (Nat.le_refl _) hbA).trans hb9))
        generalize (goV il (al.take (i + 1))).length = n9 at *
        clear hwN hown9 hb9 hbA hal
        go_wp2_with fail
        exact ⟨⟨i + 1, hlt, by first | rw [hw3] | rw [Int.natCast_succ], HO.out⟩, by first | (rw [hw3]; exact mSucc hlt) | (rw [← Int.natCast_succ]; exact mSucc hlt)⟩
    · obtain rfl : i = na := by omega
      have hil : ((i : Int) < (i : Int)) = False := by simp
      have hown2 := hown
      rw [F.out.2.2.2.2.2, List.take_length] at hown2
      have hge : (goV il (al.take i)).length = (goV il al).length := by rw [F.out.2.2.2.2.2, List.take_length]
      rw [hge]
      have HL2 := Lib.hid (list_any (F.out.2.2.1.keep hb) (by have := HN.out.2; omega))
      obtain ⟨⟨ga, gn, gc, gl⟩, e5, hg1, hg2, hg3, -⟩ := Own_slok (ok := NlOk) hown2 (fun n hn => by
        obtain ⟨t, ht, rfl⟩ := List.mem_map.1 hn
        have := (F.out.2.2.2.1.all t (List.mem_filter.1 ht).1).k
        exact ⟨this.1, by show I64 0; unfold I64; decide, this.2⟩)
      dsimp only at e5 hg1
      rw [e5]
      have F5 := Lib.hid (And.intro (bcall F.out.1 (Nat.le_refl _) hb) (And.intro (F.out.2.1.keep hb) (And.intro hg2 hg1)))
      clear hown hown2 hb hge e5 hg1 hg2 hg3 hi
      go_wp2_with fail
      refine (HL2.out).mono ?_
      rintro e w6 ⟨v6, rfl, ho6, hb⟩
      obtain ⟨⟨ba2, nb, bc, bl⟩, rfl, hB1, hB2, -, -⟩ := Own_slok (ok := SyOk) ho6 (fun x hx => (H0.out.2.1.keepY (bcall F5.out.1 (Nat.le_refl _) hb)).all x ((sortK_perm il).mem_iff.1 hx))
      dsimp only at hB1
      have hnb : nb = bl.length := hB2.sl.len
      have hnb2 : nb ≤ 16384 := by rw [hnb, hB1, sortK_length]; exact HN.out.2
      have F6 := Lib.hid (And.intro (bcall F5.out.1 (Nat.le_refl _) hb) (And.intro (F5.out.2.1.keep hb) (And.intro (F5.out.2.2.1.keepN hb) (And.intro hB2 (And.intro hB1 hnb)))))
      clear ho6 hb hB1 hB2 hnb HL2
      go_wp2_with fail
      go_loopw [15, 60] (fun nv iv wr => ∃ k : Nat, k ≤ nb ∧ iv = .int .i64 k ∧ RSy.Own wr w6.heap.size nv (newV wl (bl.take k)) ∧ Below w6.heap.size w6 wr) (fun _ iv _ => nb - (intOf iv).toNat)
      case atStart => exact ⟨0, Nat.zero_le _, rfl, Rep.Own.nil _ _, Below.refl _ _⟩
      case round =>
        obtain ⟨k, hk, rfl, hown, hb⟩ := hrel
        obtain ⟨W5, rfl⟩ : ∃ W5 : World, W5 = wr := ⟨_, rfl⟩
        obtain ⟨nc, kc, rfl, -, -⟩ := hown.sl0
        by_cases hlt : k < nb
        · have hil : ((k : Int) < (nb : Int)) = True := by simp; omega
          have hw3 := wrapS hlt (show nb ≤ maxLen by unfold maxLen; omega)
          have hlL : k < bl.length := by rw [← F6.out.2.2.2.2.2]; exact hlt
          have hsl := F6.out.2.2.2.1.keepY hb
          obtain ⟨b, o, ea, hbb, hat⟩ := hsl.sl.at hlt
          dsimp only at ea
          subst ea
          obtain ⟨x, hx⟩ : ∃ x, bl.getD k default = x := ⟨_, rfl⟩
          dsimp only at hat
          rw [hx] at hat
          have hokx : SyOk W5 x := hsl.all x (by dsimp only; rw [← hx]; exact getD_mem hlL)
          have hlen : (newV wl (bl.take k)).length ≤ 16384 := by
            have h1 := newV_len wl (bl.take k)
            rw [List.length_take] at h1
            omega
          have hgt := newV_take (A := wl) hlL hx
          have c0 := hat 0 (by decide)
          have c1 := hat 1 (by decide)
          have c2 := hat 2 (by decide)
          have c3 := hat 3 (by decide)
          have c4 := hat 4 (by decide)
          have c5 := hat 5 (by decide)
          have c6 := hat 6 (by decide)
          have c7 := hat 7 (by decide)
          simp only [RSy, Nat.add_zero, List.getElem?_cons_zero, List.getElem?_cons_succ] at c0 c1 c2 c3 c4 c5 c6 c7
          have G := Lib.hid (And.intro hown (And.intro hb (And.intro hlen (And.intro hgt (And.intro hlt (PN_ok hokx))))))
          have HOK := Lib.hid hokx
          obtain ⟨n1, hn1⟩ : ∃ n1, (newV wl (bl.take k)).length = n1 := ⟨_, rfl⟩
          rw [hn1]
          have HN1 := Lib.hid hn1
          clear hown hb hlen hgt hat hsl hbb hn1 hlL hx hokx hk
          go_wp2_with (with_reducible refine halt_store 35 (x := .tmp 17) rfl ?_)
          refine Halted.go ?_
          have hal := (Below.refl W5.heap.size W5).alloc (Nat.le_refl _) (.cells #[.int .u32 0, .int .i64 0, .int .i64 0, .slice none 0 0, .int .u32 0, .int .i64 0, .int .i64 0, .slice none 0 0] 35)
          refine store_whole rfl 35 _ _ rfl W5.heap.size #[.int .u32 (x.k.1 : Int), .int .i64 x.k.2, .int .i64 x.a.o, .slice x.a.p.a x.a.p.n x.a.p.c, .int .u32 x.a.nx, .int .i64 x.a.md, .int .i64 x.a.pf, .slice x.a.c.a x.a.c.n x.a.c.c] rfl rfl (hnew _ _) rfl (by kernel_rfl) (by simp [Value.oneCell']) ?_
          intro W1 hwz hsz
          have hzb : Below W5.heap.size W5 W1 := Below.trans hal (hsz.below (Nat.le_refl _))
          have H1 := Lib.hid (And.intro hzb (show BxY W5.heap.size x W1 from hwz))
          have hlk := ((F6.out.2.1.keep G.out.2.1).keep H1.out.1).lookup (k := x.k) G.out.2.2.2.2.2 W1 rfl
          clear hwz hsz hal hzb c0 c1 c2 c3 c4 c5 c6 c7
          obtain ⟨c0, c1, c2, c3, c4, c5, c6, c7⟩ := H1.out.2.cells
          obtain ⟨hs, hhs⟩ : ∃ b, hasY wl x.k = b := ⟨_, rfl⟩
          obtain ⟨ga9, hga⟩ : ∃ g, getA wl x.k = g := ⟨_, rfl⟩
          rw [hhs, hga] at hlk
          have HS := Lib.hid hhs
          have HGA := Lib.hid hga
          clear hhs hga
          go_wp2_with (with_reducible refine halt_store 26 (x := .tmp 18) rfl ?_)
          refine Halted.go ?_
          have hal := (Below.refl W1.heap.size W1).alloc (Nat.le_refl _) (.cells #[.int .i64 0, .slice none 0 0, .int .u32 0, .int .i64 0, .int .i64 0, .slice none 0 0] 26)
          refine store_whole rfl 26 _ _ rfl W1.heap.size #[.int .i64 ga9.o, .slice ga9.p.a ga9.p.n ga9.p.c, .int .u32 ga9.nx, .int .i64 ga9.md, .int .i64 ga9.pf, .slice ga9.c.a ga9.c.n ga9.c.c] rfl rfl (hnew _ _) rfl (by kernel_rfl) (by simp [Value.oneCell']) ?_
          intro W2 hwz hsz
          have hzb : Below W1.heap.size W1 W2 := Below.trans hal (hsz.below (Nat.le_refl _))
          have H2 := Lib.hid (And.intro (bcall H1.out.1 (Nat.le_refl _) hzb) (And.intro (H1.out.2.keep hzb) (show BxA W1.heap.size ga9 W2 from hwz)))
          clear hwz hsz hal hzb hlk c0 c1 c2 c3 c4 c5 c6 c7
          obtain ⟨c0, c1, c2, c3, c4, c5, c6, c7⟩ := H2.out.2.1.cells
          cases hs with
          | false =>
            have hgt := G.out.2.2.2.1
            rw [show newQ wl x = true from by unfold newQ; rw [hasY_no HS.out], if_pos rfl] at hgt
            have HGT := Lib.hid hgt
            have hlt := G.out.2.2.2.2.1
            have HWB := Lib.hid H2.out.1
            clear hgt
            go_wp2_with (at_builtin; refine halt ?_)
            refine Halted.go ?_
            clear c0 c1 c2 c3 c4 c5 c6 c7
            have hal := (Below.refl W2.heap.size W2).alloc (Nat.le_refl _) (.cells #[.int .u32 (x.k.1 : Int), .int .i64 x.k.2, .int .i64 x.a.o, .slice x.a.p.a x.a.p.n x.a.p.c, .int .u32 x.a.nx, .int .i64 x.a.md, .int .i64 x.a.pf, .slice x.a.c.a x.a.c.n x.a.c.c] 35)
            have hbA : Below W5.heap.size W5 (W2.alloc (.cells #[.int .u32 (x.k.1 : Int), .int .i64 x.k.2, .int .i64 x.a.o, .slice x.a.p.a x.a.p.n x.a.p.c, .int .u32 x.a.nx, .int .i64 x.a.md, .int .i64 x.a.pf, .slice x.a.c.a x.a.c.n x.a.c.c] 35)) := bcall HWB.out (Nat.le_refl _) hal
            have hwN := G.out.1.below hbA
            rw [HN1.out] at hwN
            refine Rep.append_list TSy rfl _ _ rfl rfl hwN rfl (Rep.sl_one (R := RSy) (y := x) (hnew _ _)) (fun h => by cases h) (by have := G.out.2.2.1; unfold maxLen; omega) (by have := G.out.2.2.1; omega) (Nat.le_trans G.out.2.1.size hbA.size) ?_
            intro v9 V9 hown9 hb9 _
            obtain ⟨a9, c9, rfl, -, -⟩ := hown9.sl0
            rw [← HGT.out] at hown9 ⊢
            have HO := Lib.hid (And.intro hown9 ((bcall G.out.2.1 (Nat.le_refl _) hbA).trans hb9))
            generalize (newV wl (bl.take (k + 1))).length = n9 at *
            clear hwN hown9 hb9 hbA hal
            go_wp2_with fail
            exact ⟨⟨k + 1, hlt, by first | rw [hw3] | rw [Int.natCast_succ], HO.out⟩, by first | (rw [hw3]; exact mSucc hlt) | (rw [← Int.natCast_succ]; exact mSucc hlt)⟩
          | true =>
            have hga : AtOk W2 ga9 := by rw [← HGA.out]; exact getA_ok (fun y hy => (H0.out.1.keepY (bcall F6.out.1 (Nat.le_refl _) (bcall G.out.2.1 (Nat.le_refl _) H2.out.1))).all y hy) x.k
            have HC := Lib.hid (asame_any hga (HOK.out.a.keep H2.out.1))
            obtain ⟨bo, hbo⟩ : ∃ b, decide (ga9.at = x.a.at) = b := ⟨_, rfl⟩
            rw [hbo] at HC
            have hgt := G.out.2.2.2.1
            rw [show newQ wl x = !bo from by
              obtain ⟨t, h1, h2, -⟩ := hasY_yes HS.out
              unfold newQ
              rw [h1]
              dsimp only
              rw [← h2, HGA.out, hbo]] at hgt
            have HGT := Lib.hid hgt
            have hlt := G.out.2.2.2.2.1
            obtain ⟨d0, d1, d2, d3, d4, d5⟩ := H2.out.2.2.cells
            unfold AtV.v at HC
            clear hgt hga hbo
            go_wp2_with fail
            refine (HC.out).mono ?_
            rintro e W3 ⟨rfl, hb⟩
            have HWB := Lib.hid (bcall H2.out.1 (Nat.le_refl _) hb)
            have HBX := Lib.hid (H2.out.2.1.keep hb)
            clear hb HC c0 c1 c2 c3 c4 c5 c6 c7 d0 d1 d2 d3 d4 d5
            cases bo with
            | true =>
              have hgt := HGT.out
              simp only [Bool.not_true, Bool.false_eq_true, if_false, List.append_nil] at hgt
              have hfin := G.out.1.below HWB.out
              rw [HN1.out, ← hgt] at hfin
              have HFIN := Lib.hid hfin
              clear hgt hfin
              go_wp2_with fail
              exact ⟨⟨k + 1, hlt, by first | rw [hw3] | rw [Int.natCast_succ], HFIN.out, bcall G.out.2.1 (Nat.le_refl _) HWB.out⟩, by first | (rw [hw3]; exact mSucc hlt) | (rw [← Int.natCast_succ]; exact mSucc hlt)⟩
            | false =>
              have hgt := HGT.out
              simp only [Bool.not_false, if_true] at hgt
              have HGT2 := Lib.hid hgt
              obtain ⟨c0, c1, c2, c3, c4, c5, c6, c7⟩ := HBX.out.cells
              clear hgt
              go_wp2_with (at_builtin; refine halt ?_)
              refine Halted.go ?_
              clear c0 c1 c2 c3 c4 c5 c6 c7
              have hal := (Below.refl W3.heap.size W3).alloc (Nat.le_refl _) (.cells #[.int .u32 (x.k.1 : Int), .int .i64 x.k.2, .int .i64 x.a.o, .slice x.a.p.a x.a.p.n x.a.p.c, .int .u32 x.a.nx, .int .i64 x.a.md, .int .i64 x.a.pf, .slice x.a.c.a x.a.c.n x.a.c.c] 35)
              have hbA : Below W5.heap.size W5 (W3.alloc (.cells #[.int .u32 (x.k.1 : Int), .int .i64 x.k.2, .int .i64 x.a.o, .slice x.a.p.a x.a.p.n x.a.p.c, .int .u32 x.a.nx, .int .i64 x.a.md, .int .i64 x.a.pf, .slice x.a.c.a x.a.c.n x.a.c.c] 35)) := bcall HWB.out (Nat.le_refl _) hal
              have hwN := G.out.1.below hbA
              rw [HN1.out] at hwN
              refine Rep.append_list TSy rfl _ _ rfl rfl hwN rfl (Rep.sl_one (R := RSy) (y := x) (hnew _ _)) (fun h => by cases h) (by have := G.out.2.2.1; unfold maxLen; omega) (by have := G.out.2.2.1; omega) (Nat.le_trans G.out.2.1.size hbA.size) ?_
              intro v9 V9 hown9 hb9 _
              obtain ⟨a9, c9, rfl, -, -⟩ := hown9.sl0
              rw [← HGT2.out] at hown9 ⊢
              have HO := Lib.hid (And.intro hown9 ((bcall G.out.2.1 (Nat.le_refl _) hbA).trans hb9))
              generalize (newV wl (bl.take (k + 1))).length = n9 at *
              clear hwN hown9 hb9 hbA hal
              go_wp2_with fail
              exact ⟨⟨k + 1, hlt, by first | rw [hw3] | rw [Int.natCast_succ], HO.out⟩, by first | (rw [hw3]; exact mSucc hlt) | (rw [← Int.natCast_succ]; exact mSucc hlt)⟩
        · obtain rfl : k = nb := by omega
          have hil : ((k : Int) < (k : Int)) = False := by simp
          have hown2 := hown
          rw [F6.out.2.2.2.2.2, List.take_length] at hown2
          have hge : (newV wl (bl.take k)).length = (newV wl bl).length := by rw [F6.out.2.2.2.2.2, List.take_length]
          rw [hge]
          obtain ⟨⟨na2, nn, nc2, nl⟩, e2, hn1, hn2, -, -⟩ := Own_slok (ok := SyOk) hown2 (fun t ht => (F6.out.2.2.2.1.keepY hb).all t (List.mem_filter.1 ht).1)
          dsimp only at e2 hn1
          rw [e2]
          have hg1 := F5.out.2.2.2
          have hmemA : ∀ s ∈ al, s ∈ wl := fun s hs => (sortK_perm wl).mem_iff.1 (by rw [← F.out.2.2.2.2.1]; exact hs)
          have hmemB : ∀ s ∈ bl, s ∈ il := fun s hs => (sortK_perm il).mem_iff.1 (by rw [← F6.out.2.2.2.2.1]; exact hs)
          have hokA : ∀ s ∈ al, okS four s = true := fun s hs => H0.out.2.2.1.1 s (hmemA s hs)
          have hokB : ∀ s ∈ bl, okS four s = true := fun s hs => H0.out.2.2.2.1.1 s (hmemB s hs)
          have hlowB : ∀ s ∈ bl, LowA w.heap.size s.a := fun s hs => (H0.out.2.1.all s (hmemB s hs)).a.low
          have hgl : gl.length ≤ al.length := by rw [hg1]; exact goV_len il al
          have hnl : nl.length ≤ bl.length := by rw [hn1]; exact newV_len wl bl
          have hgn : gn ≤ 16384 := by
            have h1 : gn = gl.length := F5.out.2.2.1.sl.len
            have h4 := F.out.2.2.2.2.2
            omega
          have hnn : nn ≤ 16384 := by
            have h1 : nn = nl.length := hn2.sl.len
            have h4 := F6.out.2.2.2.2.2
            omega
          have HG := Lib.hid (dgone_any (F6.out.2.2.1.keepN hb) (fun n hn => by
            rw [hg1] at hn
            obtain ⟨t, ht, rfl⟩ := List.mem_map.1 hn
            exact okN_of (hokA t (List.mem_filter.1 ht).1)) (by omega) four)
          have HQ := Lib.hid (And.intro hn2 (And.intro (fun s (hs : s ∈ nl) => hlowB s (List.mem_filter.1 (by rw [hn1] at hs; exact hs)).1) (And.intro (fun s (hs : s ∈ nl) => hokB s (List.mem_filter.1 (by rw [hn1] at hs; exact hs)).1) (And.intro hnn (And.intro (bcall F6.out.1 (Nat.le_refl _) hb) (And.intro hgn (And.intro hn1 (And.intro (show gl.length ≤ 16384 from by have h4 := F.out.2.2.2.2.2; omega) (show nl.length ≤ 16384 from by have h4 := F6.out.2.2.2.2.2; omega)))))))))
          clear hown hown2 hge hb e2 hn2 hokA hokB hlowB hgn hnn hg1 hn1 hmemA hmemB hgl hnl hk hlt
          go_wp2_with fail
          refine (HG.out).mono ?_
          rintro e W6 ⟨v6, M1, rfl, ho6, hm6, hb6⟩
          obtain ⟨o6, k6, rfl, -, -⟩ := ho6.own.sl0
          have HC := Lib.hid (dcome_any (HQ.out.1.keepY hb6) HQ.out.2.1 HQ.out.2.2.1 (by have := HQ.out.2.2.2.1; omega))
          have F7 := Lib.hid (And.intro ho6 (And.intro hm6 hb6))
          obtain ⟨m6, hm6e⟩ : ∃ m6, M1.length = m6 := ⟨_, rfl⟩
          rw [hm6e] at F7 ⊢
          have HM6 := Lib.hid hm6e
          clear ho6 hm6 hb6 HG hm6e
          go_wp2_with fail
          refine (HC.out).mono ?_
          rintro e W7 ⟨v7, M2, rfl, ho7, hm7, hap, hb7⟩
          obtain ⟨⟨o7, k7, c7, l7⟩, rfl, hl7, hs7, -, -⟩ := ho7.slok
          dsimp only at hl7
          subst hl7
          have F8 := Lib.hid (And.intro hm7 (And.intro hap (And.intro hb7 hs7)))
          clear ho7 hm7 hap hb7 hs7 HC
          go_wp2_with (at_builtin; refine halt ?_)
          refine Halted.go ?_
          have hl1 : M1.length ≤ 16384 := by
            have h1 := congrArg List.length F7.out.2.1
            rw [List.length_map] at h1
            have h2 := goneI_len gl
            have h3 := HQ.out.2.2.2.2.2.2.2.1
            omega
          have hl2 : l7.length ≤ 16384 := by
            have h1 := congrArg List.length F8.out.1
            rw [List.length_map] at h1
            have h2 := comeI_len four nl HQ.out.2.2.1
            have h3 := HQ.out.2.2.2.2.2.2.2.2
            omega
          have hk7 : k7 = l7.length := F8.out.2.2.2.sl.len
          have hbs := HQ.out.2.2.2.2.1
          refine Rep.append_listP TUp rfl _ _ rfl rfl (F7.out.1.below F8.out.2.2.1) rfl F8.out.2.2.2.sl F8.out.2.2.2.nil (fun y hy => (F8.out.2.1 y hy).firm (fun g hg => ?_) (F8.out.2.2.2.all y hy)) (by unfold maxLen; omega) (by omega) (Nat.le_trans F7.out.2.2.size F8.out.2.2.1.size) ?_
          · have := World.ownsRow.lt F7.out.1.own g hg
            exact ⟨Nat.le_trans hbs.size this.1, this.2⟩
          intro v8 W8 hown8 hb8
          have hb68 : Below w.heap.size w W8 := (bcall (bcall hbs (Nat.le_refl _) F7.out.2.2) (Nat.le_refl _) F8.out.2.2.1).trans (hb8.mono hbs.size)
          have HFin := Lib.hid (And.intro (hown8.mono hbs.size) (And.intro (show (M1 ++ l7).map UpV.up = upsI szN (asz four) (wl.map SyV.sy) (il.map SyV.sy) from by
            have hg := goV_is' wl il
            have hn := newV_is' wl il
            rw [← F.out.2.2.2.2.1, ← F5.out.2.2.2] at hg
            rw [← F6.out.2.2.2.2.1, ← HQ.out.2.2.2.2.2.2.1] at hn
            rw [List.map_append, F7.out.2.1, F8.out.1]
            unfold upsI
            rw [← hg, ← hn, List.length_map]) hb68))
          obtain ⟨o8, k8, rfl, -, -⟩ := hown8.own.sl0
          obtain ⟨m8, hm8⟩ : ∃ m8, (M1 ++ l7).length = m8 := ⟨_, rfl⟩
          rw [hm8] at HFin ⊢
          clear hown8 hb8 hb68 hl1 hl2 hk7 hm8 hbs
          go_wp2_with fail
          go_ret2
          first | exact ⟨_, _, rfl, HFin.out⟩ | exact ⟨_, rfl, _, HFin.out⟩
end Go.Proofs.Ytadoflcomienoaa
/- Plain law: what the updates of anything that may be said are. -/
namespace Go.Proofs.Ytadoflcomienoaa
open Go.RowKit

theorem szN_5 (n : Nl) : szN n ≤ 5 := by
  unfold szN nb pb
  have h := be_length 4 n.a
  simp only [Bool.false_eq_true, if_false, List.nil_append, List.length_cons, List.length_take]
  omega
theorem chunksI_mem {α : Type} {f : List α → Nat} : ∀ {n : Nat} {l c : List α}, c ∈ chunksI f n l → ∃ k, l.drop k ≠ [] ∧ c = (l.drop k).take (f (l.drop k))
  | 0, l, c, h => by cases h
  | n + 1, [], c, h => by cases h
  | n + 1, x :: r, c, h => by
    rcases List.mem_cons.1 h with h | h
    · exact ⟨0, by simp, by simpa using h⟩
    · obtain ⟨k, h1, h2⟩ := chunksI_mem h
      refine ⟨f (x :: r) + k, ?_, ?_⟩
      · rwa [List.drop_drop] at h1
      · rwa [List.drop_drop] at h2
def okZ (four : Bool) (s : Sy) : Bool := okP s.k.1 s.k.2 && okA four s.a
theorem okY_all {four : Bool} {L : List Sy} : okY four L = true ↔ (∀ s ∈ L, okZ four s = true) ∧ (L.map Sy.k).Nodup := by
  unfold okY
  rw [Bool.and_eq_true, List.all_eq_true, decide_eq_true_eq]
  rfl
theorem okZ_nl {four : Bool} {s : Sy} (h : okZ four s = true) : okN false s.nl = true := by
  unfold okZ at h
  rw [Bool.and_eq_true] at h
  exact okN_iff.2 ⟨⟨Int.le_refl _, by show (0 : Int) ≤ 4294967295; omega, .inr rfl⟩, h.1⟩
theorem okZ_a {four : Bool} {s : Sy} (h : okZ four s = true) : okA four s.a = true := by
  unfold okZ at h
  rw [Bool.and_eq_true] at h
  exact h.2
theorem sm_ok {four : Bool} {a : At} (h : okA four a = true) : smAt a := by
  unfold okA at h
  simp only [Bool.and_eq_true, decide_eq_true_eq] at h
  refine ⟨by omega, by omega, fun s hs => ?_⟩
  have h1 := List.all_eq_true.1 h.1.2.2 s hs
  unfold okSg at h1
  simp only [Bool.and_eq_true, decide_eq_true_eq] at h1
  omega
theorem sm_zero : smAt atZ := ⟨Nat.zero_le _, Nat.zero_le _, fun s h => by cases h⟩
theorem comeI_congr {sz : Nl → Nat} {f g : At → Nat} : ∀ (n : Nat) (L : List Sy), (∀ s ∈ L, f s.a = g s.a) → comeI sz f n L = comeI sz g n L
  | 0, _, _ => by rw [show comeI sz f 0 = fun _ => [] from rfl, show comeI sz g 0 = fun _ => [] from rfl]
  | n + 1, [], _ => rfl
  | n + 1, s :: r, h => by
    unfold comeI
    rw [h s List.mem_cons_self, comeI_congr n _ fun t ht => h t (List.mem_filter.1 ht).1]
theorem mem_news {was is : List Sy} {s : Sy} (h : s ∈ newsI was is) : s ∈ is := (sortK_perm is).mem_iff.1 (List.mem_filter.1 h).1
/-- behind the updates just what is is said -/
theorem tells {four : Bool} {was is : List Sy} (hw : okY four was = true) (hi : okY four is = true) : foldF (upsI szN (asz four) was is) (lookA was) = lookA is := by
  have e : upsI szN (asz four) was is = upsI szN (fun a => min (asz four a) 2230) was is := by
    unfold upsI
    rw [comeI_congr (f := asz four) (g := fun a => min (asz four a) 2230) _ _ fun s hs => ?_]
    have := asz_le (okZ_a ((okY_all.1 hi).1 s (mem_news hs)))
    show asz four s.a = min (asz four s.a) 2230
    omega
  rw [e]
  refine ups_tell (fun x => by have := szN_5 x; omega) (fun a x => ?_) (okY_all.1 hw).2 (okY_all.1 hi).2
  have := szN_5 x
  show szN x ≤ 4073 - min (asz four a) 2230
  omega
theorem comeI_mem {four : Bool} : ∀ {n : Nat} {L : List Sy} {u : Up}, (∀ s ∈ L, okZ four s = true) → u ∈ comeI szN (asz four) n L → ∃ s ∈ L, ∃ r : List Nl, r ≠ [] ∧ (∀ x ∈ r, okN false x = true) ∧ r.length ≤ L.length ∧ u = mkR s.a (r.take (fitA szN (asz four) s.a r))
  | 0, _, _, _, h => by cases h
  | n + 1, [], _, _, h => by cases h
  | n + 1, s :: r, u, hL, h => by
    unfold comeI at h
    rcases List.mem_append.1 h with h | h
    · obtain ⟨c, hc, rfl⟩ := List.mem_map.1 h
      obtain ⟨k, h1, h2⟩ := chunksI_mem hc
      refine ⟨s, List.mem_cons_self, _, h1, fun x hx => ?_, ?_, by rw [h2]; rfl⟩
      · obtain ⟨t, ht, rfl⟩ := List.mem_map.1 (List.mem_of_mem_drop hx)
        exact okZ_nl (hL t (List.mem_filter.1 ht).1)
      · rw [List.length_drop, List.length_map]
        exact Nat.le_trans (Nat.sub_le _ _) (List.length_filter_le _ _)
    · obtain ⟨t, ht, r', h1, h2, h3, h4⟩ := comeI_mem (fun t ht => hL t (List.mem_filter.1 ht).1) h
      exact ⟨t, (List.mem_filter.1 ht).1, r', h1, h2, Nat.le_trans h3 (List.length_filter_le _ _), h4⟩
/-- each may be put -/
theorem ups_chk {four : Bool} {was is : List Sy} (hw : okY four was = true) (hi : okY four is = true) : ∀ u ∈ upsI szN (asz four) was is, chkU four u = true ∧ smAt u.a ∧ u.routes.length ≤ is.length := by
  intro u hu
  unfold upsI at hu
  rcases List.mem_append.1 hu with h | h
  · obtain ⟨c, hc, rfl⟩ := List.mem_map.1 h
    obtain ⟨k, h1, h2⟩ := chunksI_mem hc
    have hok : ∀ x ∈ (goingI was is).drop k, okN false x = true := fun x hx => by
      obtain ⟨t, ht, rfl⟩ := List.mem_map.1 (List.mem_of_mem_drop hx)
      exact okZ_nl ((okY_all.1 hw).1 t ((sortK_perm was).mem_iff.1 (List.mem_filter.1 ht).1))
    have hf := fitI_le szN ((goingI was is).drop k) 4073 1024
    refine ⟨?_, sm_zero, Nat.zero_le _⟩
    show chkU four (mkG c) = true
    rw [chkU_G (by rw [h2]; exact fun n hn => hok n (List.mem_of_mem_take hn)), Bool.and_eq_true, decide_eq_true_eq, decide_eq_true_eq]
    refine ⟨?_, by rw [h2]; exact hf.2.2⟩
    rw [h2]
    exact Nat.le_trans (List.length_take_le _ _) hf.2.1
  · have hZ : ∀ s ∈ newsI was is, okZ four s = true := fun s hs => (okY_all.1 hi).1 s (mem_news hs)
    obtain ⟨s, hs, r, h1, h2, h3, rfl⟩ := comeI_mem hZ h
    have ha := okZ_a (hZ s hs)
    have hz := asz_le ha
    have hf := fitI_le szN r (4073 - asz four s.a) 1024
    have hp := fitA_pos ha h2 h1
    have hne : r.take (fitA szN (asz four) s.a r) ≠ [] := fun e => by
      have h5 := congrArg List.length e
      rw [List.length_take, List.length_nil] at h5
      have h6 := List.length_pos_iff.2 h1
      omega
    refine ⟨?_, sm_ok ha, ?_⟩
    · show chkU four (upR (r.take (fitA szN (asz four) s.a r)) s.a) = true
      rw [chkU_R (fun n hn => h2 n (List.mem_of_mem_take hn)) ha hne, Bool.and_eq_true, decide_eq_true_eq, decide_eq_true_eq]
      refine ⟨Nat.le_trans (List.length_take_le _ _) hf.2.1, ?_⟩
      have h7 : szs szN (r.take (fitA szN (asz four) s.a r)) ≤ 4073 - asz four s.a := hf.2.2
      omega
    · show (r.take (fitA szN (asz four) s.a r)).length ≤ is.length
      refine Nat.le_trans (List.length_take_le' _ _) (Nat.le_trans h3 ?_)
      unfold newsI
      refine Nat.le_trans (List.length_filter_le _ _) ?_
      rw [sortK_length]
      exact Nat.le_refl _
end Go.Proofs.Ytadoflcomienoaa
/- Which lists of what is said, and of updates, are the same, as the reference tells. -/
namespace Go.Proofs.Ytadoflcomienoaa
open Go.RowKit

theorem El2.g0 {w0 : World} {b o c p : Nat} {x y : UpV} {W : World} (h : El2 RUp w0 b o x c p y W) : W.cell? ⟨b, o, none⟩ = some (.slice x.g.a x.g.n x.g.c) ∧ W.cell? ⟨c, p, none⟩ = some (.slice y.g.a y.g.n y.g.c) := ⟨h.l.at' 0 (by decide), h.r.at' 0 (by decide)⟩
set_option maxRecDepth 100000 in
set_option maxHeartbeats 4000000 in
theorem rsameY_any {w : World} {oa ob : Option Addr} {n c m d : Nat} {L M : List SyV} (h : SlOk RSy SyOk w ⟨oa, n, c, L⟩) (k : SlOk RSy SyOk w ⟨ob, m, d, M⟩) : Calls Try.prog 13 #[.slice oa n c, .slice ob m d] w fun e w' => e = .returned (.bool (decide (L.map SyV.sy = M.map SyV.sy))) ∧ Below w.heap.size w w' := by
  by_cases hnm : n = m
  · subst hnm
    have HL := Lib.hid (show n = L.length from h.sl.len)
    have HM := Lib.hid (show n = M.length from k.sl.len)
    have hmax : n ≤ maxLen := h.sl.max
    have F := Lib.hid (And.intro h k)
    obtain ⟨v, hv⟩ : ∃ v, decide (L.map SyV.sy = M.map SyV.sy) = v := ⟨_, rfl⟩
    rw [hv]
    have HV := Lib.hid hv
    have e0 : ((n : Int) == (n : Int)) = true := by simp
    clear h k hv
    go_enter Try.func13, Try.ntmps13
    go_wp2_with fail
    go_loopw [5] (fun iv wr => ∃ i : Nat, i ≤ n ∧ iv = .int .i64 i ∧ (∀ j, j < i → (L.map SyV.sy).getD j default = (M.map SyV.sy).getD j default) ∧ Below w.heap.size w wr) (fun iv _ => n - (intOf iv).toNat)
    case atStart => exact ⟨0, Nat.zero_le _, rfl, fun j hj => absurd hj (Nat.not_lt_zero _), Below.refl _ _⟩
    case round =>
      obtain ⟨i, hi, rfl, hall, hb⟩ := hrel
      obtain ⟨w2, rfl⟩ : ∃ w2 : World, w2 = wr := ⟨_, rfl⟩
      by_cases hlt : i < n
      · have hil : ((i : Int) < (n : Int)) = True := by simp; omega
        have hi0 : ((0 : Int) ≤ (i : Int)) = True := by simp
        have hw3 := wrapS hlt hmax
        have hk1 := F.out.1.keepY hb
        have hk2 := F.out.2.keepY hb
        obtain ⟨b0, o0, ea, hbb, hat⟩ := hk1.sl.at hlt
        obtain ⟨b1, o1, ea1, hbb1, hat1⟩ := hk2.sl.at hlt
        dsimp only at ea ea1
        subst ea
        subst ea1
        have m1 := hk1.all _ (getD_mem (i := i) (by rw [← HL.out]; exact hlt))
        have m2 := hk2.all _ (getD_mem (i := i) (by rw [← HM.out]; exact hlt))
        have hx2 : (L.map SyV.sy).getD i default = SyV.sy (L.getD i default) := by simp [List.getD_eq_getElem?_getD, List.getElem?_map, List.getElem?_eq_getElem (show i < L.length by rw [← HL.out]; exact hlt)]
        have hy2 : (M.map SyV.sy).getD i default = SyV.sy (M.getD i default) := by simp [List.getD_eq_getElem?_getD, List.getElem?_map, List.getElem?_eq_getElem (show i < M.length by rw [← HM.out]; exact hlt)]
        dsimp only at hat hat1 m1 m2
        generalize L.getD i default = x at *
        generalize M.getD i default = y at *
        have hd := (Below.refl w2.heap.size w2).drew
        have K := Lib.hid (And.intro (show El2 RSy w2 b0 (o0 + i * 8) x b1 (o1 + i * 8) y w2.drew from ⟨(ElS.begin hat hbb).keep hd, (ElS.begin hat1 hbb1).keep hd⟩) (And.intro (bcall hb (Nat.le_refl _) hd) (And.intro hall (And.intro hx2 hy2))))
        have KO := Lib.hid (And.intro (m1.keep hd) (m2.keep hd))
        clear hb hat hat1 hall hd hbb hbb1 m1 m2 hk1 hk2 hx2 hy2 hi
        have K0 := Lib.hid K.out.2.2.2
        have K1 := Lib.hid K.out.2.2.1
        by_cases hp : x.k = y.k
        · have e1 : (x.k.1 : Int) = (y.k.1 : Int) := by rw [hp]
          have e2 : x.k.2 = y.k.2 := by rw [hp]
          have HP := Lib.hid hp
          clear hp
          go_wp2_with fail
          refine wp_region_heldP (El2 RSy w2 b0 (o0 + i * 8) x b1 (o1 + i * 8) y) (by kernel_rfl) ?_
          generalize w2.drew = V at *
          have HC := Lib.hid (rasame_any KO.out.1.a KO.out.2.a)
          obtain ⟨bo, hbo⟩ : ∃ b, decide (x.a.at = y.a.at) = b := ⟨_, rfl⟩
          rw [hbo] at HC
          have HBO := Lib.hid hbo
          unfold AtV.v at HC
          clear hbo
          refine held_reads [0, 1, 2, 3, 4, 5, 6, 7, 8, 9, 10, 11, 12, 13, 14, 15, 16, 17, 18, 19, 20, 21] (g := 3) rfl (by kernel_rfl) K.out.1 (fun _ _ d _ _ h => by cases d <;> exact h) ?_
          simp only [pick, List.getD_cons_zero, List.getD_cons_succ]
          ((with_reducible refine wpRead_step (fun K hK => ?_)); go_simp; first | ((with_reducible refine hK _ ?_); clear hK K) | (apply Exists.intro; (with_reducible refine ⟨fun w' hw' => ?_, hK _ ?_⟩); (first | exact rfl | exact ⟨rfl, rfl⟩); clear hK K))
          ((with_reducible refine wpRead_step (fun K hK => ?_)); go_simp; first | ((with_reducible refine hK _ ?_); clear hK K) | (apply Exists.intro; (with_reducible refine ⟨fun w' hw' => ?_, hK _ ?_⟩); (first | exact rfl | exact ⟨rfl, rfl⟩); clear hK K))
          ((with_reducible refine wpRead_step (fun K hK => ?_)); go_simp; first | ((with_reducible refine hK _ ?_); clear hK K) | (apply Exists.intro; (with_reducible refine ⟨fun w' hw' => ?_, hK _ ?_⟩); (first | exact rfl | exact ⟨rfl, rfl⟩); clear hK K))
          ((with_reducible refine wpRead_step (fun K hK => ?_)); go_simp; first | ((with_reducible refine hK _ ?_); clear hK K) | (apply Exists.intro; (with_reducible refine ⟨fun w' hw' => ?_, hK _ ?_⟩); (first | exact rfl | exact ⟨rfl, rfl⟩); clear hK K))
          with_reducible refine wpRead_yes ?_ ?_
          rotate_left
          rfl
          intro K hK
          refine read_load 33 _ rfl b0 (o0 + i * 8) #[.int .u32 (x.k.1 : Int), .int .i64 x.k.2] rfl (fun w' hw' => hw'.l.at'.yP) Try.underlying33 rfl (by kernel_rfl) (hK _ ?_)
          clear hK K
          ((with_reducible refine wpRead_step (fun K hK => ?_)); go_simp; first | ((with_reducible refine hK _ ?_); clear hK K) | (apply Exists.intro; (with_reducible refine ⟨fun w' hw' => ?_, hK _ ?_⟩); (first | exact rfl | exact ⟨rfl, rfl⟩); clear hK K))
          ((with_reducible refine wpRead_step (fun K hK => ?_)); go_simp; first | ((with_reducible refine hK _ ?_); clear hK K) | (apply Exists.intro; (with_reducible refine ⟨fun w' hw' => ?_, hK _ ?_⟩); (first | exact rfl | exact ⟨rfl, rfl⟩); clear hK K))
          ((with_reducible refine wpRead_step (fun K hK => ?_)); go_simp; first | ((with_reducible refine hK _ ?_); clear hK K) | (apply Exists.intro; (with_reducible refine ⟨fun w' hw' => ?_, hK _ ?_⟩); (first | exact rfl | exact ⟨rfl, rfl⟩); clear hK K))
          ((with_reducible refine wpRead_step (fun K hK => ?_)); go_simp; first | ((with_reducible refine hK _ ?_); clear hK K) | (apply Exists.intro; (with_reducible refine ⟨fun w' hw' => ?_, hK _ ?_⟩); (first | exact rfl | exact ⟨rfl, rfl⟩); clear hK K))
          with_reducible refine wpRead_yes ?_ ?_
          rotate_left
          rfl
          intro K hK
          refine read_load 33 _ rfl b1 (o1 + i * 8) #[.int .u32 (y.k.1 : Int), .int .i64 y.k.2] rfl (fun w' hw' => hw'.r.at'.yP) Try.underlying33 rfl (by kernel_rfl) (hK _ ?_)
          clear hK K
          ((with_reducible refine wpRead_step (fun K hK => ?_)); go_simp; first | ((with_reducible refine hK _ ?_); clear hK K) | (apply Exists.intro; (with_reducible refine ⟨fun w' hw' => ?_, hK _ ?_⟩); (first | exact rfl | exact ⟨rfl, rfl⟩); clear hK K))
          ((with_reducible refine wpRead_step (fun K hK => ?_)); go_simp; first | ((with_reducible refine hK _ ?_); clear hK K) | (apply Exists.intro; (with_reducible refine ⟨fun w' hw' => ?_, hK _ ?_⟩); (first | exact rfl | exact ⟨rfl, rfl⟩); clear hK K))
          ((with_reducible refine wpRead_step (fun K hK => ?_)); go_simp; first | ((with_reducible refine hK _ ?_); clear hK K) | (apply Exists.intro; (with_reducible refine ⟨fun w' hw' => ?_, hK _ ?_⟩); (first | exact rfl | exact ⟨rfl, rfl⟩); clear hK K))
          ((with_reducible refine wpRead_step (fun K hK => ?_)); go_simp; first | ((with_reducible refine hK _ ?_); clear hK K) | (apply Exists.intro; (with_reducible refine ⟨fun w' hw' => ?_, hK _ ?_⟩); (first | exact rfl | exact ⟨rfl, rfl⟩); clear hK K))
          ((with_reducible refine wpRead_step (fun K hK => ?_)); go_simp; first | ((with_reducible refine hK _ ?_); clear hK K) | (apply Exists.intro; (with_reducible refine ⟨fun w' hw' => ?_, hK _ ?_⟩); (first | exact rfl | exact ⟨rfl, rfl⟩); clear hK K))
          ((with_reducible refine wpRead_step (fun K hK => ?_)); go_simp; first | ((with_reducible refine hK _ ?_); clear hK K) | (apply Exists.intro; (with_reducible refine ⟨fun w' hw' => ?_, hK _ ?_⟩); (first | exact rfl | exact ⟨rfl, rfl⟩); clear hK K))
          with_reducible refine wpRead_yes ?_ ?_
          rotate_left
          rfl
          intro K hK
          refine read_load 26 _ rfl b0 ((o0 + i * 8) + 2) #[.int .i64 x.a.o, .slice x.a.p.a x.a.p.n x.a.p.c, .int .u32 x.a.nx, .int .i64 x.a.md, .int .i64 x.a.pf, .slice x.a.c.a x.a.c.n x.a.c.c] rfl (fun w' hw' => hw'.l.at'.yA) Try.underlying26 rfl (by kernel_rfl) (hK _ ?_)
          clear hK K
          ((with_reducible refine wpRead_step (fun K hK => ?_)); go_simp; first | ((with_reducible refine hK _ ?_); clear hK K) | (apply Exists.intro; (with_reducible refine ⟨fun w' hw' => ?_, hK _ ?_⟩); (first | exact rfl | exact ⟨rfl, rfl⟩); clear hK K))
          ((with_reducible refine wpRead_step (fun K hK => ?_)); go_simp; first | ((with_reducible refine hK _ ?_); clear hK K) | (apply Exists.intro; (with_reducible refine ⟨fun w' hw' => ?_, hK _ ?_⟩); (first | exact rfl | exact ⟨rfl, rfl⟩); clear hK K))
          ((with_reducible refine wpRead_step (fun K hK => ?_)); go_simp; first | ((with_reducible refine hK _ ?_); clear hK K) | (apply Exists.intro; (with_reducible refine ⟨fun w' hw' => ?_, hK _ ?_⟩); (first | exact rfl | exact ⟨rfl, rfl⟩); clear hK K))
          ((with_reducible refine wpRead_step (fun K hK => ?_)); go_simp; first | ((with_reducible refine hK _ ?_); clear hK K) | (apply Exists.intro; (with_reducible refine ⟨fun w' hw' => ?_, hK _ ?_⟩); (first | exact rfl | exact ⟨rfl, rfl⟩); clear hK K))
          with_reducible refine wpRead_yes ?_ ?_
          rotate_left
          rfl
          intro K hK
          refine read_load 26 _ rfl b1 ((o1 + i * 8) + 2) #[.int .i64 y.a.o, .slice y.a.p.a y.a.p.n y.a.p.c, .int .u32 y.a.nx, .int .i64 y.a.md, .int .i64 y.a.pf, .slice y.a.c.a y.a.c.n y.a.c.c] rfl (fun w' hw' => hw'.r.at'.yA) Try.underlying26 rfl (by kernel_rfl) (hK _ ?_)
          clear hK K
          with_reducible refine wpRead_nil ?_
          refine held_one 22 (by kernel_rfl) ?_
          simp only [pick, List.getD_cons_zero, List.getD_cons_succ]
          go_wp2_with fail
          refine (HC.out).mono ?_
          rintro e V2 ⟨rfl, hb⟩
          have K3 := Lib.hid (And.intro (K.out.1.keep hb) (bcall K.out.2.1 (Nat.le_refl _) hb))
          clear hb HC K KO
          go_wp2_with fail
          refine ⟨K3.out.1, ?_⟩
          cases bo
          · refine held_reads [23, 24] (g := 0) rfl (by kernel_rfl) K3.out.1 (fun _ _ d _ _ h => by cases d <;> exact h) ?_
            simp only [pick, List.getD_cons_zero, List.getD_cons_succ]
            ((with_reducible refine wpRead_step (fun K hK => ?_)); go_simp; first | ((with_reducible refine hK _ ?_); clear hK K) | (apply Exists.intro; (with_reducible refine ⟨fun w' hw' => ?_, hK _ ?_⟩); (first | exact rfl | exact ⟨rfl, rfl⟩); clear hK K))
            ((with_reducible refine wpRead_step (fun K hK => ?_)); go_simp; first | ((with_reducible refine hK _ ?_); clear hK K) | (apply Exists.intro; (with_reducible refine ⟨fun w' hw' => ?_, hK _ ?_⟩); (first | exact rfl | exact ⟨rfl, rfl⟩); clear hK K))
            with_reducible refine wpRead_nil ?_
            refine wpAnyH_done (by kernel_rfl) ?_ _
            go_wp2_with fail
            go_ret
            exact ⟨ret_bool (by
              rw [← HV.out]
              refine (decide_eq_false fun h => (of_decide_eq_false HBO.out) ?_).symm
              have h4 := K0.out.1
              have h5 := K0.out.2
              rw [h, h5] at h4
              exact congrArg Sy.a h4.symm), K3.out.2⟩
          · refine held_reads [23, 24] (g := 0) rfl (by kernel_rfl) K3.out.1 (fun _ _ d _ _ h => by cases d <;> exact h) ?_
            simp only [pick, List.getD_cons_zero, List.getD_cons_succ]
            ((with_reducible refine wpRead_step (fun K hK => ?_)); go_simp; first | ((with_reducible refine hK _ ?_); clear hK K) | (apply Exists.intro; (with_reducible refine ⟨fun w' hw' => ?_, hK _ ?_⟩); (first | exact rfl | exact ⟨rfl, rfl⟩); clear hK K))
            ((with_reducible refine wpRead_step (fun K hK => ?_)); go_simp; first | ((with_reducible refine hK _ ?_); clear hK K) | (apply Exists.intro; (with_reducible refine ⟨fun w' hw' => ?_, hK _ ?_⟩); (first | exact rfl | exact ⟨rfl, rfl⟩); clear hK K))
            with_reducible refine wpRead_nil ?_
            refine wpAnyH_done (by kernel_rfl) ?_ _
            go_wp2_with fail
            exact ⟨⟨i + 1, hlt, by first | rw [hw3] | rw [Int.natCast_succ], fun j hj => (Nat.lt_succ_iff_lt_or_eq.1 hj).elim (K1.out j) (fun e => by rw [e, K0.out.1, K0.out.2]; exact by unfold SyV.sy; rw [HP.out, of_decide_eq_true HBO.out]), K3.out.2⟩, by first | (rw [hw3]; exact mSucc hlt) | (rw [← Int.natCast_succ]; exact mSucc hlt)⟩
        · have HP := Lib.hid hp
          rcases pk_ne hp with e1 | ⟨e1, e2⟩
          all_goals
            clear hp
            go_wp2_with fail
            refine wp_region_heldP (El2 RSy w2 b0 (o0 + i * 8) x b1 (o1 + i * 8) y) (by kernel_rfl) ?_
            generalize w2.drew = V at *
            refine held_reads [0, 1, 2, 3, 4, 5, 6, 7, 8, 9, 10, 11, 12, 13, 14, 15, 16, 17, 18, 19, 20, 21, 22, 23, 24] (g := 0) rfl (by kernel_rfl) K.out.1 (fun _ _ d _ _ h => by cases d <;> exact h) ?_
            simp only [pick, List.getD_cons_zero, List.getD_cons_succ]
            ((with_reducible refine wpRead_step (fun K hK => ?_)); go_simp; first | ((with_reducible refine hK _ ?_); clear hK K) | (apply Exists.intro; (with_reducible refine ⟨fun w' hw' => ?_, hK _ ?_⟩); (first | exact rfl | exact ⟨rfl, rfl⟩); clear hK K))
            ((with_reducible refine wpRead_step (fun K hK => ?_)); go_simp; first | ((with_reducible refine hK _ ?_); clear hK K) | (apply Exists.intro; (with_reducible refine ⟨fun w' hw' => ?_, hK _ ?_⟩); (first | exact rfl | exact ⟨rfl, rfl⟩); clear hK K))
            ((with_reducible refine wpRead_step (fun K hK => ?_)); go_simp; first | ((with_reducible refine hK _ ?_); clear hK K) | (apply Exists.intro; (with_reducible refine ⟨fun w' hw' => ?_, hK _ ?_⟩); (first | exact rfl | exact ⟨rfl, rfl⟩); clear hK K))
            ((with_reducible refine wpRead_step (fun K hK => ?_)); go_simp; first | ((with_reducible refine hK _ ?_); clear hK K) | (apply Exists.intro; (with_reducible refine ⟨fun w' hw' => ?_, hK _ ?_⟩); (first | exact rfl | exact ⟨rfl, rfl⟩); clear hK K))
            with_reducible refine wpRead_yes ?_ ?_
            rotate_left
            rfl
            intro K hK
            refine read_load 33 _ rfl b0 (o0 + i * 8) #[.int .u32 (x.k.1 : Int), .int .i64 x.k.2] rfl (fun w' hw' => hw'.l.at'.yP) Try.underlying33 rfl (by kernel_rfl) (hK _ ?_)
            clear hK K
            ((with_reducible refine wpRead_step (fun K hK => ?_)); go_simp; first | ((with_reducible refine hK _ ?_); clear hK K) | (apply Exists.intro; (with_reducible refine ⟨fun w' hw' => ?_, hK _ ?_⟩); (first | exact rfl | exact ⟨rfl, rfl⟩); clear hK K))
            ((with_reducible refine wpRead_step (fun K hK => ?_)); go_simp; first | ((with_reducible refine hK _ ?_); clear hK K) | (apply Exists.intro; (with_reducible refine ⟨fun w' hw' => ?_, hK _ ?_⟩); (first | exact rfl | exact ⟨rfl, rfl⟩); clear hK K))
            ((with_reducible refine wpRead_step (fun K hK => ?_)); go_simp; first | ((with_reducible refine hK _ ?_); clear hK K) | (apply Exists.intro; (with_reducible refine ⟨fun w' hw' => ?_, hK _ ?_⟩); (first | exact rfl | exact ⟨rfl, rfl⟩); clear hK K))
            ((with_reducible refine wpRead_step (fun K hK => ?_)); go_simp; first | ((with_reducible refine hK _ ?_); clear hK K) | (apply Exists.intro; (with_reducible refine ⟨fun w' hw' => ?_, hK _ ?_⟩); (first | exact rfl | exact ⟨rfl, rfl⟩); clear hK K))
            with_reducible refine wpRead_yes ?_ ?_
            rotate_left
            rfl
            intro K hK
            refine read_load 33 _ rfl b1 (o1 + i * 8) #[.int .u32 (y.k.1 : Int), .int .i64 y.k.2] rfl (fun w' hw' => hw'.r.at'.yP) Try.underlying33 rfl (by kernel_rfl) (hK _ ?_)
            clear hK K
            ((with_reducible refine wpRead_step (fun K hK => ?_)); go_simp; first | ((with_reducible refine hK _ ?_); clear hK K) | (apply Exists.intro; (with_reducible refine ⟨fun w' hw' => ?_, hK _ ?_⟩); (first | exact rfl | exact ⟨rfl, rfl⟩); clear hK K))
            ((with_reducible refine wpRead_step (fun K hK => ?_)); go_simp; first | ((with_reducible refine hK _ ?_); clear hK K) | (apply Exists.intro; (with_reducible refine ⟨fun w' hw' => ?_, hK _ ?_⟩); (first | exact rfl | exact ⟨rfl, rfl⟩); clear hK K))
            ((with_reducible refine wpRead_step (fun K hK => ?_)); go_simp; first | ((with_reducible refine hK _ ?_); clear hK K) | (apply Exists.intro; (with_reducible refine ⟨fun w' hw' => ?_, hK _ ?_⟩); (first | exact rfl | exact ⟨rfl, rfl⟩); clear hK K))
            ((with_reducible refine wpRead_step (fun K hK => ?_)); go_simp; first | ((with_reducible refine hK _ ?_); clear hK K) | (apply Exists.intro; (with_reducible refine ⟨fun w' hw' => ?_, hK _ ?_⟩); (first | exact rfl | exact ⟨rfl, rfl⟩); clear hK K))
            ((with_reducible refine wpRead_step (fun K hK => ?_)); go_simp; first | ((with_reducible refine hK _ ?_); clear hK K) | (apply Exists.intro; (with_reducible refine ⟨fun w' hw' => ?_, hK _ ?_⟩); (first | exact rfl | exact ⟨rfl, rfl⟩); clear hK K))
            ((with_reducible refine wpRead_step (fun K hK => ?_)); go_simp; first | ((with_reducible refine hK _ ?_); clear hK K) | (apply Exists.intro; (with_reducible refine ⟨fun w' hw' => ?_, hK _ ?_⟩); (first | exact rfl | exact ⟨rfl, rfl⟩); clear hK K))
            ((with_reducible refine wpRead_step (fun K hK => ?_)); go_simp; first | ((with_reducible refine hK _ ?_); clear hK K) | (apply Exists.intro; (with_reducible refine ⟨fun w' hw' => ?_, hK _ ?_⟩); (first | exact rfl | exact ⟨rfl, rfl⟩); clear hK K))
            ((with_reducible refine wpRead_step (fun K hK => ?_)); go_simp; first | ((with_reducible refine hK _ ?_); clear hK K) | (apply Exists.intro; (with_reducible refine ⟨fun w' hw' => ?_, hK _ ?_⟩); (first | exact rfl | exact ⟨rfl, rfl⟩); clear hK K))
            ((with_reducible refine wpRead_step (fun K hK => ?_)); go_simp; first | ((with_reducible refine hK _ ?_); clear hK K) | (apply Exists.intro; (with_reducible refine ⟨fun w' hw' => ?_, hK _ ?_⟩); (first | exact rfl | exact ⟨rfl, rfl⟩); clear hK K))
            ((with_reducible refine wpRead_step (fun K hK => ?_)); go_simp; first | ((with_reducible refine hK _ ?_); clear hK K) | (apply Exists.intro; (with_reducible refine ⟨fun w' hw' => ?_, hK _ ?_⟩); (first | exact rfl | exact ⟨rfl, rfl⟩); clear hK K))
            ((with_reducible refine wpRead_step (fun K hK => ?_)); go_simp; first | ((with_reducible refine hK _ ?_); clear hK K) | (apply Exists.intro; (with_reducible refine ⟨fun w' hw' => ?_, hK _ ?_⟩); (first | exact rfl | exact ⟨rfl, rfl⟩); clear hK K))
            ((with_reducible refine wpRead_step (fun K hK => ?_)); go_simp; first | ((with_reducible refine hK _ ?_); clear hK K) | (apply Exists.intro; (with_reducible refine ⟨fun w' hw' => ?_, hK _ ?_⟩); (first | exact rfl | exact ⟨rfl, rfl⟩); clear hK K))
            ((with_reducible refine wpRead_step (fun K hK => ?_)); go_simp; first | ((with_reducible refine hK _ ?_); clear hK K) | (apply Exists.intro; (with_reducible refine ⟨fun w' hw' => ?_, hK _ ?_⟩); (first | exact rfl | exact ⟨rfl, rfl⟩); clear hK K))
            ((with_reducible refine wpRead_step (fun K hK => ?_)); go_simp; first | ((with_reducible refine hK _ ?_); clear hK K) | (apply Exists.intro; (with_reducible refine ⟨fun w' hw' => ?_, hK _ ?_⟩); (first | exact rfl | exact ⟨rfl, rfl⟩); clear hK K))
            ((with_reducible refine wpRead_step (fun K hK => ?_)); go_simp; first | ((with_reducible refine hK _ ?_); clear hK K) | (apply Exists.intro; (with_reducible refine ⟨fun w' hw' => ?_, hK _ ?_⟩); (first | exact rfl | exact ⟨rfl, rfl⟩); clear hK K))
            with_reducible refine wpRead_nil ?_
            refine wpAnyH_done (by kernel_rfl) ?_ _
            go_wp2_with fail
            go_ret
            exact ⟨ret_bool (by
              rw [← HV.out]
              refine (decide_eq_false fun h => HP.out ?_).symm
              have h4 := K0.out.1
              have h5 := K0.out.2
              rw [h, h5] at h4
              exact congrArg Sy.k h4.symm), K.out.2.1⟩
      · obtain rfl : n = i := by omega
        have hil : ((n : Int) < (n : Int)) = False := by simp
        have HB := Lib.hid (And.intro hb hall)
        clear hb hall
        go_wp2_with fail
        go_ret
        exact ⟨ret_bool (by rw [← HV.out]; exact (decide_eq_true (getD_ext (by rw [List.length_map, List.length_map]; exact HL.out.symm.trans HM.out) fun j hj => HB.out.2 j (by rw [List.length_map] at hj; rw [HL.out]; exact hj))).symm), HB.out.1⟩
  · have e1 : ((n : Int) == (m : Int)) = false := by simpa using fun e : (n : Int) = m => hnm (by omega)
    have HV := Lib.hid (show decide (L.map SyV.sy = M.map SyV.sy) = false from decide_eq_false fun e => hnm (by
      have h1 := congrArg List.length e
      rw [List.length_map, List.length_map] at h1
      have h2 : n = L.length := h.sl.len
      have h3 : m = M.length := k.sl.len
      omega))
    generalize decide (L.map SyV.sy = M.map SyV.sy) = v at *
    clear h k hnm
    go_enter Try.func13, Try.ntmps13
    go_wp2_with fail
    go_ret
    exact ⟨ret_bool HV.out.symm, Below.refl _ _⟩
end Go.Proofs.Ytadoflcomienoaa
