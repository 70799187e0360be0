/- What may be said, as the program tells. -/
import Derived.Test.YtadoflcomienoaaQan
import Derived.Test.YtadoflcomienoaaQag
import Derived.Test.YtadoflcomienoaaQam
import Derived.Test.YtadoflcomienoaaQal
import Derived.Test.YtadoflcomienoaaQad
import Derived.Test.YtadoflcomienoaaQab
import Derived.Test.YtadoflcomienoaaQap
namespace Go.Proofs.Ytadoflcomienoaa
open Go.RowKit

set_option maxRecDepth 100000 in
set_option maxHeartbeats 2000000 in
theorem oddsay_any {q : Nat} {four : Bool} {w : World} (hq : BxB q four w) {y : SyV} (hy : SyOk w y) : Calls Try.prog 33 #[.agg #[.int .u32 (y.k.1 : Int), .int .i64 y.k.2, .int .i64 y.a.o, .slice y.a.p.a y.a.p.n y.a.p.c, .int .u32 y.a.nx, .int .i64 y.a.md, .int .i64 y.a.pf, .slice y.a.c.a y.a.c.n y.a.c.c], .pointer (some ⟨q, 0, none⟩)] w fun e w' => e = .returned (.bool (!okS four y)) ∧ Below w.heap.size w w' := by
  have hal := (Below.refl w.heap.size w).alloc (Nat.le_refl _) (.cells #[.int .u32 (y.k.1 : Int), .int .i64 y.k.2, .int .i64 y.a.o, .slice y.a.p.a y.a.p.n y.a.p.c, .int .u32 y.a.nx, .int .i64 y.a.md, .int .i64 y.a.pf, .slice y.a.c.a y.a.c.n y.a.c.c] 35)
  have hY : BxY w.heap.size y (w.alloc (.cells #[.int .u32 (y.k.1 : Int), .int .i64 y.k.2, .int .i64 y.a.o, .slice y.a.p.a y.a.p.n y.a.p.c, .int .u32 y.a.nx, .int .i64 y.a.md, .int .i64 y.a.pf, .slice y.a.c.a y.a.c.n y.a.c.c] 35)) := hnew _ _
  have F0 := Lib.hid (And.intro hal (And.intro (hq.keep hal) (And.intro hY (hy.keep hal))))
  have HP := Lib.hid (check_any y.k.1 y.k.2 hy.k.1)
  have d0 := F0.out.2.1.cell
  obtain ⟨c0, c1, c2, c3, c4, c5, c6, c7⟩ := hY.cells
  obtain ⟨v, hv⟩ : ∃ v, okS four y = v := ⟨_, rfl⟩
  rw [hv]
  have HV := Lib.hid (show v = (okP y.k.1 y.k.2 && okA four y.a.at) from hv.symm)
  clear hv hal hY hq hy
  obtain ⟨bp, hbp⟩ : ∃ b, okP y.k.1 y.k.2 = b := ⟨_, rfl⟩
  rw [hbp] at HP HV
  clear hbp
  unfold pfx at HP
  cases bp with
  | false =>
    go_enter Try.func33, Try.ntmps33
    go_wp2_with fail
    refine (HP.out _).mono ?_
    rintro e w1 ⟨rfl, hb⟩
    have F1 := Lib.hid (bcall F0.out.1 (by simp) hb)
    clear hb c0 c1 c2 c3 c4 c5 c6 c7 d0 F0 HP
    go_wp2_with fail
    go_ret
    exact ⟨ret_bool (by rw [HV.out]; rfl), F1.out⟩
  | true =>
    have HC := Lib.hid (fun (W : World) (h : AtOk W y.a) => acheck_any h four)
    obtain ⟨ba, hba⟩ : ∃ b, okA four y.a.at = b := ⟨_, rfl⟩
    rw [hba] at HC HV
    clear hba
    go_enter Try.func33, Try.ntmps33
    go_wp2_with fail
    refine (HP.out _).mono ?_
    rintro e w1 ⟨rfl, hb⟩
    have F1 := Lib.hid (And.intro (bcall F0.out.1 (by simp) hb) (And.intro (F0.out.2.1.keep hb) (And.intro (F0.out.2.2.1.keep hb) (F0.out.2.2.2.keep hb))))
    clear hb c0 c1 c2 c3 c4 c5 c6 c7 d0 F0 HP
    have d0 := F1.out.2.1.cell
    obtain ⟨c0, c1, c2, c3, c4, c5, c6, c7⟩ := F1.out.2.2.1.cells
    have HC2 := Lib.hid (HC.out w1 F1.out.2.2.2.a)
    unfold AtV.v at HC2
    go_wp2_with fail
    refine (HC2.out).mono ?_
    rintro e w2 ⟨rfl, hb⟩
    have F2 := Lib.hid (bcall F1.out.1 (by simp) hb)
    clear hb c0 c1 c2 c3 c4 c5 c6 c7 d0 F1 HC HC2
    cases ba
    · have e50 : (errI false 50 : Int) = 50 := rfl
      go_wp2_with fail
      go_ret
      exact ⟨ret_bool (by rw [HV.out]; rfl), F2.out⟩
    · have e50 : (errI true 50 : Int) = 0 := rfl
      go_wp2_with fail
      go_ret
      exact ⟨ret_bool (by rw [HV.out]; rfl), F2.out⟩
set_option maxRecDepth 100000 in
set_option maxHeartbeats 1000000 in
theorem idx_say {w : World} {oa : Option Addr} {n c : Nat} {L : List SyV} {P : SyV → Bool} {q : Nat} (h : RSy.Sl w oa n c L) (hc : ∀ (W : World) (y : SyV), Below w.heap.size w W → y ∈ L → Calls Try.prog 33 #[.agg #[.int .u32 (y.k.1 : Int), .int .i64 y.k.2, .int .i64 y.a.o, .slice y.a.p.a y.a.p.n y.a.p.c, .int .u32 y.a.nx, .int .i64 y.a.md, .int .i64 y.a.pf, .slice y.a.c.a y.a.c.n y.a.c.c], .pointer (some ⟨q, 0, none⟩)] W fun e w' => e = .returned (.bool (!P y)) ∧ Below W.heap.size W w') : Calls Try.prog 57 #[.slice oa n c, .func (.func 33) #[] #[.pointer (some ⟨q, 0, none⟩)]] w fun e w' => (∃ k : Int, e = .returned (.int .i64 k) ∧ decide (0 ≤ k) = !(L.all P)) ∧ Below w.heap.size w w' := by
  have HL := Lib.hid h.len
  have F := Lib.hid (And.intro h hc)
  have hmax := h.max
  clear h hc
  go_enter Try.func57, Try.ntmps57
  go_wp2_with fail
  go_loopw [8] (fun iv wr => ∃ i : Nat, i ≤ n ∧ iv = .int .i64 i ∧ (L.take i).all P = true ∧ Below w.heap.size w wr) (fun iv _ => n - (intOf iv).toNat)
  case atStart => exact ⟨0, Nat.zero_le _, rfl, rfl, Below.refl _ _⟩
  case round =>
    obtain ⟨i, hi, rfl, hall, hb⟩ := hrel
    obtain ⟨w2, rfl⟩ : ∃ w2 : World, w2 = wr := ⟨_, rfl⟩
    by_cases hlt : i < n
    · have hil : ((i : Int) < (n : Int)) = True := by simp; omega
      have hw3 := wrapS hlt hmax
      have hlen : L.length = n := HL.out.symm
      obtain ⟨b0, o0, rfl, hbb, hat⟩ := (F.out.1.keep hb).at hlt
      have c0 := hat 0 (by decide)
      have c1 := hat 1 (by decide)
      have c2 := hat 2 (by decide)
      have c3 := hat 3 (by decide)
      have c4 := hat 4 (by decide)
      have c5 := hat 5 (by decide)
      have c6 := hat 6 (by decide)
      have c7 := hat 7 (by decide)
      simp only [RSy, Nat.add_zero, List.getElem?_cons_zero, List.getElem?_cons_succ] at c0 c1 c2 c3 c4 c5 c6 c7
      have t1 := all_take_s L P i (by omega)
      rw [hall, Bool.true_and] at t1
      have hmem : L.getD i default ∈ L := getD_mem (by omega)
      have hox := F.out.2 w2 (L.getD i default) hb hmem
      generalize L.getD i default = y at *
      obtain ⟨bo, hbo⟩ : ∃ bo, P y = bo := ⟨_, rfl⟩
      rw [hbo] at hox t1
      have HX := Lib.hid hox
      have HB := Lib.hid hb
      have HT := Lib.hid (And.intro t1 (And.intro hmem hbo))
      clear hox hb hat hlen t1 hmem hall hbo
      go_wp2_with fail
      refine (HX.out).mono ?_
      rintro e W3 ⟨rfl, hb3⟩
      have HB3 := Lib.hid (bcall HB.out (Nat.le_refl _) hb3)
      clear hb3 HB c0 c1 c2 c3 c4 c5 c6 c7 HX
      cases bo with
      | true =>
        rw [Bool.not_true]
        go_wp2_with fail
        exact ⟨⟨i + 1, hlt, by first | rw [hw3] | rw [Int.natCast_succ], HT.out.1, HB3.out⟩, by first | (rw [hw3]; exact mSucc hlt) | (rw [← Int.natCast_succ]; exact mSucc hlt)⟩
      | false =>
        rw [Bool.not_false]
        go_wp2_with fail
        go_ret
        have hno : L.all P = false := by
          rw [List.all_eq_false]
          exact ⟨_, HT.out.2.1, by simp [HT.out.2.2]⟩
        exact ⟨⟨_, rfl, by rw [hno]; simp⟩, HB3.out⟩
    · obtain rfl : n = i := by omega
      have hil : ((n : Int) < (n : Int)) = False := by simp
      have HB := Lib.hid hb
      have HA := Lib.hid (show L.all P = true from by
        have := hall
        rwa [HL.out, List.take_length] at this)
      clear hb hall
      go_wp2_with fail
      go_ret
      exact ⟨⟨_, rfl, by rw [HA.out]; rfl⟩, HB.out⟩
set_option maxRecDepth 100000 in
theorem has_say {w : World} {oa : Option Addr} {n c : Nat} {L : List SyV} {P : SyV → Bool} {q : Nat} (h : RSy.Sl w oa n c L) (hc : ∀ (W : World) (y : SyV), Below w.heap.size w W → y ∈ L → Calls Try.prog 33 #[.agg #[.int .u32 (y.k.1 : Int), .int .i64 y.k.2, .int .i64 y.a.o, .slice y.a.p.a y.a.p.n y.a.p.c, .int .u32 y.a.nx, .int .i64 y.a.md, .int .i64 y.a.pf, .slice y.a.c.a y.a.c.n y.a.c.c], .pointer (some ⟨q, 0, none⟩)] W fun e w' => e = .returned (.bool (!P y)) ∧ Below W.heap.size W w') : Calls Try.prog 36 #[.slice oa n c, .func (.func 33) #[] #[.pointer (some ⟨q, 0, none⟩)]] w fun e w' => e = .returned (.bool (!(L.all P))) ∧ Below w.heap.size w w' := by
  have HK := Lib.hid (idx_say h hc)
  clear h hc
  go_enter Try.func36, Try.ntmps36
  go_wp2_with fail
  refine (HK.out).mono ?_
  rintro e w1 ⟨⟨k, rfl, hk⟩, hb⟩
  have HB := Lib.hid (And.intro hk hb)
  clear hk hb
  go_wp2_with fail
  go_ret
  exact ⟨ret_bool (by rw [← HB.out.1]), HB.out.2⟩
set_option maxRecDepth 100000 in
set_option maxHeartbeats 2000000 in
theorem dcheckY_any {w : World} {sa : Option Addr} {sn sc : Nat} {sl : List SyV} (h : SlOk RSy SyOk w ⟨sa, sn, sc, sl⟩) (four : Bool) : Calls Try.prog 20 #[.slice sa sn sc, .bool four] w fun e w' => e = .returned (.int .i64 (errI (okY four (sl.map SyV.sy)) 1)) ∧ Below w.heap.size w w' := by
  have hal := (Below.refl w.heap.size w).alloc (Nat.le_refl _) (.cells #[.bool four] 4)
  have hB : BxB w.heap.size four (w.alloc (.cells #[.bool four] 4)) := hnew _ _
  have HL := Lib.hid (show sn = sl.length from h.sl.len)
  have F0 := Lib.hid (And.intro hal (And.intro hB (h.keepY hal)))
  have HO := Lib.hid (of_any (h.keepY hal))
  obtain ⟨v, hv⟩ : ∃ v, okY four (sl.map SyV.sy) = v := ⟨_, rfl⟩
  rw [hv]
  have HV := Lib.hid (hv.symm.trans okY_is)
  clear hv hal hB h
  go_enter Try.func20, Try.ntmps20
  go_wp2_with fail
  generalize w.alloc (.cells #[.bool four] 4) = W0 at *
  refine (HO.out).mono ?_
  rintro e w1 ⟨bm, rfl, hm, hbm, hb⟩
  have hlen := hm.len w1 rfl 3
  have F1 := Lib.hid (And.intro (bcall F0.out.1 (Nat.le_refl _) hb) (And.intro (F0.out.2.1.keep hb) (F0.out.2.2.keepY hb)))
  obtain ⟨fn, hfn⟩ : ∃ n, (firstsK SyV.k sl).length = n := ⟨_, rfl⟩
  rw [hfn] at hlen
  have HFN := Lib.hid hfn
  clear hm hbm hb F0 HO hfn
  by_cases hnd : (sl.map SyV.k).Nodup
  · have hlt : ((fn : Int) < (sn : Int)) = False := by
      have h1 : ¬ (firstsK SyV.k sl).length < sl.length := fun h => firstsK_len.1 h hnd
      have h2 := HFN.out
      have h3 := HL.out
      simp
      omega
    have HS := Lib.hid (has_say (c := sc) (P := okS four) F1.out.2.2.sl (fun W y hb hy => oddsay_any (F1.out.2.1.keep hb) ((F1.out.2.2.all y hy).keep hb)))
    rw [decide_eq_true hnd, Bool.and_true] at HV
    obtain ⟨ba, hba⟩ : ∃ b, sl.all (okS four) = b := ⟨_, rfl⟩
    rw [hba] at HS HV
    clear hba hnd
    go_wp2_with fail
    refine (HS.out).mono ?_
    rintro e w2 ⟨rfl, hb⟩
    have F2 := Lib.hid (bcall F1.out.1 (Nat.le_refl _) hb)
    clear hb hlen hlt F1 HS
    cases ba
    · go_wp2_with fail
      go_ret
      exact ⟨ret_int (by rw [HV.out]; rfl), F2.out⟩
    · go_wp2_with fail
      go_ret
      exact ⟨ret_int (by rw [HV.out]; rfl), F2.out⟩
  · have hlt : ((fn : Int) < (sn : Int)) = True := by
      have h1 := firstsK_len.2 hnd
      have h2 := HFN.out
      have h3 := HL.out
      simp
      omega
    rw [decide_eq_false hnd, Bool.and_false] at HV
    clear hnd
    go_wp2_with fail
    go_ret
    exact ⟨ret_int (by rw [HV.out]; rfl), F1.out.1⟩
end Go.Proofs.Ytadoflcomienoaa
/- The reference's Sort of what is said. -/
namespace Go.Proofs.Ytadoflcomienoaa
open Go.RowKit

structure SrY (w : World) (b o : Nat) (x : SyV) (g og : Nat) (z : SyV) (W : World) : Prop where
  s : ElS RSy w b o x W
  at' : RSy.At W g og z
theorem SrY.keep {w : World} {b o : Nat} {x : SyV} {g og : Nat} {z : SyV} {W W' : World} (h : SrY w b o x g og z W) (hb : Below W.heap.size W W') (hl : g < W.heap.size) : SrY w b o x g og z W' := ⟨h.s.keep hb, h.at'.keep (hb.block _ hl)⟩
theorem ins_at {sl out : List SyV} {i k : Nat} {x : SyV} (ho : out = sortK SyV.k (sl.take i)) (hi : i < sl.length) (hx : sl.getD i default = x) (hlow : ∀ a, a < k → ltK (out.getD a default).k x.k = true) (hk : k ≤ out.length) (hup : k < out.length → ltK (out.getD k default).k x.k = false) : out.take k ++ [x] ++ out.drop k = sortK SyV.k (sl.take (i + 1)) := by
  rw [sortK_take hi, ← ho]
  have hxe : sl[i] = x := by rw [← hx, List.getD_eq_getElem?_getD, List.getElem?_eq_getElem hi, Option.getD_some]
  rw [hxe]
  refine (insK_take (fun a h h' => ?_) hk fun h => ?_).symm
  · have := hlow a h
    rwa [List.getD_eq_getElem?_getD, List.getElem?_eq_getElem h', Option.getD_some] at this
  · have := hup h
    rwa [List.getD_eq_getElem?_getD, List.getElem?_eq_getElem h, Option.getD_some] at this
set_option maxRecDepth 100000 in
set_option maxHeartbeats 16000000 in
theorem rsortY_any {w : World} {oa : Option Addr} {n c : Nat} {L : List SyV} (h : RSy.Sl w oa n c L) (hmx : n ≤ 16384) : Calls Try.prog 14 #[.slice oa n c] w fun e w' => ∃ v, e = .returned v ∧ RSy.Own w' w.heap.size v (sortK SyV.k L) ∧ Below w.heap.size w w' := by
  have F := Lib.hid (And.intro h h.len)
  clear h
  go_enter Try.func14, Try.ntmps14
  go_wp2_with fail
  go_loopw [3, 4] (fun ov iv wr => ∃ (i : Nat) (out : List SyV), i ≤ n ∧ iv = .int .i64 i ∧ RSy.Own wr w.heap.size ov out ∧ out = sortK SyV.k (L.take i) ∧ Below w.heap.size w wr) (fun _ iv _ => n - (intOf iv).toNat)
  case atStart => exact ⟨0, [], Nat.zero_le _, rfl, Rep.Own.nil _ _, rfl, Below.refl _ _⟩
  case round =>
    obtain ⟨i, out, hi, rfl, hown, hst, hb⟩ := hrel
    obtain ⟨w2, rfl⟩ : ∃ w2 : World, w2 = wr := ⟨_, rfl⟩
    obtain ⟨oc, cc, rfl, hsl, hn0⟩ := hown.sl0
    by_cases hlt : i < n
    · have hil : ((i : Int) < (n : Int)) = True := by simp; omega
      have hi0 : ((0 : Int) ≤ (i : Int)) = True := by simp
      have hwi := wrapS hlt (show n ≤ maxLen by unfold maxLen; omega)
      obtain ⟨b, o, rfl, hbb, hat⟩ := (F.out.1.keep hb).at hlt
      obtain ⟨x, hx⟩ : ∃ x, L.getD i default = x := ⟨_, rfl⟩
      rw [hx] at hat
      have hS : ElS RSy w2 b (o + i * 8) x w2 := ElS.begin hat hbb
      have hnc : ∃ m, out.length = m ∧ m ≤ cc := by
        rcases hown.cases with ⟨e1, e2⟩ | ⟨g, cap, e1, h1, h2, h3, -⟩
        · injection e1 with e3 e4 e5
          exact ⟨0, by rw [e2]; rfl, Nat.zero_le _⟩
        · injection e1 with e3 e4 e5
          exact ⟨_, rfl, by rw [e5]; exact h3⟩
      obtain ⟨m, hm, hmc⟩ := hnc
      have hmm : m ≤ 16384 := by
        rw [← hm, hst, sortK_length, List.length_take]
        omega
      rw [hm] at hown hsl ⊢
      have hil2 : i < L.length := by have := F.out.2; omega
      have G := Lib.hid (And.intro hown (And.intro hst (And.intro hil2 (And.intro hx (And.intro hm (And.intro hmc hn0))))))
      have GW := Lib.hid (And.intro hS hsl)
      have HJ := Lib.hid (And.intro hlt (And.intro hwi hb))
      clear hown hst hil2 hx hm hmc hn0 hS hsl hlt hat hbb hb hi
      go_wp2_with fail
      go_loopw [5] (fun kv wr => ∃ k : Nat, k ≤ m ∧ kv = .int .i64 k ∧ (∀ a, a < k → ltK (out.getD a default).k x.k = true) ∧ Below w2.heap.size w2 wr) (fun kv _ => m - (intOf kv).toNat)
      case atStart => exact ⟨0, Nat.zero_le _, rfl, fun a ha => absurd ha (Nat.not_lt_zero _), Below.refl _ _⟩
      case round =>
        obtain ⟨k, hk, rfl, hlow, hb⟩ := hrel
        obtain ⟨w5, rfl⟩ : ∃ w5 : World, w5 = wr := ⟨_, rfl⟩
        have hk0 : ((0 : Int) ≤ (k : Int)) = True := by simp
        by_cases hkm : k < m
        · have hkt : ((k : Int) < (m : Int)) = True := by simp; omega
          have hwk := wrapS hkm (show m ≤ maxLen by unfold maxLen; omega)
          obtain ⟨g, og, e, hgl, hat⟩ := GW.out.2.at hkm
          subst e
          obtain ⟨z, hz⟩ : ∃ z, out.getD k default = z := ⟨_, rfl⟩
          rw [hz] at hat
          have hd := (Below.refl w5.heap.size w5).drew
          have K := Lib.hid (And.intro (show SrY w2 b (o + i * 8) x g (og + k * 8) z w5.drew from SrY.keep ⟨GW.out.1.keep hb, hat.keep (hb.block _ hgl)⟩ hd (Nat.lt_of_lt_of_le hgl hb.size)) (show Below w2.heap.size w2 w5.drew from bcall hb (Nat.le_refl _) hd))
          have HF := Lib.hid (And.intro hlow (And.intro hz (And.intro hgl hkm)))
          have HC := Lib.hid (rcompare_any z.k.1 z.k.2 x.k.1 x.k.2)
          have hcl := @cmpK_lt z.k x.k
          unfold cmpK at hcl
          generalize cmpP z.k.1 z.k.2 x.k.1 x.k.2 = cv at *
          unfold pfx at HC
          clear hb hlow hz hat hd hgl
          go_wp2_with fail
          refine wp_region_heldP (SrY w2 b (o + i * 8) x g (og + k * 8) z) (by kernel_rfl) ?_
          generalize w5.drew = V at *
          refine held_reads [0, 1, 2, 3, 4, 5, 6, 7, 8, 9, 10, 11, 12, 13, 14] (g := 3) rfl (by kernel_rfl) K.out.1 (fun _ _ d _ _ h => by cases d <;> exact h) ?_
          simp only [pick, List.getD_cons_zero, List.getD_cons_succ]
          ((with_reducible refine wpRead_step (fun K hK => ?_)); go_simp; first | ((with_reducible refine hK _ ?_); clear hK K) | (apply Exists.intro; (with_reducible refine ⟨fun w' hw' => ?_, hK _ ?_⟩); (first | exact rfl | exact ⟨rfl, rfl⟩); clear hK K))
          ((with_reducible refine wpRead_step (fun K hK => ?_)); go_simp; first | ((with_reducible refine hK _ ?_); clear hK K) | (apply Exists.intro; (with_reducible refine ⟨fun w' hw' => ?_, hK _ ?_⟩); (first | exact rfl | exact ⟨rfl, rfl⟩); clear hK K))
          ((with_reducible refine wpRead_step (fun K hK => ?_)); go_simp; first | ((with_reducible refine hK _ ?_); clear hK K) | (apply Exists.intro; (with_reducible refine ⟨fun w' hw' => ?_, hK _ ?_⟩); (first | exact rfl | exact ⟨rfl, rfl⟩); clear hK K))
          ((with_reducible refine wpRead_step (fun K hK => ?_)); go_simp; first | ((with_reducible refine hK _ ?_); clear hK K) | (apply Exists.intro; (with_reducible refine ⟨fun w' hw' => ?_, hK _ ?_⟩); (first | exact rfl | exact ⟨rfl, rfl⟩); clear hK K))
          ((with_reducible refine wpRead_step (fun K hK => ?_)); go_simp; first | ((with_reducible refine hK _ ?_); clear hK K) | (apply Exists.intro; (with_reducible refine ⟨fun w' hw' => ?_, hK _ ?_⟩); (first | exact rfl | exact ⟨rfl, rfl⟩); clear hK K))
          ((with_reducible refine wpRead_step (fun K hK => ?_)); go_simp; first | ((with_reducible refine hK _ ?_); clear hK K) | (apply Exists.intro; (with_reducible refine ⟨fun w' hw' => ?_, hK _ ?_⟩); (first | exact rfl | exact ⟨rfl, rfl⟩); clear hK K))
          ((with_reducible refine wpRead_step (fun K hK => ?_)); go_simp; first | ((with_reducible refine hK _ ?_); clear hK K) | (apply Exists.intro; (with_reducible refine ⟨fun w' hw' => ?_, hK _ ?_⟩); (first | exact rfl | exact ⟨rfl, rfl⟩); clear hK K))
          ((with_reducible refine wpRead_step (fun K hK => ?_)); go_simp; first | ((with_reducible refine hK _ ?_); clear hK K) | (apply Exists.intro; (with_reducible refine ⟨fun w' hw' => ?_, hK _ ?_⟩); (first | exact rfl | exact ⟨rfl, rfl⟩); clear hK K))
          ((with_reducible refine wpRead_step (fun K hK => ?_)); go_simp; first | ((with_reducible refine hK _ ?_); clear hK K) | (apply Exists.intro; (with_reducible refine ⟨fun w' hw' => ?_, hK _ ?_⟩); (first | exact rfl | exact ⟨rfl, rfl⟩); clear hK K))
          with_reducible refine wpRead_yes ?_ ?_
          rotate_left
          rfl
          intro K hK
          refine read_load 33 _ rfl g (og + k * 8) #[.int .u32 (z.k.1 : Int), .int .i64 z.k.2] rfl (fun w' hw' => hw'.at'.yP) Try.underlying33 rfl (by kernel_rfl) (hK _ ?_)
          clear hK K
          ((with_reducible refine wpRead_step (fun K hK => ?_)); go_simp; first | ((with_reducible refine hK _ ?_); clear hK K) | (apply Exists.intro; (with_reducible refine ⟨fun w' hw' => ?_, hK _ ?_⟩); (first | exact rfl | exact ⟨rfl, rfl⟩); clear hK K))
          ((with_reducible refine wpRead_step (fun K hK => ?_)); go_simp; first | ((with_reducible refine hK _ ?_); clear hK K) | (apply Exists.intro; (with_reducible refine ⟨fun w' hw' => ?_, hK _ ?_⟩); (first | exact rfl | exact ⟨rfl, rfl⟩); clear hK K))
          ((with_reducible refine wpRead_step (fun K hK => ?_)); go_simp; first | ((with_reducible refine hK _ ?_); clear hK K) | (apply Exists.intro; (with_reducible refine ⟨fun w' hw' => ?_, hK _ ?_⟩); (first | exact rfl | exact ⟨rfl, rfl⟩); clear hK K))
          ((with_reducible refine wpRead_step (fun K hK => ?_)); go_simp; first | ((with_reducible refine hK _ ?_); clear hK K) | (apply Exists.intro; (with_reducible refine ⟨fun w' hw' => ?_, hK _ ?_⟩); (first | exact rfl | exact ⟨rfl, rfl⟩); clear hK K))
          with_reducible refine wpRead_yes ?_ ?_
          rotate_left
          rfl
          intro K hK
          refine read_load 33 _ rfl b (o + i * 8) #[.int .u32 (x.k.1 : Int), .int .i64 x.k.2] rfl (fun w' hw' => hw'.s.at'.yP) Try.underlying33 rfl (by kernel_rfl) (hK _ ?_)
          clear hK K
          with_reducible refine wpRead_nil ?_
          refine held_one 15 (by kernel_rfl) ?_
          simp only [pick, List.getD_cons_zero, List.getD_cons_succ]
          go_wp2_with fail
          refine (HC.out _).mono ?_
          rintro e V2 ⟨rfl, hb⟩
          have K3 := Lib.hid (And.intro (SrY.keep K.out.1 hb (Nat.lt_of_lt_of_le HF.out.2.2.1 K.out.2.size)) (bcall K.out.2 (Nat.le_refl _) hb))
          clear hb
          go_wp2_with fail
          refine ⟨K3.out.1, ?_⟩
          cases hlz : ltK z.k x.k with
          | true =>
            have hcv : (cv < 0) = True := eq_true (hcl.2 hlz)
            have HN := Lib.hid (show ∀ a, a < k + 1 → ltK (out.getD a default).k x.k = true from fun a ha => by
              by_cases e : a = k
              · rw [e, HF.out.2.1]; exact hlz
              · exact HF.out.1 a (by omega))
            clear hcl hlz
            refine held_reads [16, 17] (g := 0) rfl (by kernel_rfl) K3.out.1 (fun _ _ d _ _ h => by cases d <;> exact h) ?_
            simp only [pick, List.getD_cons_zero, List.getD_cons_succ]
            ((with_reducible refine wpRead_step (fun K hK => ?_)); go_simp; first | ((with_reducible refine hK _ ?_); clear hK K) | (apply Exists.intro; (with_reducible refine ⟨fun w' hw' => ?_, hK _ ?_⟩); (first | exact rfl | exact ⟨rfl, rfl⟩); clear hK K))
            ((with_reducible refine wpRead_step (fun K hK => ?_)); go_simp; first | ((with_reducible refine hK _ ?_); clear hK K) | (apply Exists.intro; (with_reducible refine ⟨fun w' hw' => ?_, hK _ ?_⟩); (first | exact rfl | exact ⟨rfl, rfl⟩); clear hK K))
            with_reducible refine wpRead_nil ?_
            refine wpAnyH_done (by kernel_rfl) ?_ _
            go_wp2_with fail
            exact ⟨⟨k + 1, hkm, by first | rw [hwk] | rw [Int.natCast_succ], HN.out, K3.out.2⟩, by first | (rw [hwk]; exact mSucc hkm) | (rw [← Int.natCast_succ]; exact mSucc hkm)⟩
          | false =>
            have hcv : (cv < 0) = False := eq_false (fun h => by rw [hcl.1 h] at hlz; cases hlz)
            have HZ := Lib.hid hlz
            clear hcl hlz
            refine held_reads [16, 17] (g := 0) rfl (by kernel_rfl) K3.out.1 (fun _ _ d _ _ h => by cases d <;> exact h) ?_
            simp only [pick, List.getD_cons_zero, List.getD_cons_succ]
            ((with_reducible refine wpRead_step (fun K hK => ?_)); go_simp; first | ((with_reducible refine hK _ ?_); clear hK K) | (apply Exists.intro; (with_reducible refine ⟨fun w' hw' => ?_, hK _ ?_⟩); (first | exact rfl | exact ⟨rfl, rfl⟩); clear hK K))
            ((with_reducible refine wpRead_step (fun K hK => ?_)); go_simp; first | ((with_reducible refine hK _ ?_); clear hK K) | (apply Exists.intro; (with_reducible refine ⟨fun w' hw' => ?_, hK _ ?_⟩); (first | exact rfl | exact ⟨rfl, rfl⟩); clear hK K))
            with_reducible refine wpRead_nil ?_
            refine wpAnyH_done (by kernel_rfl) ?_ _
            have KW := Lib.hid (And.intro K3.out.1.s (And.intro (G.out.1.below K3.out.2) (And.intro K3.out.2 (GW.out.2.keep K3.out.2))))
            have HLO := Lib.hid HF.out.1
            have HUP := Lib.hid (show k < out.length → ltK (out.getD k default).k x.k = false from fun _ => by rw [HF.out.2.1]; exact HZ.out)
            have hkle : k ≤ m := Nat.le_of_lt hkm
            clear K3 K HF HZ
            obtain ⟨sa, hr1, hr2, hst, hsn, -⟩ := Rep.cut_from TSy KW.out.2.2.2 G.out.2.2.2.2.2.1 G.out.2.2.2.2.2.2 (i := k) hkle
            obtain ⟨sk, hq1, hq2, hsk⟩ := Rep.cut_kk TSy KW.out.2.2.2 G.out.2.2.2.2.2.1 (i := k) hkle
            have hal0 := (Below.refl V2.heap.size V2).alloc (Nat.le_refl _) (.cells #[] 35)
            have hem : RSy.Own (V2.alloc (.cells #[] 35)) V2.heap.size (.slice (some ⟨V2.heap.size, 0, none⟩) 0 0) ([] : List SyV) := Rep.own_empty (hnew _ _) (Nat.le_refl _)
            have N1 := Lib.hid (And.intro hal0 (And.intro hem (And.intro (hst.keep hal0) (And.intro hsn hsk))))
            have HQQ := Lib.hid (And.intro hq1 hq2)
            clear hal0 hem hst hsn hsk hq1 hq2
            go_wp2_with (at_builtin; refine halt ?_)
            refine Halted.go ?_
            clear hr1 hr2
            generalize V2.alloc (.cells #[] 35) = V8 at *
            refine Rep.append_list TSy rfl _ _ rfl rfl N1.out.2.1 (L := []) (M := out.drop k) rfl N1.out.2.2.1 N1.out.2.2.2.1 (by rw [List.length_nil]; unfold maxLen; omega) (by rw [List.length_nil]; omega) N1.out.1.size ?_
            intro v9 V9 hown9 hb9 _
            rw [List.nil_append] at hown9
            obtain ⟨a9, c9, rfl, hsl9, hn9⟩ := hown9.sl0
            have hl9 : (out.drop k).length = m - k := by rw [List.length_drop, G.out.2.2.2.2.1]
            rw [hl9] at hsl9 ⊢
            have hb79 := N1.out.1.trans hb9
            have N2 := Lib.hid (And.intro (KW.out.1.keep hb79) (And.intro (N1.out.2.2.2.2.keep hb79) (And.intro hsl9 (And.intro hn9 (bcall KW.out.2.2.1 (Nat.le_refl _) hb79)))))
            clear hown9 hb9 hsl9 hn9 hl9 hb79 N1 KW
            obtain ⟨hq1, hq2⟩ := HQQ.out
            go_wp2_with fail
            refine wp_region_heldP (ElS RSy w2 b (o + i * 8) x) (by kernel_rfl) ?_
            have hd := (Below.refl V9.heap.size V9).drew
            have N3 := Lib.hid (And.intro (N2.out.1.keep hd) (And.intro (N2.out.2.1.keep hd) (And.intro (N2.out.2.2.1.keep hd) (And.intro N2.out.2.2.2.1 (bcall N2.out.2.2.2.2 (Nat.le_refl _) hd)))))
            clear hd N2
            generalize V9.drew = V10 at *
            refine held_reads [0, 1, 2, 3, 4, 5, 6, 7, 10] (g := 4) rfl (by kernel_rfl) N3.out.1 (fun _ _ d _ _ h => by cases d <;> exact h) ?_
            simp only [pick, List.getD_cons_zero, List.getD_cons_succ]
            ((with_reducible refine wpRead_step (fun K hK => ?_)); go_simp; first | ((with_reducible refine hK _ ?_); clear hK K) | (apply Exists.intro; (with_reducible refine ⟨fun w' hw' => ?_, hK _ ?_⟩); (first | exact rfl | exact ⟨rfl, rfl⟩); clear hK K))
            ((with_reducible refine wpRead_step (fun K hK => ?_)); go_simp; first | ((with_reducible refine hK _ ?_); clear hK K) | (apply Exists.intro; (with_reducible refine ⟨fun w' hw' => ?_, hK _ ?_⟩); (first | exact rfl | exact ⟨rfl, rfl⟩); clear hK K))
            ((with_reducible refine wpRead_step (fun K hK => ?_)); go_simp; first | ((with_reducible refine hK _ ?_); clear hK K) | (apply Exists.intro; (with_reducible refine ⟨fun w' hw' => ?_, hK _ ?_⟩); (first | exact rfl | exact ⟨rfl, rfl⟩); clear hK K))
            ((with_reducible refine wpRead_step (fun K hK => ?_)); go_simp; first | ((with_reducible refine hK _ ?_); clear hK K) | (apply Exists.intro; (with_reducible refine ⟨fun w' hw' => ?_, hK _ ?_⟩); (first | exact rfl | exact ⟨rfl, rfl⟩); clear hK K))
            ((with_reducible refine wpRead_step (fun K hK => ?_)); go_simp; first | ((with_reducible refine hK _ ?_); clear hK K) | (apply Exists.intro; (with_reducible refine ⟨fun w' hw' => ?_, hK _ ?_⟩); (first | exact rfl | exact ⟨rfl, rfl⟩); clear hK K))
            ((with_reducible refine wpRead_step (fun K hK => ?_)); go_simp; first | ((with_reducible refine hK _ ?_); clear hK K) | (apply Exists.intro; (with_reducible refine ⟨fun w' hw' => ?_, hK _ ?_⟩); (first | exact rfl | exact ⟨rfl, rfl⟩); clear hK K))
            ((with_reducible refine wpRead_step (fun K hK => ?_)); go_simp; first | ((with_reducible refine hK _ ?_); clear hK K) | (apply Exists.intro; (with_reducible refine ⟨fun w' hw' => ?_, hK _ ?_⟩); (first | exact rfl | exact ⟨rfl, rfl⟩); clear hK K))
            with_reducible refine wpRead_yes ?_ ?_
            rotate_left
            rfl
            intro K hK
            refine read_load 35 _ rfl b (o + i * 8) #[.int .u32 (x.k.1 : Int), .int .i64 x.k.2, .int .i64 x.a.o, .slice x.a.p.a x.a.p.n x.a.p.c, .int .u32 x.a.nx, .int .i64 x.a.md, .int .i64 x.a.pf, .slice x.a.c.a x.a.c.n x.a.c.c] rfl (fun w' hw' => hw'.at'.range) Try.underlying35 rfl (by kernel_rfl) (hK _ ?_)
            clear hK K
            ((with_reducible refine wpRead_step (fun K hK => ?_)); go_simp; first | ((with_reducible refine hK _ ?_); clear hK K) | (apply Exists.intro; (with_reducible refine ⟨fun w' hw' => ?_, hK _ ?_⟩); (first | exact rfl | exact ⟨rfl, rfl⟩); clear hK K))
            with_reducible refine wpRead_nil ?_
            clear hq1 hq2
            refine held_one 8 (by kernel_rfl) ?_
            simp only [pick, List.getD_cons_zero, List.getD_cons_succ]
            have hal := (Below.refl V10.heap.size V10).alloc (Nat.le_refl _) (.cells #[.int .u32 (x.k.1 : Int), .int .i64 x.k.2, .int .i64 x.a.o, .slice x.a.p.a x.a.p.n x.a.p.c, .int .u32 x.a.nx, .int .i64 x.a.md, .int .i64 x.a.pf, .slice x.a.c.a x.a.c.n x.a.c.c] 35)
            have hone : RSy.Sl (V10.alloc (.cells #[.int .u32 (x.k.1 : Int), .int .i64 x.k.2, .int .i64 x.a.o, .slice x.a.p.a x.a.p.n x.a.p.c, .int .u32 x.a.nx, .int .i64 x.a.md, .int .i64 x.a.pf, .slice x.a.c.a x.a.c.n x.a.c.c] 35)) (some ⟨V10.heap.size, 0, none⟩) 1 1 [x] := Rep.sl_one (R := RSy) (y := x) (hnew _ _)
            have N4 := Lib.hid (And.intro (N3.out.1.keep hal) (And.intro (N3.out.2.1.keep hal) (And.intro (N3.out.2.2.1.keep hal) (And.intro N3.out.2.2.2.1 (And.intro hone (bcall N3.out.2.2.2.2 (Nat.le_refl _) hal))))))
            clear hal hone N3
            go_wp2_with fail
            refine ⟨N4.out.1, ?_⟩
            generalize V10.alloc (.cells #[.int .u32 (x.k.1 : Int), .int .i64 x.k.2, .int .i64 x.a.o, .slice x.a.p.a x.a.p.n x.a.p.c, .int .u32 x.a.nx, .int .i64 x.a.md, .int .i64 x.a.pf, .slice x.a.c.a x.a.c.n x.a.c.c] 35) = V11 at *
            generalize V10.heap.size = q11 at *
            refine held_one 9 (by kernel_rfl) ?_
            simp only [pick, List.getD_cons_zero, List.getD_cons_succ]
            go_wp2_with (at_builtin; refine halt ?_)
            refine Halted.go ?_
            refine Rep.append_cut TSy rfl _ _ rfl rfl N4.out.2.1 rfl N4.out.2.2.2.2.1 (by omega) (by unfold maxLen; omega) (by omega) ?_
            intro v12 V12 hown12 hb12
            have N5 := Lib.hid (And.intro hb12 (And.intro (N4.out.2.2.1.keep hb12) hown12))
            clear hown12 hb12
            go_wp2_with fail
            refine ⟨N4.out.1.keep N5.out.1, ?_⟩
            refine held_one 11 (by kernel_rfl) ?_
            simp only [pick, List.getD_cons_zero, List.getD_cons_succ]
            go_wp2_with (at_builtin; refine halt ?_)
            refine Halted.go ?_
            have hlt : (out.take k ++ [x]).length = k + 1 := by have := G.out.2.2.2.2.1; rw [List.length_append, List.length_take, this, List.length_singleton]; omega
            refine Rep.append_list TSy rfl _ _ rfl rfl N5.out.2.2 rfl N5.out.2.1 N4.out.2.2.2.1 (by rw [hlt]; unfold maxLen; omega) (by rw [hlt]; omega) N5.out.1.size ?_
            intro v13 V13 hown13 hb13 _
            have HIN := Lib.hid (ins_at G.out.2.1 G.out.2.2.1 G.out.2.2.2.1 HLO.out (by rw [G.out.2.2.2.2.1]; exact hkle) HUP.out)
            have hb13' := N5.out.1.trans hb13
            have N6 := Lib.hid (And.intro (N4.out.1.keep hb13') (And.intro (hown13.mono (Nat.le_trans HJ.out.2.2.size N4.out.2.2.2.2.2.size)) (bcall HJ.out.2.2 (Nat.le_refl _) (bcall N4.out.2.2.2.2.2 (Nat.le_refl _) hb13'))))
            clear hlt hown13 hb13 hb13' N5 N4
            go_wp2_with fail
            refine ⟨N6.out.1, ?_⟩
            refine held_one 12 (by kernel_rfl) ?_
            simp only [pick, List.getD_cons_zero, List.getD_cons_succ]
            go_wp2_with fail
            refine ⟨N6.out.1, ?_⟩
            refine wpAnyH_done (by kernel_rfl) ?_ _
            go_wp2_with fail
            exact ⟨⟨i + 1, _, HJ.out.1, by first | rw [HJ.out.2.1] | rw [Int.natCast_succ], N6.out.2.1, HIN.out, N6.out.2.2⟩, by first | (rw [HJ.out.2.1]; exact mSucc HJ.out.1) | (rw [← Int.natCast_succ]; exact mSucc HJ.out.1)⟩
        · obtain rfl : k = m := by omega
          have hkt : ((k : Int) < (k : Int)) = False := by simp
          have hd := (Below.refl w5.heap.size w5).drew
          have hbd : Below w2.heap.size w2 w5.drew := bcall hb (Nat.le_refl _) hd
          have KW := Lib.hid (And.intro (GW.out.1.keep hbd) (And.intro (G.out.1.below hbd) (And.intro hbd (GW.out.2.keep hbd))))
          have HLO := Lib.hid hlow
          have HUP := Lib.hid (show k < out.length → ltK (out.getD k default).k x.k = false from fun h => absurd h (by rw [G.out.2.2.2.2.1]; exact Nat.lt_irrefl _))
          have hkle : k ≤ k := Nat.le_refl _
          clear hb hd hbd hlow
          go_wp2_with fail
          refine wp_region_heldP (ElS RSy w2 b (o + i * 8) x) (by kernel_rfl) ?_
          generalize w5.drew = V at *
          refine held_reads [0, 1, 2, 3, 4, 5, 6, 7, 8, 9, 10, 11, 12, 13, 14, 15, 16, 17] (g := 0) rfl (by kernel_rfl) KW.out.1 (fun _ _ d _ _ h => by cases d <;> exact h) ?_
          simp only [pick, List.getD_cons_zero, List.getD_cons_succ]
          ((with_reducible refine wpRead_step (fun K hK => ?_)); go_simp; first | ((with_reducible refine hK _ ?_); clear hK K) | (apply Exists.intro; (with_reducible refine ⟨fun w' hw' => ?_, hK _ ?_⟩); (first | exact rfl | exact ⟨rfl, rfl⟩); clear hK K))
          ((with_reducible refine wpRead_step (fun K hK => ?_)); go_simp; first | ((with_reducible refine hK _ ?_); clear hK K) | (apply Exists.intro; (with_reducible refine ⟨fun w' hw' => ?_, hK _ ?_⟩); (first | exact rfl | exact ⟨rfl, rfl⟩); clear hK K))
          ((with_reducible refine wpRead_step (fun K hK => ?_)); go_simp; first | ((with_reducible refine hK _ ?_); clear hK K) | (apply Exists.intro; (with_reducible refine ⟨fun w' hw' => ?_, hK _ ?_⟩); (first | exact rfl | exact ⟨rfl, rfl⟩); clear hK K))
          ((with_reducible refine wpRead_step (fun K hK => ?_)); go_simp; first | ((with_reducible refine hK _ ?_); clear hK K) | (apply Exists.intro; (with_reducible refine ⟨fun w' hw' => ?_, hK _ ?_⟩); (first | exact rfl | exact ⟨rfl, rfl⟩); clear hK K))
          ((with_reducible refine wpRead_step (fun K hK => ?_)); go_simp; first | ((with_reducible refine hK _ ?_); clear hK K) | (apply Exists.intro; (with_reducible refine ⟨fun w' hw' => ?_, hK _ ?_⟩); (first | exact rfl | exact ⟨rfl, rfl⟩); clear hK K))
          ((with_reducible refine wpRead_step (fun K hK => ?_)); go_simp; first | ((with_reducible refine hK _ ?_); clear hK K) | (apply Exists.intro; (with_reducible refine ⟨fun w' hw' => ?_, hK _ ?_⟩); (first | exact rfl | exact ⟨rfl, rfl⟩); clear hK K))
          ((with_reducible refine wpRead_step (fun K hK => ?_)); go_simp; first | ((with_reducible refine hK _ ?_); clear hK K) | (apply Exists.intro; (with_reducible refine ⟨fun w' hw' => ?_, hK _ ?_⟩); (first | exact rfl | exact ⟨rfl, rfl⟩); clear hK K))
          ((with_reducible refine wpRead_step (fun K hK => ?_)); go_simp; first | ((with_reducible refine hK _ ?_); clear hK K) | (apply Exists.intro; (with_reducible refine ⟨fun w' hw' => ?_, hK _ ?_⟩); (first | exact rfl | exact ⟨rfl, rfl⟩); clear hK K))
          ((with_reducible refine wpRead_step (fun K hK => ?_)); go_simp; first | ((with_reducible refine hK _ ?_); clear hK K) | (apply Exists.intro; (with_reducible refine ⟨fun w' hw' => ?_, hK _ ?_⟩); (first | exact rfl | exact ⟨rfl, rfl⟩); clear hK K))
          ((with_reducible refine wpRead_step (fun K hK => ?_)); go_simp; first | ((with_reducible refine hK _ ?_); clear hK K) | (apply Exists.intro; (with_reducible refine ⟨fun w' hw' => ?_, hK _ ?_⟩); (first | exact rfl | exact ⟨rfl, rfl⟩); clear hK K))
          ((with_reducible refine wpRead_step (fun K hK => ?_)); go_simp; first | ((with_reducible refine hK _ ?_); clear hK K) | (apply Exists.intro; (with_reducible refine ⟨fun w' hw' => ?_, hK _ ?_⟩); (first | exact rfl | exact ⟨rfl, rfl⟩); clear hK K))
          ((with_reducible refine wpRead_step (fun K hK => ?_)); go_simp; first | ((with_reducible refine hK _ ?_); clear hK K) | (apply Exists.intro; (with_reducible refine ⟨fun w' hw' => ?_, hK _ ?_⟩); (first | exact rfl | exact ⟨rfl, rfl⟩); clear hK K))
          ((with_reducible refine wpRead_step (fun K hK => ?_)); go_simp; first | ((with_reducible refine hK _ ?_); clear hK K) | (apply Exists.intro; (with_reducible refine ⟨fun w' hw' => ?_, hK _ ?_⟩); (first | exact rfl | exact ⟨rfl, rfl⟩); clear hK K))
          ((with_reducible refine wpRead_step (fun K hK => ?_)); go_simp; first | ((with_reducible refine hK _ ?_); clear hK K) | (apply Exists.intro; (with_reducible refine ⟨fun w' hw' => ?_, hK _ ?_⟩); (first | exact rfl | exact ⟨rfl, rfl⟩); clear hK K))
          ((with_reducible refine wpRead_step (fun K hK => ?_)); go_simp; first | ((with_reducible refine hK _ ?_); clear hK K) | (apply Exists.intro; (with_reducible refine ⟨fun w' hw' => ?_, hK _ ?_⟩); (first | exact rfl | exact ⟨rfl, rfl⟩); clear hK K))
          ((with_reducible refine wpRead_step (fun K hK => ?_)); go_simp; first | ((with_reducible refine hK _ ?_); clear hK K) | (apply Exists.intro; (with_reducible refine ⟨fun w' hw' => ?_, hK _ ?_⟩); (first | exact rfl | exact ⟨rfl, rfl⟩); clear hK K))
          ((with_reducible refine wpRead_step (fun K hK => ?_)); go_simp; first | ((with_reducible refine hK _ ?_); clear hK K) | (apply Exists.intro; (with_reducible refine ⟨fun w' hw' => ?_, hK _ ?_⟩); (first | exact rfl | exact ⟨rfl, rfl⟩); clear hK K))
          ((with_reducible refine wpRead_step (fun K hK => ?_)); go_simp; first | ((with_reducible refine hK _ ?_); clear hK K) | (apply Exists.intro; (with_reducible refine ⟨fun w' hw' => ?_, hK _ ?_⟩); (first | exact rfl | exact ⟨rfl, rfl⟩); clear hK K))
          with_reducible refine wpRead_nil ?_
          refine wpAnyH_done (by kernel_rfl) ?_ _
          obtain ⟨sa, hr1, hr2, hst, hsn, -⟩ := Rep.cut_from TSy KW.out.2.2.2 G.out.2.2.2.2.2.1 G.out.2.2.2.2.2.2 (i := k) hkle
          simp only [Nat.sub_self] at hr1 hr2 hst
          obtain ⟨sk, hq1, hq2, hsk⟩ := Rep.cut_kk TSy KW.out.2.2.2 G.out.2.2.2.2.2.1 (i := k) hkle
          have hal0 := (Below.refl V.heap.size V).alloc (Nat.le_refl _) (.cells #[] 35)
          have hem : RSy.Own (V.alloc (.cells #[] 35)) V.heap.size (.slice (some ⟨V.heap.size, 0, none⟩) 0 0) ([] : List SyV) := Rep.own_empty (hnew _ _) (Nat.le_refl _)
          have N1 := Lib.hid (And.intro hal0 (And.intro hem (And.intro (hst.keep hal0) (And.intro hsn hsk))))
          have HQQ := Lib.hid (And.intro hq1 hq2)
          clear hal0 hem hst hsn hsk hq1 hq2
          go_wp2_with (at_builtin; refine halt ?_)
          refine Halted.go ?_
          clear hr1 hr2
          generalize V.alloc (.cells #[] 35) = V8 at *
          refine Rep.append_list TSy rfl _ _ rfl rfl N1.out.2.1 (L := []) (M := out.drop k) rfl N1.out.2.2.1 N1.out.2.2.2.1 (by rw [List.length_nil]; unfold maxLen; omega) (by rw [List.length_nil]; omega) N1.out.1.size ?_
          intro v9 V9 hown9 hb9 _
          rw [List.nil_append] at hown9
          obtain ⟨a9, c9, rfl, hsl9, hn9⟩ := hown9.sl0
          have hl9 : (out.drop k).length = 0 := by rw [List.length_drop, G.out.2.2.2.2.1, Nat.sub_self]
          rw [hl9] at hsl9 ⊢
          have hb79 := N1.out.1.trans hb9
          have N2 := Lib.hid (And.intro (KW.out.1.keep hb79) (And.intro (N1.out.2.2.2.2.keep hb79) (And.intro hsl9 (And.intro hn9 (bcall KW.out.2.2.1 (Nat.le_refl _) hb79)))))
          clear hown9 hb9 hsl9 hn9 hl9 hb79 N1 KW
          obtain ⟨hq1, hq2⟩ := HQQ.out
          go_wp2_with fail
          refine wp_region_heldP (ElS RSy w2 b (o + i * 8) x) (by kernel_rfl) ?_
          have hd := (Below.refl V9.heap.size V9).drew
          have N3 := Lib.hid (And.intro (N2.out.1.keep hd) (And.intro (N2.out.2.1.keep hd) (And.intro (N2.out.2.2.1.keep hd) (And.intro N2.out.2.2.2.1 (bcall N2.out.2.2.2.2 (Nat.le_refl _) hd)))))
          clear hd N2
          generalize V9.drew = V10 at *
          refine held_reads [0, 1, 2, 3, 4, 5, 6, 7, 10] (g := 4) rfl (by kernel_rfl) N3.out.1 (fun _ _ d _ _ h => by cases d <;> exact h) ?_
          simp only [pick, List.getD_cons_zero, List.getD_cons_succ]
          ((with_reducible refine wpRead_step (fun K hK => ?_)); go_simp; first | ((with_reducible refine hK _ ?_); clear hK K) | (apply Exists.intro; (with_reducible refine ⟨fun w' hw' => ?_, hK _ ?_⟩); (first | exact rfl | exact ⟨rfl, rfl⟩); clear hK K))
          ((with_reducible refine wpRead_step (fun K hK => ?_)); go_simp; first | ((with_reducible refine hK _ ?_); clear hK K) | (apply Exists.intro; (with_reducible refine ⟨fun w' hw' => ?_, hK _ ?_⟩); (first | exact rfl | exact ⟨rfl, rfl⟩); clear hK K))
          ((with_reducible refine wpRead_step (fun K hK => ?_)); go_simp; first | ((with_reducible refine hK _ ?_); clear hK K) | (apply Exists.intro; (with_reducible refine ⟨fun w' hw' => ?_, hK _ ?_⟩); (first | exact rfl | exact ⟨rfl, rfl⟩); clear hK K))
          ((with_reducible refine wpRead_step (fun K hK => ?_)); go_simp; first | ((with_reducible refine hK _ ?_); clear hK K) | (apply Exists.intro; (with_reducible refine ⟨fun w' hw' => ?_, hK _ ?_⟩); (first | exact rfl | exact ⟨rfl, rfl⟩); clear hK K))
          ((with_reducible refine wpRead_step (fun K hK => ?_)); go_simp; first | ((with_reducible refine hK _ ?_); clear hK K) | (apply Exists.intro; (with_reducible refine ⟨fun w' hw' => ?_, hK _ ?_⟩); (first | exact rfl | exact ⟨rfl, rfl⟩); clear hK K))
          ((with_reducible refine wpRead_step (fun K hK => ?_)); go_simp; first | ((with_reducible refine hK _ ?_); clear hK K) | (apply Exists.intro; (with_reducible refine ⟨fun w' hw' => ?_, hK _ ?_⟩); (first | exact rfl | exact ⟨rfl, rfl⟩); clear hK K))
          ((with_reducible refine wpRead_step (fun K hK => ?_)); go_simp; first | ((with_reducible refine hK _ ?_); clear hK K) | (apply Exists.intro; (with_reducible refine ⟨fun w' hw' => ?_, hK _ ?_⟩); (first | exact rfl | exact ⟨rfl, rfl⟩); clear hK K))
          with_reducible refine wpRead_yes ?_ ?_
          rotate_left
          rfl
          intro K hK
          refine read_load 35 _ rfl b (o + i * 8) #[.int .u32 (x.k.1 : Int), .int .i64 x.k.2, .int .i64 x.a.o, .slice x.a.p.a x.a.p.n x.a.p.c, .int .u32 x.a.nx, .int .i64 x.a.md, .int .i64 x.a.pf, .slice x.a.c.a x.a.c.n x.a.c.c] rfl (fun w' hw' => hw'.at'.range) Try.underlying35 rfl (by kernel_rfl) (hK _ ?_)
          clear hK K
          ((with_reducible refine wpRead_step (fun K hK => ?_)); go_simp; first | ((with_reducible refine hK _ ?_); clear hK K) | (apply Exists.intro; (with_reducible refine ⟨fun w' hw' => ?_, hK _ ?_⟩); (first | exact rfl | exact ⟨rfl, rfl⟩); clear hK K))
          with_reducible refine wpRead_nil ?_
          clear hq1 hq2
          refine held_one 8 (by kernel_rfl) ?_
          simp only [pick, List.getD_cons_zero, List.getD_cons_succ]
          have hal := (Below.refl V10.heap.size V10).alloc (Nat.le_refl _) (.cells #[.int .u32 (x.k.1 : Int), .int .i64 x.k.2, .int .i64 x.a.o, .slice x.a.p.a x.a.p.n x.a.p.c, .int .u32 x.a.nx, .int .i64 x.a.md, .int .i64 x.a.pf, .slice x.a.c.a x.a.c.n x.a.c.c] 35)
          have hone : RSy.Sl (V10.alloc (.cells #[.int .u32 (x.k.1 : Int), .int .i64 x.k.2, .int .i64 x.a.o, .slice x.a.p.a x.a.p.n x.a.p.c, .int .u32 x.a.nx, .int .i64 x.a.md, .int .i64 x.a.pf, .slice x.a.c.a x.a.c.n x.a.c.c] 35)) (some ⟨V10.heap.size, 0, none⟩) 1 1 [x] := Rep.sl_one (R := RSy) (y := x) (hnew _ _)
          have N4 := Lib.hid (And.intro (N3.out.1.keep hal) (And.intro (N3.out.2.1.keep hal) (And.intro (N3.out.2.2.1.keep hal) (And.intro N3.out.2.2.2.1 (And.intro hone (bcall N3.out.2.2.2.2 (Nat.le_refl _) hal))))))
          clear hal hone N3
          go_wp2_with fail
          refine ⟨N4.out.1, ?_⟩
          generalize V10.alloc (.cells #[.int .u32 (x.k.1 : Int), .int .i64 x.k.2, .int .i64 x.a.o, .slice x.a.p.a x.a.p.n x.a.p.c, .int .u32 x.a.nx, .int .i64 x.a.md, .int .i64 x.a.pf, .slice x.a.c.a x.a.c.n x.a.c.c] 35) = V11 at *
          generalize V10.heap.size = q11 at *
          refine held_one 9 (by kernel_rfl) ?_
          simp only [pick, List.getD_cons_zero, List.getD_cons_succ]
          go_wp2_with (at_builtin; refine halt ?_)
          refine Halted.go ?_
          refine Rep.append_cut TSy rfl _ _ rfl rfl N4.out.2.1 rfl N4.out.2.2.2.2.1 (by omega) (by unfold maxLen; omega) (by omega) ?_
          intro v12 V12 hown12 hb12
          have N5 := Lib.hid (And.intro hb12 (And.intro (N4.out.2.2.1.keep hb12) hown12))
          clear hown12 hb12
          go_wp2_with fail
          refine ⟨N4.out.1.keep N5.out.1, ?_⟩
          refine held_one 11 (by kernel_rfl) ?_
          simp only [pick, List.getD_cons_zero, List.getD_cons_succ]
          go_wp2_with (at_builtin; refine halt ?_)
          refine Halted.go ?_
          have hlt : (out.take k ++ [x]).length = k + 1 := by have := G.out.2.2.2.2.1; rw [List.length_append, List.length_take, this, List.length_singleton]; omega
          refine Rep.append_list TSy rfl _ _ rfl rfl N5.out.2.2 rfl N5.out.2.1 N4.out.2.2.2.1 (by rw [hlt]; unfold maxLen; omega) (by rw [hlt]; omega) N5.out.1.size ?_
          intro v13 V13 hown13 hb13 _
          have HIN := Lib.hid (ins_at G.out.2.1 G.out.2.2.1 G.out.2.2.2.1 HLO.out (by rw [G.out.2.2.2.2.1]; exact hkle) HUP.out)
          have hb13' := N5.out.1.trans hb13
          have N6 := Lib.hid (And.intro (N4.out.1.keep hb13') (And.intro (hown13.mono (Nat.le_trans HJ.out.2.2.size N4.out.2.2.2.2.2.size)) (bcall HJ.out.2.2 (Nat.le_refl _) (bcall N4.out.2.2.2.2.2 (Nat.le_refl _) hb13'))))
          clear hlt hown13 hb13 hb13' N5 N4
          go_wp2_with fail
          refine ⟨N6.out.1, ?_⟩
          refine held_one 12 (by kernel_rfl) ?_
          simp only [pick, List.getD_cons_zero, List.getD_cons_succ]
          go_wp2_with fail
          refine ⟨N6.out.1, ?_⟩
          refine wpAnyH_done (by kernel_rfl) ?_ _
          go_wp2_with fail
          exact ⟨⟨i + 1, _, HJ.out.1, by first | rw [HJ.out.2.1] | rw [Int.natCast_succ], N6.out.2.1, HIN.out, N6.out.2.2⟩, by first | (rw [HJ.out.2.1]; exact mSucc HJ.out.1) | (rw [← Int.natCast_succ]; exact mSucc HJ.out.1)⟩
    · obtain rfl : i = n := by omega
      have hil : ((i : Int) < (i : Int)) = False := by simp
      have G2 := Lib.hid (And.intro hown (And.intro hst hb))
      generalize out.length = m at *
      clear hown hst hb hsl hn0
      go_wp2_with fail
      go_ret
      refine ⟨_, rfl, ?_, G2.out.2.2⟩
      have hst := G2.out.2.1
      rw [F.out.2, List.take_length] at hst
      rw [← hst]
      exact G2.out.1
end Go.Proofs.Ytadoflcomienoaa
/- The reference's Updates. -/
namespace Go.Proofs.Ytadoflcomienoaa
open Go.RowKit

def goV (B : List SyV) (A : List SyV) : List Nl := (A.filter fun s => (Kl.look SyV.k B s.k).isNone).map fun s => s.sy.nl
def newQ (A : List SyV) (s : SyV) : Bool := match Kl.look SyV.k A s.k with
  | none => true
  | some t => !decide (t.a.at = s.a.at)
def newV (A : List SyV) (B : List SyV) : List SyV := B.filter (newQ A)
theorem goV_is {wl il : List SyV} (hi : (il.map SyV.k).Nodup) : goV (sortK SyV.k il) (sortK SyV.k wl) = goingI (wl.map SyV.sy) (il.map SyV.sy) := by
  unfold goV goingI
  rw [← sortK_map (key := SyV.k) SyV.sy (fun _ => rfl), List.filter_map, List.map_map]
  congr 1
  refine List.filter_congr fun s _ => ?_
  show (Kl.look SyV.k (sortK SyV.k il) s.k).isNone = (Kl.look Sy.k (il.map SyV.sy) s.k).isNone
  rw [look_map (key := SyV.k) SyV.sy (fun _ => rfl), ← Kl.look_perm hi (sortK_perm il).symm]
  cases Kl.look SyV.k il s.k <;> rfl
theorem newV_is {wl il : List SyV} (hw : (wl.map SyV.k).Nodup) : (newV (sortK SyV.k wl) (sortK SyV.k il)).map SyV.sy = newsI (wl.map SyV.sy) (il.map SyV.sy) := by
  unfold newV newsI
  rw [← sortK_map (key := SyV.k) SyV.sy (fun _ => rfl), List.filter_map]
  congr 1
  refine List.filter_congr fun s _ => ?_
  show newQ (sortK SyV.k wl) s = !decide (Kl.look Sy.k (wl.map SyV.sy) s.k = some s.sy)
  unfold newQ
  rw [look_map (key := SyV.k) SyV.sy (fun _ => rfl), ← Kl.look_perm hw (sortK_perm wl).symm]
  cases hl : Kl.look SyV.k wl s.k with
  | none => simp
  | some t =>
    have hk := (Kl.look_mem hl).2
    simp only [Option.map_some, Option.some.injEq]
    congr 1
    refine decide_eq_decide.2 ⟨fun h => ?_, fun h => congrArg Sy.a h⟩
    unfold SyV.sy
    rw [hk, h]
theorem goV_take {A B : List SyV} {i : Nat} (hi : i < A.length) {x : SyV} (hx : A.getD i default = x) : goV B (A.take (i + 1)) = goV B (A.take i) ++ if (Kl.look SyV.k B x.k).isNone then [x.sy.nl] else [] := by
  unfold goV
  rw [take_snoc A i hi, hx, List.filter_append, List.map_append]
  congr 1
  rw [List.filter_cons, List.filter_nil]
  cases (Kl.look SyV.k B x.k).isNone <;> rfl
theorem newV_take {A B : List SyV} {i : Nat} (hi : i < B.length) {x : SyV} (hx : B.getD i default = x) : newV A (B.take (i + 1)) = newV A (B.take i) ++ if newQ A x then [x] else [] := by
  unfold newV
  rw [take_snoc B i hi, hx, List.filter_append]
  congr 1
  rw [List.filter_cons, List.filter_nil]
theorem goV_len (B A : List SyV) : (goV B A).length ≤ A.length := by unfold goV; rw [List.length_map]; exact List.length_filter_le _ _
theorem newV_len (A B : List SyV) : (newV A B).length ≤ B.length := List.length_filter_le _ _
theorem chunksI_ge {α : Type} (f : List α → Nat) : ∀ (n : Nat) (l : List α), (chunksI f n l).length ≤ n
  | 0, l => Nat.le_refl _
  | n + 1, [] => Nat.zero_le _
  | n + 1, x :: r => by
    have := chunksI_ge f n ((x :: r).drop (f (x :: r)))
    show (chunksI f n ((x :: r).drop (f (x :: r)))).length + 1 ≤ n + 1
    omega
theorem goneI_len (L : List Nl) : (goneI szN L).length ≤ L.length := by
  unfold goneI
  rw [List.length_map]
  exact chunksI_ge _ _ _
theorem comeI_lenA {sz : Nl → Nat} {asz : At → Nat} : ∀ (n : Nat) (L : List Sy), (comeI sz asz n L).length ≤ L.length
  | 0, L => Nat.zero_le _
  | n + 1, [] => Nat.zero_le _
  | n + 1, s :: r => by
    have h1 := comeI_lenA (sz := sz) (asz := asz) n ((s :: r).filter fun t => !decide (t.a = s.a))
    have h2 : ((s :: r).filter fun t => decide (t.a = s.a)).length + ((s :: r).filter fun t => !decide (t.a = s.a)).length = (s :: r).length := by
      generalize s :: r = L
      induction L with
      | nil => rfl
      | cons x q ih =>
        rw [List.filter_cons, List.filter_cons]
        cases h : decide (x.a = s.a)
        · simp only [Bool.not_false, if_true, Bool.false_eq_true, if_false, List.length_cons]; omega
        · simp only [Bool.not_true, if_true, Bool.false_eq_true, if_false, List.length_cons]; omega
    unfold comeI
    rw [List.length_append, List.length_map]
    have h3 := chunksI_ge (fitI sz (4073 - asz s.a) 1024) ((s :: r).filter fun t => decide (t.a = s.a)).length (((s :: r).filter fun t => decide (t.a = s.a)).map Sy.nl)
    omega
theorem comeI_len (four : Bool) (L : List SyV) (_h : ∀ s ∈ L, okS four s = true) : (comeI szN (asz four) L.length (L.map SyV.sy)).length ≤ L.length := by
  have := comeI_lenA (sz := szN) (asz := asz four) L.length (L.map SyV.sy)
  rwa [List.length_map] at this
end Go.Proofs.Ytadoflcomienoaa
