/- The bytes of attributes: how many. -/
import Derived.Test.YtadoflcomienoaaQai
import Derived.Test.YtadoflcomienoaaQaa
namespace Go.Proofs.Ytadoflcomienoaa
open Go.RowKit

def hdz (n : Nat) : Nat := if 255 < n then 4 else 3
/-- how many bytes attributes have -/
def asz (four : Bool) (x : At) : Nat := 4 + (hdz (psz four x.p) + psz four x.p) + 7 + (if 0 ≤ x.md then 7 else 0) + (if 0 ≤ x.pf then 7 else 0) + (if x.c.length = 0 then 0 else 3 + 4 * x.c.length)
theorem asz_le {four : Bool} {x : At} (h : okA four x = true) : asz four x ≤ 2230 := by
  unfold okA at h
  simp only [Bool.and_eq_true, decide_eq_true_eq] at h
  have h1 := psz_le h.1.2.2
  have h2 := h.1.2.1
  have h3 := h.2.1
  unfold asz hdz
  (repeat' split) <;> omega
theorem hdz_le (n : Nat) : hdz n ≤ 4 := by unfold hdz; split <;> omega
theorem add_path {w : World} {g base : Nat} {v : Value} {B : List Nat} (h : Wr g base v B w) {da : Option Addr} {dn dc : Nat} {D : List Nat} (hd : RB.Sl w da dn dc D) (hdn : da = none → dc = 0) (hbl : B.length ≤ 100000) (hs2 : dn ≤ 65535) : Calls Try.prog 88 #[.pointer (some ⟨g, 0, none⟩), .int .i64 64, .int .i64 2, .slice da dn dc] w fun e w' => e = .returned (.tuple #[]) ∧ (∃ v' B', Wr g w.heap.size v' B' w' ∧ B'.length = B.length + hdz dn + dn) ∧ But w w' [g] := by
  by_cases hs : 255 < dn
  · have := add_long h hd hdn hbl hs hs2
    have e : hdz dn = 4 := if_pos hs
    rw [e]; exact this
  · have := add_short (f := 64) (k := 2) h hd hdn hbl (by omega) (by decide) (by decide)
    have e : hdz dn = 3 := if_neg hs
    rw [e]; exact this
theorem aput_no {w : World} {x : AtV} (hx : AtOk w x) {four : Bool} (hok : okA four x.at = false) : Calls Try.prog 64 #[x.v, .bool four] w fun e w' => e = .returned (.tuple #[.slice none 0 0, .int .i64 50]) ∧ Below w.heap.size w w' := by
  have hal := (Below.refl w.heap.size w).alloc (Nat.le_refl _) (.cells #[.int .i64 x.o, .slice x.p.a x.p.n x.p.c, .int .u32 x.nx, .int .i64 x.md, .int .i64 x.pf, .slice x.c.a x.c.n x.c.c] 26)
  have hX : BxA w.heap.size x (w.alloc (.cells #[.int .i64 x.o, .slice x.p.a x.p.n x.p.c, .int .u32 x.nx, .int .i64 x.md, .int .i64 x.pf, .slice x.c.a x.c.n x.c.c] 26)) := hnew _ _
  have HC := Lib.hid (acheck_no (hx.keep hal) hok)
  obtain ⟨c0, c1, c2, c3, c4, c5⟩ := hX.cells
  have F0 := Lib.hid hal
  clear hal hX hx hok
  unfold AtV.v at *
  go_enter Try.func64, Try.ntmps64
  go_wp2_with fail
  refine (HC.out).mono ?_
  rintro e w1 ⟨rfl, hb⟩
  have F1 := Lib.hid (bcall F0.out (by simp) hb)
  clear hb c0 c1 c2 c3 c4 c5 F0
  go_wp2_with fail
  go_ret2
  exact ⟨rfl, F1.out⟩
theorem okA_nums {four : Bool} {w : World} {x : AtV} (hx : AtOk w x) (h : okA four x.at = true) : ∃ (on nn : Nat), x.o = on ∧ on < 256 ∧ x.nx = nn ∧ fitsB 4 (nn : Int) = true ∧ nn ≤ 4294967295 := by
  have h1 := (okA_iff hx).1 h
  exact ⟨x.o.toNat, x.nx.toNat, by omega, by omega, by have := hx.nx; omega, by unfold fitsB; have := hx.nx; rw [Bool.and_eq_true, decide_eq_true_eq, decide_eq_true_eq]; exact ⟨by omega, by omega⟩, by have := hx.nx; omega⟩
theorem fits4_of {n : Int} (h0 : 0 ≤ n) (h : n ≤ 4294967295) : fitsB 4 n = true := by unfold fitsB; simp; omega
set_option maxRecDepth 100000 in
set_option maxHeartbeats 8000000 in
theorem aput_len {w : World} {x : AtV} (hx : AtOk w x) {four : Bool} (hok : okA four x.at = true) : Calls Try.prog 64 #[x.v, .bool four] w fun e w' => ∃ v B, e = .returned (.tuple #[v, .int .i64 0]) ∧ RB.Own w' w.heap.size v B ∧ B.length = asz four x.at ∧ Below w.heap.size w w' := by
  have hal := (Below.refl w.heap.size w).alloc (Nat.le_refl _) (.cells #[.int .i64 x.o, .slice x.p.a x.p.n x.p.c, .int .u32 x.nx, .int .i64 x.md, .int .i64 x.pf, .slice x.c.a x.c.n x.c.c] 26)
  have hX : BxA w.heap.size x (w.alloc (.cells #[.int .i64 x.o, .slice x.p.a x.p.n x.p.c, .int .u32 x.nx, .int .i64 x.md, .int .i64 x.pf, .slice x.c.a x.c.n x.c.c] 26)) := hnew _ _
  have HC := Lib.hid (acheck_ok (hx.keep hal) hok)
  have hk := (okA_iff hx).1 hok
  obtain ⟨on, nn, ho, ho2, hnn, hnf, hnb⟩ := okA_nums hx hok
  have HS := Lib.hid (show asz four x.at = 4 + (hdz (psz four (x.p.l.map SgV.sg)) + psz four (x.p.l.map SgV.sg)) + 7 + (if 0 ≤ x.md then 7 else 0) + (if 0 ≤ x.pf then 7 else 0) + (if x.c.n = 0 then 0 else 3 + 4 * x.c.n) from by
    rw [hx.c.sl.len]; rfl)
  have HP := Lib.hid (show (x.p.l.map SgV.sg).all (okSg four) = true from by
    rw [List.all_map, List.all_eq_true]
    exact fun s hs => hk.2.2.2.2.2.2.1 s hs)
  have HCm := Lib.hid (show x.c.l.all (fitsB 4) = true from List.all_eq_true.2 hk.2.2.2.2.2.2.2)
  have HPz := Lib.hid (show psz four (x.p.l.map SgV.sg) ≤ 2064 from by
    have h1 := psz_le HP.out
    rw [List.length_map, ← hx.p.sl.len] at h1
    have := hk.2.2.2.2.1
    omega)
  have hp8 := hk.2.2.2.2.1
  have hc32 := hk.2.2.2.2.2.1
  have hmdb := hk.2.2.1.2
  have hpfb := hk.2.2.2.1.2
  obtain ⟨c0, c1, c2, c3, c4, c5⟩ := hX.cells
  have HO := Lib.hid (And.intro ho (And.intro hnn hnf))
  have F0 := Lib.hid (And.intro hal (And.intro hX hx))
  clear hal hX hok hk hnf
  rw [ho] at c0
  rw [hnn] at c2
  unfold AtV.v at *
  obtain ⟨av, hav⟩ : ∃ z, asz four x.at = z := ⟨_, rfl⟩
  rw [hav] at HS ⊢
  obtain ⟨pz, hpz⟩ : ∃ z, psz four (x.p.l.map SgV.sg) = z := ⟨_, rfl⟩
  rw [hpz] at HS HPz
  have HPE := Lib.hid hpz
  clear hav hpz ho hnn hx
  go_enter Try.func64, Try.ntmps64
  go_wp2_with fail
  refine (HC.out).mono ?_
  rintro e w2 ⟨rfl, hb⟩
  have hbw := bcall F0.out.1 (by simp) hb
  have hxw := F0.out.2.1.keep hb
  have HA := Lib.hid F0.out.2.2
  have F1 := Lib.hid (And.intro hbw (hxw))
  clear F0
  clear hb hbw hxw c0 c1 c2 c3 c4 c5 HC
  have hal := (Below.refl w2.heap.size w2).alloc (Nat.le_refl _) (.cells #[.slice none 0 0] 135)
  have hg0 : w.heap.size + 1 ≤ w2.heap.size := lt_of_blk F1.out.2
  have hx2 := F1.out.2
  have hwr : Wr w2.heap.size (w2.heap.size + 1) (.slice none 0 0) [] (w2.alloc (.cells #[.slice none 0 0] 135)) := ⟨hnew _ _, Rep.Own.nil _ _, Nat.lt_succ_self _⟩
  have F2 := Lib.hid (And.intro (bcall F1.out.1 (Nat.le_refl _) hal) (And.intro (F1.out.2.keep hal) (hwr)))
  clear F1
  obtain ⟨c0, c1, c2, c3, c4, c5⟩ := F2.out.2.1.cells
  rw [HO.out.1] at c0
  rw [HO.out.2.1] at c2
  obtain ⟨y0, y1, y2, y3, y4, y5⟩ := hx2.cells
  go_wp2_with fail
  clear y0 y1 y2 y3 y4 y5
  clear hal hwr hx2
  have hal := (Below.refl (w2.alloc (.cells #[.slice none 0 0] 135)).heap.size (w2.alloc (.cells #[.slice none 0 0] 135))).alloc (Nat.le_refl _) (.cells #[.int .u8 (on : Int)] 5)
  have hnx : RB.Sl ((w2.alloc (.cells #[.slice none 0 0] 135)).alloc (.cells #[.int .u8 (on : Int)] 5)) (some ⟨w2.heap.size + 1, 0, none⟩) 1 1 [on] := Rep.sl_one (R := RB) (y := on) (hnewAt (by simp))
  have F3 := Lib.hid (And.intro (bcall F2.out.1 (Nat.le_refl _) hal) (And.intro (F2.out.2.1.keep hal) (And.intro (F2.out.2.2.keep hal) (hnx))))
  clear F2
  clear hal hnx c0 c1 c2 c3 c4 c5
  generalize hA1 : (w2.alloc (.cells #[.slice none 0 0] 135)).alloc (.cells #[.int .u8 (on : Int)] 5) = A1 at *
  generalize w2.heap.size = g at *
  have HGG := Lib.hid hg0
  clear hg0 hA1
  refine (add_short (f := 64) (k := 1) F3.out.2.2.1 F3.out.2.2.2 (fun h => by cases h) (by decide) (by decide) (by decide) (by decide)).mono ?_
  rintro e A1 ⟨rfl, ⟨v2, B3, hw2, hl2⟩, hbt⟩
  have hbn := Below.step F3.out.1 F3.out.1.size hbt (by have := HGG.out; simp; omega)
  have hxn : BxA w.heap.size x A1 := (hbt.block _ (lt_of_blk F3.out.2.1) (by have := HGG.out; simp; omega)).trans F3.out.2.1
  have hln : B3.length = 4 := by rw [hl2]; rfl
  have F4 := Lib.hid (And.intro hbn (And.intro hxn (And.intro hw2 (hln))))
  clear F3
  clear hw2 hl2 hbt hbn hxn hln
  obtain ⟨-, c1, c2, c3, c4, c5⟩ := F4.out.2.1.cells
  rw [HO.out.2.1] at c2
  go_wp2_with fail
  refine (apath_any (n := x.p.n) (HA.out.keep F4.out.1).p four HP.out hp8).mono ?_
  rintro e AP ⟨vp, Bp, rfl, hop, hlp, hb⟩
  rw [HPE.out] at hlp
  obtain ⟨op, cp, rfl, hsp, hnp⟩ := hop.sl0
  rw [hlp] at hsp ⊢
  have F5 := Lib.hid (And.intro (bcall F4.out.1 (Nat.le_refl _) hb) (And.intro (F4.out.2.1.keep hb) (And.intro (F4.out.2.2.1.keep hb) (And.intro F4.out.2.2.2 (And.intro hsp (hnp))))))
  clear F4
  clear hb hop hlp hsp hnp c1 c2 c3 c4 c5
  go_wp2_with fail
  refine (add_path F5.out.2.2.1 F5.out.2.2.2.2.1 F5.out.2.2.2.2.2 (by rw [F5.out.2.2.2.1]; decide) (by have := HPz.out; omega)).mono ?_
  rintro e A4 ⟨rfl, ⟨v5, B6, hw2, hl2⟩, hbt⟩
  have hbn := Below.step F5.out.1 F5.out.1.size hbt (by have := HGG.out; simp; omega)
  have hxn : BxA w.heap.size x A4 := (hbt.block _ (lt_of_blk F5.out.2.1) (by have := HGG.out; simp; omega)).trans F5.out.2.1
  have hln : B6.length = 4 + (hdz pz + pz) := by rw [hl2, F5.out.2.2.2.1]; omega
  have F6 := Lib.hid (And.intro hbn (And.intro hxn (And.intro hw2 (hln))))
  clear F5
  clear hw2 hl2 hbt hbn hxn hln
  obtain ⟨-, c1, c2, c3, c4, c5⟩ := F6.out.2.1.cells
  rw [HO.out.2.1] at c2
  go_wp2_with fail
  have hal := (Below.refl A4.heap.size A4).alloc (Nat.le_refl _) (.cells #[.int .i64 (nn : Int)] 3)
  have hnx : RI.Sl (A4.alloc (.cells #[.int .i64 (nn : Int)] 3)) (some ⟨A4.heap.size, 0, none⟩) 1 1 [(nn : Int)] := Rep.sl_one (R := RI) (y := (nn : Int)) (hnew _ _)
  have F7 := Lib.hid (And.intro (bcall F6.out.1 (Nat.le_refl _) hal) (And.intro (F6.out.2.1.keep hal) (And.intro (F6.out.2.2.1.keep hal) (And.intro F6.out.2.2.2 (hnx)))))
  clear F6
  clear hal hnx
  generalize A4.alloc (.cells #[.int .i64 (nn : Int)] 3) = A7 at *
  generalize hq0 : A4.heap.size = q8 at *
  clear hq0
  clear c1 c2 c3 c4 c5
  refine (abytes_any (k := 4) F7.out.2.2.2.2 (by decide) (by rw [List.all_cons, List.all_nil, Bool.and_true]; exact HO.out.2.2) (by decide)).mono ?_
  rintro e A9 ⟨vn, Bn, rfl, hon, hln, hb⟩
  obtain ⟨on1, cn, rfl, hsn, hnn⟩ := hon.sl0
  rw [hln] at hsn ⊢
  have F8 := Lib.hid (And.intro (bcall F7.out.1 (Nat.le_refl _) hb) (And.intro (F7.out.2.1.keep hb) (And.intro (F7.out.2.2.1.keep hb) (And.intro F7.out.2.2.2.1 (And.intro hsn (hnn))))))
  clear F7
  clear hb hon hln hsn hnn
  go_wp2_with fail
  refine (add_short (f := 64) (k := 3) F8.out.2.2.1 F8.out.2.2.2.2.1 F8.out.2.2.2.2.2 (by rw [F8.out.2.2.2.1]; have h1 := HPz.out; have h2 := hdz_le pz; omega) (by decide) (by decide) (by decide)).mono ?_
  rintro e A10 ⟨rfl, ⟨v11, B12, hw2, hl2⟩, hbt⟩
  have hbn := Below.step F8.out.1 F8.out.1.size hbt (by have := HGG.out; simp; omega)
  have hxn : BxA w.heap.size x A10 := (hbt.block _ (lt_of_blk F8.out.2.1) (by have := HGG.out; simp; omega)).trans F8.out.2.1
  have hln : B12.length = 4 + (hdz pz + pz) + 7 := by rw [hl2, F8.out.2.2.2.1]
  have F9 := Lib.hid (And.intro hbn (And.intro hxn (And.intro hw2 (hln))))
  clear F8
  clear hw2 hl2 hbt hbn hxn hln
  obtain ⟨-, c1, c2, c3, c4, c5⟩ := F9.out.2.1.cells
  rw [HO.out.2.1] at c2
  by_cases hmd : 0 ≤ x.md
  · have e3 : (0 ≤ x.md) = True := eq_true hmd
    have HMD := Lib.hid hmd
    clear hmd
    go_wp2_with fail
    have hal := (Below.refl A10.heap.size A10).alloc (Nat.le_refl _) (.cells #[.int .i64 x.md] 3)
    have hnx : RI.Sl (A10.alloc (.cells #[.int .i64 x.md] 3)) (some ⟨A10.heap.size, 0, none⟩) 1 1 [x.md] := Rep.sl_one (R := RI) (y := x.md) (hnew _ _)
    have F10 := Lib.hid (And.intro (bcall F9.out.1 (Nat.le_refl _) hal) (And.intro (F9.out.2.1.keep hal) (And.intro (F9.out.2.2.1.keep hal) (And.intro F9.out.2.2.2 (hnx)))))
    clear F9
    clear hal hnx
    generalize A10.alloc (.cells #[.int .i64 x.md] 3) = A13 at *
    generalize hq0 : A10.heap.size = q14 at *
    clear hq0
    clear c1 c2 c3 c4 c5
    refine (abytes_any (k := 4) F10.out.2.2.2.2 (by decide) (by rw [List.all_cons, List.all_nil, Bool.and_true]; exact fits4_of HMD.out hmdb) (by decide)).mono ?_
    rintro e A15 ⟨vn, Bn, rfl, hon, hln, hb⟩
    obtain ⟨on1, cn, rfl, hsn, hnn⟩ := hon.sl0
    rw [hln] at hsn ⊢
    have F11 := Lib.hid (And.intro (bcall F10.out.1 (Nat.le_refl _) hb) (And.intro (F10.out.2.1.keep hb) (And.intro (F10.out.2.2.1.keep hb) (And.intro F10.out.2.2.2.1 (And.intro hsn (hnn))))))
    clear F10
    clear hb hon hln hsn hnn
    go_wp2_with fail
    refine (add_short (f := 128) (k := 4) F11.out.2.2.1 F11.out.2.2.2.2.1 F11.out.2.2.2.2.2 (by rw [F11.out.2.2.2.1]; have h1 := HPz.out; have h2 := hdz_le pz; omega) (by decide) (by decide) (by decide)).mono ?_
    rintro e A16 ⟨rfl, ⟨v17, B18, hw2, hl2⟩, hbt⟩
    have hbn := Below.step F11.out.1 F11.out.1.size hbt (by have := HGG.out; simp; omega)
    have hxn : BxA w.heap.size x A16 := (hbt.block _ (lt_of_blk F11.out.2.1) (by have := HGG.out; simp; omega)).trans F11.out.2.1
    have hln : B18.length = 4 + (hdz pz + pz) + 7 + 7 := by rw [hl2, F11.out.2.2.2.1]
    have F12 := Lib.hid (And.intro hbn (And.intro hxn (And.intro hw2 (hln))))
    clear F11
    clear hw2 hl2 hbt hbn hxn hln
    clear e3
    obtain ⟨-, c1, c2, c3, c4, c5⟩ := F12.out.2.1.cells
    rw [HO.out.2.1] at c2
    by_cases hpf : 0 ≤ x.pf
    · have e4 : (0 ≤ x.pf) = True := eq_true hpf
      have HPF := Lib.hid hpf
      clear hpf
      go_wp2_with fail
      have hal := (Below.refl A16.heap.size A16).alloc (Nat.le_refl _) (.cells #[.int .i64 x.pf] 3)
      have hnx : RI.Sl (A16.alloc (.cells #[.int .i64 x.pf] 3)) (some ⟨A16.heap.size, 0, none⟩) 1 1 [x.pf] := Rep.sl_one (R := RI) (y := x.pf) (hnew _ _)
      have F13 := Lib.hid (And.intro (bcall F12.out.1 (Nat.le_refl _) hal) (And.intro (F12.out.2.1.keep hal) (And.intro (F12.out.2.2.1.keep hal) (And.intro F12.out.2.2.2 (hnx)))))
      clear F12
      clear hal hnx
      generalize A16.alloc (.cells #[.int .i64 x.pf] 3) = A19 at *
      generalize hq0 : A16.heap.size = q20 at *
      clear hq0
      clear c1 c2 c3 c4 c5
      refine (abytes_any (k := 4) F13.out.2.2.2.2 (by decide) (by rw [List.all_cons, List.all_nil, Bool.and_true]; exact fits4_of HPF.out hpfb) (by decide)).mono ?_
      rintro e A21 ⟨vn, Bn, rfl, hon, hln, hb⟩
      obtain ⟨on1, cn, rfl, hsn, hnn⟩ := hon.sl0
      rw [hln] at hsn ⊢
      have F14 := Lib.hid (And.intro (bcall F13.out.1 (Nat.le_refl _) hb) (And.intro (F13.out.2.1.keep hb) (And.intro (F13.out.2.2.1.keep hb) (And.intro F13.out.2.2.2.1 (And.intro hsn (hnn))))))
      clear F13
      clear hb hon hln hsn hnn
      go_wp2_with fail
      refine (add_short (f := 64) (k := 5) F14.out.2.2.1 F14.out.2.2.2.2.1 F14.out.2.2.2.2.2 (by rw [F14.out.2.2.2.1]; have h1 := HPz.out; have h2 := hdz_le pz; omega) (by decide) (by decide) (by decide)).mono ?_
      rintro e A22 ⟨rfl, ⟨v23, B24, hw2, hl2⟩, hbt⟩
      have hbn := Below.step F14.out.1 F14.out.1.size hbt (by have := HGG.out; simp; omega)
      have hxn : BxA w.heap.size x A22 := (hbt.block _ (lt_of_blk F14.out.2.1) (by have := HGG.out; simp; omega)).trans F14.out.2.1
      have hln : B24.length = 4 + (hdz pz + pz) + 7 + 7 + 7 := by rw [hl2, F14.out.2.2.2.1]
      have F15 := Lib.hid (And.intro hbn (And.intro hxn (And.intro hw2 (hln))))
      clear F14
      clear hw2 hl2 hbt hbn hxn hln
      clear e4
      obtain ⟨-, c1, c2, c3, c4, c5⟩ := F15.out.2.1.cells
      rw [HO.out.2.1] at c2
      by_cases hcn : x.c.n = 0
      · have e5 : ((0 : Int) < (x.c.n : Int)) = False := by simp; omega
        have e6 : (0 < x.c.n) = False := by simp; omega
        have HCN := Lib.hid hcn
        clear hcn
        obtain ⟨o9, c9, hv9, -, -⟩ := F15.out.2.2.1.own.sl0
        have hbx := F15.out.2.2.1.bx
        rw [hv9] at hbx
        have d0 := cell_of (o := 0) hbx rfl
        have hle := F15.out.2.2.1.lt
        have HFIN := Lib.hid (And.intro (F15.out.2.2.1.own.mono (show w.heap.size ≤ _ from by have := HGG.out; omega)) (And.intro F15.out.2.2.2 F15.out.1))
        have HV9 := Lib.hid hv9
        clear hbx hle hv9
        go_wp2_with fail
        go_ret2
        exact ⟨_, _, rfl, HV9.out ▸ HFIN.out.1, by rw [HFIN.out.2.1, HS.out, if_pos (by have := HMD.out; omega), if_pos (by have := HPF.out; omega), if_pos (by have := HCN.out; omega)], HFIN.out.2.2⟩
      · have e5 : ((0 : Int) < (x.c.n : Int)) = True := by simp; omega
        have e6 : (0 < x.c.n) = True := by simp; omega
        have HCN := Lib.hid hcn
        clear hcn
        go_wp2_with fail
        refine (abytes_any (k := 4) (c := x.c.c) (HA.out.keep F15.out.1).c.sl (by decide) HCm.out (by omega)).mono ?_
        rintro e A25 ⟨vn, Bn, rfl, hon, hln, hb⟩
        obtain ⟨on1, cn, rfl, hsn, hnn⟩ := hon.sl0
        rw [hln] at hsn ⊢
        have F16 := Lib.hid (And.intro (bcall F15.out.1 (Nat.le_refl _) hb) (And.intro (F15.out.2.1.keep hb) (And.intro (F15.out.2.2.1.keep hb) (And.intro F15.out.2.2.2 (And.intro hsn (hnn))))))
        clear F15
        clear hb hon hln hsn hnn e5 e6 c1 c2 c3 c4 c5
        go_wp2_with fail
        refine (add_short (f := 192) (k := 8) F16.out.2.2.1 F16.out.2.2.2.2.1 F16.out.2.2.2.2.2 (by rw [F16.out.2.2.2.1]; have h1 := HPz.out; have h2 := hdz_le pz; omega) (by omega) (by decide) (by decide)).mono ?_
        rintro e A26 ⟨rfl, ⟨v27, B28, hw2, hl2⟩, hbt⟩
        have hbn := Below.step F16.out.1 F16.out.1.size hbt (by have := HGG.out; simp; omega)
        have hxn : BxA w.heap.size x A26 := (hbt.block _ (lt_of_blk F16.out.2.1) (by have := HGG.out; simp; omega)).trans F16.out.2.1
        have hln : B28.length = 4 + (hdz pz + pz) + 7 + 7 + 7 + (3 + 4 * x.c.n) := by rw [hl2, F16.out.2.2.2.1]; omega
        have F17 := Lib.hid (And.intro hbn (And.intro hxn (And.intro hw2 (hln))))
        clear F16
        clear hw2 hl2 hbt hbn hxn hln
        obtain ⟨o9, c9, hv9, -, -⟩ := F17.out.2.2.1.own.sl0
        have hbx := F17.out.2.2.1.bx
        rw [hv9] at hbx
        have d0 := cell_of (o := 0) hbx rfl
        have hle := F17.out.2.2.1.lt
        have HFIN := Lib.hid (And.intro (F17.out.2.2.1.own.mono (show w.heap.size ≤ _ from by have := HGG.out; omega)) (And.intro F17.out.2.2.2 F17.out.1))
        have HV9 := Lib.hid hv9
        clear hbx hle hv9
        go_wp2_with fail
        go_ret2
        exact ⟨_, _, rfl, HV9.out ▸ HFIN.out.1, by rw [HFIN.out.2.1, HS.out, if_pos (by have := HMD.out; omega), if_pos (by have := HPF.out; omega), if_neg (by have := HCN.out; omega)], HFIN.out.2.2⟩
    · have e4 : (0 ≤ x.pf) = False := eq_false hpf
      have HPF := Lib.hid hpf
      clear hpf
      by_cases hcn : x.c.n = 0
      · have e5 : ((0 : Int) < (x.c.n : Int)) = False := by simp; omega
        have e6 : (0 < x.c.n) = False := by simp; omega
        have HCN := Lib.hid hcn
        clear hcn
        obtain ⟨o9, c9, hv9, -, -⟩ := F12.out.2.2.1.own.sl0
        have hbx := F12.out.2.2.1.bx
        rw [hv9] at hbx
        have d0 := cell_of (o := 0) hbx rfl
        have hle := F12.out.2.2.1.lt
        have HFIN := Lib.hid (And.intro (F12.out.2.2.1.own.mono (show w.heap.size ≤ _ from by have := HGG.out; omega)) (And.intro F12.out.2.2.2 F12.out.1))
        have HV9 := Lib.hid hv9
        clear hbx hle hv9
        go_wp2_with fail
        go_ret2
        exact ⟨_, _, rfl, HV9.out ▸ HFIN.out.1, by rw [HFIN.out.2.1, HS.out, if_pos (by have := HMD.out; omega), if_neg (by have := HPF.out; omega), if_pos (by have := HCN.out; omega)], HFIN.out.2.2⟩
      · have e5 : ((0 : Int) < (x.c.n : Int)) = True := by simp; omega
        have e6 : (0 < x.c.n) = True := by simp; omega
        have HCN := Lib.hid hcn
        clear hcn
        go_wp2_with fail
        refine (abytes_any (k := 4) (c := x.c.c) (HA.out.keep F12.out.1).c.sl (by decide) HCm.out (by omega)).mono ?_
        rintro e A29 ⟨vn, Bn, rfl, hon, hln, hb⟩
        obtain ⟨on1, cn, rfl, hsn, hnn⟩ := hon.sl0
        rw [hln] at hsn ⊢
        have F18 := Lib.hid (And.intro (bcall F12.out.1 (Nat.le_refl _) hb) (And.intro (F12.out.2.1.keep hb) (And.intro (F12.out.2.2.1.keep hb) (And.intro F12.out.2.2.2 (And.intro hsn (hnn))))))
        clear F12
        clear hb hon hln hsn hnn e5 e6 c1 c2 c3 c4 c5
        go_wp2_with fail
        refine (add_short (f := 192) (k := 8) F18.out.2.2.1 F18.out.2.2.2.2.1 F18.out.2.2.2.2.2 (by rw [F18.out.2.2.2.1]; have h1 := HPz.out; have h2 := hdz_le pz; omega) (by omega) (by decide) (by decide)).mono ?_
        rintro e A30 ⟨rfl, ⟨v31, B32, hw2, hl2⟩, hbt⟩
        have hbn := Below.step F18.out.1 F18.out.1.size hbt (by have := HGG.out; simp; omega)
        have hxn : BxA w.heap.size x A30 := (hbt.block _ (lt_of_blk F18.out.2.1) (by have := HGG.out; simp; omega)).trans F18.out.2.1
        have hln : B32.length = 4 + (hdz pz + pz) + 7 + 7 + (3 + 4 * x.c.n) := by rw [hl2, F18.out.2.2.2.1]; omega
        have F19 := Lib.hid (And.intro hbn (And.intro hxn (And.intro hw2 (hln))))
        clear F18
        clear hw2 hl2 hbt hbn hxn hln
        obtain ⟨o9, c9, hv9, -, -⟩ := F19.out.2.2.1.own.sl0
        have hbx := F19.out.2.2.1.bx
        rw [hv9] at hbx
        have d0 := cell_of (o := 0) hbx rfl
        have hle := F19.out.2.2.1.lt
        have HFIN := Lib.hid (And.intro (F19.out.2.2.1.own.mono (show w.heap.size ≤ _ from by have := HGG.out; omega)) (And.intro F19.out.2.2.2 F19.out.1))
        have HV9 := Lib.hid hv9
        clear hbx hle hv9
        go_wp2_with fail
        go_ret2
        exact ⟨_, _, rfl, HV9.out ▸ HFIN.out.1, by rw [HFIN.out.2.1, HS.out, if_pos (by have := HMD.out; omega), if_neg (by have := HPF.out; omega), if_neg (by have := HCN.out; omega)], HFIN.out.2.2⟩
  · have e3 : (0 ≤ x.md) = False := eq_false hmd
    have HMD := Lib.hid hmd
    clear hmd
    by_cases hpf : 0 ≤ x.pf
    · have e4 : (0 ≤ x.pf) = True := eq_true hpf
      have HPF := Lib.hid hpf
      clear hpf
      go_wp2_with fail
      have hal := (Below.refl A10.heap.size A10).alloc (Nat.le_refl _) (.cells #[.int .i64 x.pf] 3)
      have hnx : RI.Sl (A10.alloc (.cells #[.int .i64 x.pf] 3)) (some ⟨A10.heap.size, 0, none⟩) 1 1 [x.pf] := Rep.sl_one (R := RI) (y := x.pf) (hnew _ _)
      have F20 := Lib.hid (And.intro (bcall F9.out.1 (Nat.le_refl _) hal) (And.intro (F9.out.2.1.keep hal) (And.intro (F9.out.2.2.1.keep hal) (And.intro F9.out.2.2.2 (hnx)))))
      clear F9
      clear hal hnx
      generalize A10.alloc (.cells #[.int .i64 x.pf] 3) = A33 at *
      generalize hq0 : A10.heap.size = q34 at *
      clear hq0
      clear c1 c2 c3 c4 c5
      refine (abytes_any (k := 4) F20.out.2.2.2.2 (by decide) (by rw [List.all_cons, List.all_nil, Bool.and_true]; exact fits4_of HPF.out hpfb) (by decide)).mono ?_
      rintro e A35 ⟨vn, Bn, rfl, hon, hln, hb⟩
      obtain ⟨on1, cn, rfl, hsn, hnn⟩ := hon.sl0
      rw [hln] at hsn ⊢
      have F21 := Lib.hid (And.intro (bcall F20.out.1 (Nat.le_refl _) hb) (And.intro (F20.out.2.1.keep hb) (And.intro (F20.out.2.2.1.keep hb) (And.intro F20.out.2.2.2.1 (And.intro hsn (hnn))))))
      clear F20
      clear hb hon hln hsn hnn
      go_wp2_with fail
      refine (add_short (f := 64) (k := 5) F21.out.2.2.1 F21.out.2.2.2.2.1 F21.out.2.2.2.2.2 (by rw [F21.out.2.2.2.1]; have h1 := HPz.out; have h2 := hdz_le pz; omega) (by decide) (by decide) (by decide)).mono ?_
      rintro e A36 ⟨rfl, ⟨v37, B38, hw2, hl2⟩, hbt⟩
      have hbn := Below.step F21.out.1 F21.out.1.size hbt (by have := HGG.out; simp; omega)
      have hxn : BxA w.heap.size x A36 := (hbt.block _ (lt_of_blk F21.out.2.1) (by have := HGG.out; simp; omega)).trans F21.out.2.1
      have hln : B38.length = 4 + (hdz pz + pz) + 7 + 7 := by rw [hl2, F21.out.2.2.2.1]
      have F22 := Lib.hid (And.intro hbn (And.intro hxn (And.intro hw2 (hln))))
      clear F21
      clear hw2 hl2 hbt hbn hxn hln
      clear e4
      obtain ⟨-, c1, c2, c3, c4, c5⟩ := F22.out.2.1.cells
      rw [HO.out.2.1] at c2
      by_cases hcn : x.c.n = 0
      · have e5 : ((0 : Int) < (x.c.n : Int)) = False := by simp; omega
        have e6 : (0 < x.c.n) = False := by simp; omega
        have HCN := Lib.hid hcn
        clear hcn
        obtain ⟨o9, c9, hv9, -, -⟩ := F22.out.2.2.1.own.sl0
        have hbx := F22.out.2.2.1.bx
        rw [hv9] at hbx
        have d0 := cell_of (o := 0) hbx rfl
        have hle := F22.out.2.2.1.lt
        have HFIN := Lib.hid (And.intro (F22.out.2.2.1.own.mono (show w.heap.size ≤ _ from by have := HGG.out; omega)) (And.intro F22.out.2.2.2 F22.out.1))
        have HV9 := Lib.hid hv9
        clear hbx hle hv9
        go_wp2_with fail
        go_ret2
        exact ⟨_, _, rfl, HV9.out ▸ HFIN.out.1, by rw [HFIN.out.2.1, HS.out, if_neg (by have := HMD.out; omega), if_pos (by have := HPF.out; omega), if_pos (by have := HCN.out; omega)], HFIN.out.2.2⟩
      · have e5 : ((0 : Int) < (x.c.n : Int)) = True := by simp; omega
        have e6 : (0 < x.c.n) = True := by simp; omega
        have HCN := Lib.hid hcn
        clear hcn
        go_wp2_with fail
        refine (abytes_any (k := 4) (c := x.c.c) (HA.out.keep F22.out.1).c.sl (by decide) HCm.out (by omega)).mono ?_
        rintro e A39 ⟨vn, Bn, rfl, hon, hln, hb⟩
        obtain ⟨on1, cn, rfl, hsn, hnn⟩ := hon.sl0
        rw [hln] at hsn ⊢
        have F23 := Lib.hid (And.intro (bcall F22.out.1 (Nat.le_refl _) hb) (And.intro (F22.out.2.1.keep hb) (And.intro (F22.out.2.2.1.keep hb) (And.intro F22.out.2.2.2 (And.intro hsn (hnn))))))
        clear F22
        clear hb hon hln hsn hnn e5 e6 c1 c2 c3 c4 c5
        go_wp2_with fail
        refine (add_short (f := 192) (k := 8) F23.out.2.2.1 F23.out.2.2.2.2.1 F23.out.2.2.2.2.2 (by rw [F23.out.2.2.2.1]; have h1 := HPz.out; have h2 := hdz_le pz; omega) (by omega) (by decide) (by decide)).mono ?_
        rintro e A40 ⟨rfl, ⟨v41, B42, hw2, hl2⟩, hbt⟩
        have hbn := Below.step F23.out.1 F23.out.1.size hbt (by have := HGG.out; simp; omega)
        have hxn : BxA w.heap.size x A40 := (hbt.block _ (lt_of_blk F23.out.2.1) (by have := HGG.out; simp; omega)).trans F23.out.2.1
        have hln : B42.length = 4 + (hdz pz + pz) + 7 + 7 + (3 + 4 * x.c.n) := by rw [hl2, F23.out.2.2.2.1]; omega
        have F24 := Lib.hid (And.intro hbn (And.intro hxn (And.intro hw2 (hln))))
        clear F23
        clear hw2 hl2 hbt hbn hxn hln
        obtain ⟨o9, c9, hv9, -, -⟩ := F24.out.2.2.1.own.sl0
        have hbx := F24.out.2.2.1.bx
        rw [hv9] at hbx
        have d0 := cell_of (o := 0) hbx rfl
        have hle := F24.out.2.2.1.lt
        have HFIN := Lib.hid (And.intro (F24.out.2.2.1.own.mono (show w.heap.size ≤ _ from by have := HGG.out; omega)) (And.intro F24.out.2.2.2 F24.out.1))
        have HV9 := Lib.hid hv9
        clear hbx hle hv9
        go_wp2_with fail
        go_ret2
        exact ⟨_, _, rfl, HV9.out ▸ HFIN.out.1, by rw [HFIN.out.2.1, HS.out, if_neg (by have := HMD.out; omega), if_pos (by have := HPF.out; omega), if_neg (by have := HCN.out; omega)], HFIN.out.2.2⟩
    · have e4 : (0 ≤ x.pf) = False := eq_false hpf
      have HPF := Lib.hid hpf
      clear hpf
      by_cases hcn : x.c.n = 0
      · have e5 : ((0 : Int) < (x.c.n : Int)) = False := by simp; omega
        have e6 : (0 < x.c.n) = False := by simp; omega
        have HCN := Lib.hid hcn
        clear hcn
        obtain ⟨o9, c9, hv9, -, -⟩ := F9.out.2.2.1.own.sl0
        have hbx := F9.out.2.2.1.bx
        rw [hv9] at hbx
        have d0 := cell_of (o := 0) hbx rfl
        have hle := F9.out.2.2.1.lt
        have HFIN := Lib.hid (And.intro (F9.out.2.2.1.own.mono (show w.heap.size ≤ _ from by have := HGG.out; omega)) (And.intro F9.out.2.2.2 F9.out.1))
        have HV9 := Lib.hid hv9
        clear hbx hle hv9
        go_wp2_with fail
        go_ret2
        exact ⟨_, _, rfl, HV9.out ▸ HFIN.out.1, by rw [HFIN.out.2.1, HS.out, if_neg (by have := HMD.out; omega), if_neg (by have := HPF.out; omega), if_pos (by have := HCN.out; omega)], HFIN.out.2.2⟩
      · have e5 : ((0 : Int) < (x.c.n : Int)) = True := by simp; omega
        have e6 : (0 < x.c.n) = True := by simp; omega
        have HCN := Lib.hid hcn
        clear hcn
        go_wp2_with fail
        refine (abytes_any (k := 4) (c := x.c.c) (HA.out.keep F9.out.1).c.sl (by decide) HCm.out (by omega)).mono ?_
        rintro e A43 ⟨vn, Bn, rfl, hon, hln, hb⟩
        obtain ⟨on1, cn, rfl, hsn, hnn⟩ := hon.sl0
        rw [hln] at hsn ⊢
        have F25 := Lib.hid (And.intro (bcall F9.out.1 (Nat.le_refl _) hb) (And.intro (F9.out.2.1.keep hb) (And.intro (F9.out.2.2.1.keep hb) (And.intro F9.out.2.2.2 (And.intro hsn (hnn))))))
        clear F9
        clear hb hon hln hsn hnn e5 e6 c1 c2 c3 c4 c5
        go_wp2_with fail
        refine (add_short (f := 192) (k := 8) F25.out.2.2.1 F25.out.2.2.2.2.1 F25.out.2.2.2.2.2 (by rw [F25.out.2.2.2.1]; have h1 := HPz.out; have h2 := hdz_le pz; omega) (by omega) (by decide) (by decide)).mono ?_
        rintro e A44 ⟨rfl, ⟨v45, B46, hw2, hl2⟩, hbt⟩
        have hbn := Below.step F25.out.1 F25.out.1.size hbt (by have := HGG.out; simp; omega)
        have hxn : BxA w.heap.size x A44 := (hbt.block _ (lt_of_blk F25.out.2.1) (by have := HGG.out; simp; omega)).trans F25.out.2.1
        have hln : B46.length = 4 + (hdz pz + pz) + 7 + (3 + 4 * x.c.n) := by rw [hl2, F25.out.2.2.2.1]; omega
        have F26 := Lib.hid (And.intro hbn (And.intro hxn (And.intro hw2 (hln))))
        clear F25
        clear hw2 hl2 hbt hbn hxn hln
        obtain ⟨o9, c9, hv9, -, -⟩ := F26.out.2.2.1.own.sl0
        have hbx := F26.out.2.2.1.bx
        rw [hv9] at hbx
        have d0 := cell_of (o := 0) hbx rfl
        have hle := F26.out.2.2.1.lt
        have HFIN := Lib.hid (And.intro (F26.out.2.2.1.own.mono (show w.heap.size ≤ _ from by have := HGG.out; omega)) (And.intro F26.out.2.2.2 F26.out.1))
        have HV9 := Lib.hid hv9
        clear hbx hle hv9
        go_wp2_with fail
        go_ret2
        exact ⟨_, _, rfl, HV9.out ▸ HFIN.out.1, by rw [HFIN.out.2.1, HS.out, if_neg (by have := HMD.out; omega), if_neg (by have := HPF.out; omega), if_neg (by have := HCN.out; omega)], HFIN.out.2.2⟩
end Go.Proofs.Ytadoflcomienoaa
/- The bytes of an attribute, as the reference tells: how many. -/
namespace Go.Proofs.Ytadoflcomienoaa
open Go.RowKit

theorem Rep.own_flat {α : Type} [Inhabited α] {R : Rep α} {w : World} {b base : Nat} {M : List α} (h : w.heap[b]? = some (.cells (R.flat M).toArray R.T (0, 0))) (hb : base ≤ b) (hm : M.length ≤ maxLen) : R.Own w base (.slice (some ⟨b, 0, none⟩) M.length M.length) M :=
  ⟨R.flat_length M, .inr ⟨b, M.length, _, rfl, hb, h, Nat.le_refl _, hm, by simp [R.flat_length], by rw [← R.flat_length]; simp⟩⟩
theorem rputk_any (k : Nat) (hk : k = 2 ∨ k = 4) (n : Int) (hn : fitsB k n = true) (w : World) : Calls Try.prog 27 #[.int .i64 n, .int .i64 (k : Nat)] w fun e w' => ∃ v B, e = .returned v ∧ RB.Own w' w.heap.size v B ∧ B.length = k ∧ Below w.heap.size w w' := by
  unfold fitsB at hn
  rw [Bool.and_eq_true, decide_eq_true_eq, decide_eq_true_eq] at hn
  obtain ⟨m, rfl⟩ : ∃ m : Nat, n = m := ⟨n.toNat, by omega⟩
  rcases hk with rfl | rfl
  · exact (rput2_any m (by have := hn.2; norm_cast at this) w).mono fun e w' ⟨v, h1, h2, h3⟩ => ⟨v, _, h1, h2, be_length _ _, h3⟩
  · exact (rput4_any m (by have := hn.2; norm_cast at this) w).mono fun e w' ⟨v, h1, h2, h3⟩ => ⟨v, _, h1, h2, be_length _ _, h3⟩
set_option maxRecDepth 100000 in
theorem rone_short {w : World} {da : Option Addr} {dn dc : Nat} {D : List Nat} (hd : RB.Sl w da dn dc D) (hdn : da = none → dc = 0) (hs : dn ≤ 255) {f k : Nat} (hf : f < 256) (hk : k < 256) : Calls Try.prog 26 #[.int .i64 (f : Int), .int .i64 (k : Int), .slice da dn dc] w fun e w' => ∃ v B, e = .returned v ∧ RB.Own w' w.heap.size v B ∧ B.length = 3 + dn ∧ Below w.heap.size w w' := by
  have hal := (Below.refl w.heap.size w).alloc (Nat.le_refl _) (.cells #[.int .u8 (f : Int), .int .u8 (k : Int), .int .u8 (dn : Int)] 5)
  have hown : RB.Own (w.alloc (.cells #[.int .u8 (f : Int), .int .u8 (k : Int), .int .u8 (dn : Int)] 5)) w.heap.size (.slice (some ⟨w.heap.size, 0, none⟩) 3 3) [f, k, dn] := Rep.own_flat (R := RB) (M := [f, k, dn]) (hnew _ _) (Nat.le_refl _) (by unfold maxLen; simp)
  have F0 := Lib.hid (And.intro hal (And.intro hown (And.intro (hd.keep hal) (And.intro hdn hd.len.symm))))
  have e1 : ((255 : Int) < (dn : Int)) = False := by simp; omega
  clear hal hown hd hdn
  go_enter Try.func26, Try.ntmps26
  go_wp2_with (at_builtin; refine halt ?_)
  refine Halted.go ?_
  refine Rep.append_list T27 rfl _ _ rfl rfl F0.out.2.1 (M := D) rfl F0.out.2.2.1 F0.out.2.2.2.1 (by unfold maxLen; simp; omega) (by simp; omega) F0.out.1.size ?_
  intro v3 w3 hown3 hb3 _
  have F1 := Lib.hid (And.intro hown3 (And.intro (show ([f, k, dn] ++ D).length = 3 + dn from by rw [List.length_append, F0.out.2.2.2.2]; rfl) (F0.out.1.trans hb3)))
  clear hown3 hb3 F0
  go_wp2_with fail
  go_ret
  exact ⟨_, _, rfl, F1.out⟩
set_option maxRecDepth 100000 in
theorem rone_long {w : World} {da : Option Addr} {dn dc : Nat} {D : List Nat} (hd : RB.Sl w da dn dc D) (hdn : da = none → dc = 0) (hs : 255 < dn) (hs2 : dn ≤ 65535) : Calls Try.prog 26 #[.int .i64 64, .int .i64 2, .slice da dn dc] w fun e w' => ∃ v B, e = .returned v ∧ RB.Own w' w.heap.size v B ∧ B.length = 4 + dn ∧ Below w.heap.size w w' := by
  have hal := (Below.refl w.heap.size w).alloc (Nat.le_refl _) (.cells #[.int .u8 80, .int .u8 2] 5)
  have hown : RB.Own (w.alloc (.cells #[.int .u8 80, .int .u8 2] 5)) w.heap.size (.slice (some ⟨w.heap.size, 0, none⟩) 2 2) [80, 2] := Rep.own_flat (R := RB) (M := [80, 2]) (hnew _ _) (Nat.le_refl _) (by unfold maxLen; simp)
  have F0 := Lib.hid (And.intro hal (And.intro hown (And.intro (hd.keep hal) (And.intro hdn hd.len.symm))))
  have e1 : ((255 : Int) < (dn : Int)) = True := by simp; omega
  have H0 := Lib.hid (And.intro hd hdn)
  have HP := Lib.hid (fun W => rputk_any 2 (by decide) dn (by unfold fitsB; simp; omega) W)
  clear hal hown hd hdn
  go_enter Try.func26, Try.ntmps26
  go_wp2_with fail
  refine (HP.out _).mono ?_
  rintro e w4 ⟨v4, B4, rfl, hown4, hl4, hb4⟩
  obtain ⟨oa4, c4, rfl, hs4, hn4⟩ := hown4.sl0
  rw [hl4] at hs4 ⊢
  have F1 := Lib.hid (And.intro (bcall F0.out.1 (Nat.le_refl _) hb4) (And.intro (F0.out.2.1.below hb4) (And.intro (F0.out.2.2.1.keep hb4) (And.intro F0.out.2.2.2.1 (And.intro F0.out.2.2.2.2 (And.intro hs4 (And.intro hn4 hl4)))))))
  clear hown4 hb4 hs4 hn4 hl4 F0
  go_wp2_with (at_builtin; refine halt ?_)
  refine Halted.go ?_
  refine Rep.append_list T27 rfl _ _ rfl rfl F1.out.2.1 (M := B4) rfl F1.out.2.2.2.2.2.1 F1.out.2.2.2.2.2.2.1 (by unfold maxLen; simp) (by simp) F1.out.1.size ?_
  intro v3 w3 hown3 hb3 hg3
  have hl3 : ([80, 2] ++ B4).length = 4 := by rw [List.length_append, F1.out.2.2.2.2.2.2.2]; rfl
  obtain ⟨oa3, c3, rfl, -, -⟩ := hown3.sl0
  rw [hl3] at hown3 ⊢
  have F2 := Lib.hid (And.intro (F1.out.1.trans hb3) (And.intro hown3 (And.intro hl3 F1.out.2.2.2.2.1)))
  clear hown3 hb3 hl3 hg3 F1
  go_wp2_with (at_builtin; refine halt ?_)
  refine Halted.go ?_
  have hl4 := F2.out.2.2.1
  refine Rep.append_list T27 rfl _ _ rfl rfl F2.out.2.1 (L := [80, 2] ++ B4) (M := D) rfl (H0.out.1.keep F2.out.1) H0.out.2 (by unfold maxLen; rw [hl4]; omega) (by rw [hl4]; omega) F2.out.1.size ?_
  intro v5 w5 hown5 hb5 _
  have F3 := Lib.hid (And.intro hown5 (And.intro (show ([80, 2] ++ B4 ++ D).length = 4 + dn from by rw [List.length_append, hl4, F2.out.2.2.2]) (F2.out.1.trans hb5)))
  clear hown5 hb5 F2 hl4
  go_wp2_with fail
  go_ret
  exact ⟨_, _, rfl, F3.out⟩
theorem rone_path {w : World} {da : Option Addr} {dn dc : Nat} {D : List Nat} (hd : RB.Sl w da dn dc D) (hdn : da = none → dc = 0) (hs2 : dn ≤ 65535) : Calls Try.prog 26 #[.int .i64 64, .int .i64 2, .slice da dn dc] w fun e w' => ∃ v B, e = .returned v ∧ RB.Own w' w.heap.size v B ∧ B.length = hdz dn + dn ∧ Below w.heap.size w w' := by
  by_cases hs : 255 < dn
  · have := rone_long hd hdn hs hs2
    have e : hdz dn = 4 := if_pos hs
    rw [e]; exact this
  · have := rone_short (f := 64) (k := 2) hd hdn (by omega) (by decide) (by decide)
    have e : hdz dn = 3 := if_neg hs
    rw [e]; exact this
end Go.Proofs.Ytadoflcomienoaa
/- append, and in which block its result lies. -/
namespace Go.Proofs.Ytadoflcomienoaa
open Go Go.RowKit

/-- append's block is the old one, or new -/
theorem append_block {P : Program} (w : World) (base : Nat) (t ty e : TypeId) (i : TypeInfo) (z : Value) (size bytes : Nat) (ht : P.underlying t = some (.slice e)) (hi : P.info? e = some i) (hz : i.zero = some z)
    (hsize : i.size = size) (hby : i.bytes = bytes) (v : Value) (n : Nat) (xs : List Value) (hown : w.ownsRow base e size v n xs)
    (a : Addr) (m c : Nat) (news : List Value) (hl : news.length = m * size) (hnews : ∀ j u, news[j]? = some u → w.cell? (a.add j) = some u) (h1 : ∀ u ∈ news, u.oneCell' = true)
    (hm : 0 < m) (h63 : n + m ≤ maxLen) (hbytes : (n + m) * bytes ≤ 140737488355328) {v' : Value} {w' : World} (hrun : (Builtin.append_ #[t, t] ty #[v, .slice (some a) m c]).run P w = .ok v' w') :
    v'.ownBlock = v.ownBlock ∨ v'.ownBlock = some w.heap.size := by
  subst hsize
  subst hby
  have hsmall : n + m ≤ 9223372036854775807 := by simp only [maxLen] at h63; omega
  rcases hown.2 with ⟨rfl, rfl⟩ | ⟨g, cap, cur, rfl, hbg, hg, hnc, hcm, hcs, htake⟩
  · have hr := run_append_nil (P := P) w t ty e i z ht hi hz a m c news hl hnews (by omega) (by omega) (by have hb := hbytes; simp only [Nat.zero_add] at hb; omega)
    rw [hr] at hrun
    injection hrun with h2 _
    subst h2
    exact .inr rfl
  · by_cases hroom : n + m ≤ cap
    · have hfit : n * i.size + news.length ≤ cur.size := by rw [hl, hcs, ← Nat.add_mul]; exact Nat.mul_le_mul_right _ hroom
      have hr := run_append_room (P := P) w t ty e i ht hi g n cap cur hg a m c news hl hnews h1 hroom hfit
      rw [hr] at hrun
      injection hrun with h2 _
      subst h2
      exact .inl rfl
    · have holds : ∀ j u, xs[j]? = some u → w.cell? ((⟨g, 0, none⟩ : Addr).add j) = some u := hown.cells (g := g) rfl
      have hr := run_append_grow (P := P) w t ty e i z ht hi hz ⟨g, 0, none⟩ n cap xs hown.1 holds a m c news hl hnews (by omega) (by omega) (growslice_fits (by omega) hbytes)
      rw [hr] at hrun
      injection hrun with h2 _
      subst h2
      exact .inr rfl

namespace Rep
variable {α : Type} [Inhabited α] {R : Rep α} {P : Program} {ops : Array Oper} {rest : List Oper} {o : Oper} {a : Act} {Q : Exit → Act → World → Prop} {w : World}
theorem run_append_list2 {t ty : TypeId} {bytes : Nat} (hT : Ty P t R bytes) {base : Nat} {v : Value} {L : List α} (hown : R.Own w base v L) {sa : Option Addr} {m c : Nat} {M : List α} (hM : R.Sl w sa m c M) (h0 : 0 < m)
    (hmax : L.length + m ≤ maxLen) (hbytes : (L.length + m) * bytes ≤ 140737488355328) (hbase : base ≤ w.heap.size) :
    ∃ v' w', (Builtin.append_ #[t, t] ty #[v, .slice sa m c]).run P w = .ok v' w' ∧ R.Own w' base v' (L ++ M) ∧ Below base w w' ∧ ∀ bad, v.ownBlock ≠ some bad → bad < w.heap.size → v'.ownBlock ≠ some bad ∧ w'.heap[bad]? = w.heap[bad]? := by
  obtain ⟨b, off, rfl, hr⟩ := hM.row h0
  obtain ⟨v', w', e1, e2, e3, e4⟩ := run_append_list (ty := ty) hT hown hM (fun h => by cases h) hmax hbytes hbase
  obtain ⟨i, z, h1, h2, h3, h4, h5⟩ := hT.hi
  have hb := append_block w base t ty R.T i z R.k bytes hT.ht h1 h2 h3 h4 v L.length (R.flat L) hown ⟨b, off, none⟩ m c (R.flat M) (by rw [R.flat_length, ← hM.len]) (news_of_row hr) (fun u hu => R.flat_cell1 M u hu) h0 hmax hbytes e1
  refine ⟨v', w', e1, e2, e3, fun bad h6 h7 => ⟨?_, e4.block bad h7 (fun h => h6 h.symm)⟩⟩
  rcases hb with hb | hb
  · rw [hb]; exact h6
  · rw [hb]; intro h; injection h with h; omega
theorem append_list2 {t : TypeId} {bytes : Nat} (hT : Ty P t R bytes) (hgd : o.guard = none) (s x : Operand) (ho : o.op = .call { callee := .builtin .append, args := #[s, x], argTypes := #[t, t] })
    {base : Nat} {v : Value} {L : List α} (hs : a.eval s = v) (hown : R.Own w base v L) {sa : Option Addr} {m c : Nat} {M : List α} (hx : a.eval x = .slice sa m c) (hM : R.Sl w sa m c M) (h0 : 0 < m)
    (hmax : L.length + m ≤ maxLen) (hbytes : (L.length + m) * bytes ≤ 140737488355328) (hbase : base ≤ w.heap.size)
    (h : ∀ v' w', R.Own w' base v' (L ++ M) → Below base w w' → (∀ bad, v.ownBlock ≠ some bad → bad < w.heap.size → v'.ownBlock ≠ some bad ∧ w'.heap[bad]? = w.heap[bad]?) → wpList P ops Q rest (a.put o.dst v') w') : wpList P ops Q (o :: rest) a w :=
  wpList_plain hgd fun K hK => by
    obtain ⟨v', w', e1, e2, e3, e4⟩ := run_append_list2 hT hown hM h0 hmax hbytes hbase (ty := o.type)
    have hk := hK _ _ (h v' w' e2 e3 e4)
    unfold Oper.wp execOp
    simp only [ho, resolve, invoke, builtin, Sem.run_bind, Sem.run_pure, Result.andThen_ok, List.map_toArray, List.map_cons, List.map_nil, hs, hx, e1]
    exact hk
end Rep
end Go.Proofs.Ytadoflcomienoaa
