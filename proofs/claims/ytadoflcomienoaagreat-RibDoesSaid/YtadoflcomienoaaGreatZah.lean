/- Which attributes may be, as the program tells. -/
import Derived.Test.YtadoflcomienoaaGreatZag
import Derived.Test.YtadoflcomienoaaGreatZac
import Derived.Test.YtadoflcomienoaaGreatZae
namespace Go.Proofs.YtadoflcomienoaaGreat
open Go.RowKit

def fitsB (wide : Nat) (n : Int) : Bool := decide (0 ≤ n) && decide (n < 2 ^ (8 * wide))
def okSg (four : Bool) (s : Sg) : Bool := (decide (1 ≤ s.2.length) && decide (s.2.length ≤ 64)) && s.2.all (fitsB (wd four))
def okA (four : Bool) (x : At) : Bool := ((inI x.o 0 2 && !(x.nx == 0) && inI x.md (-1) 4294967295 && inI x.pf (-1) 4294967295) && (decide (x.p.length ≤ 8) && x.p.all (okSg four))) && (decide (x.c.length ≤ 32) && x.c.all (fitsB 4))
theorem inI_fits4 (n : Int) : inI n 0 4294967295 = fitsB 4 n := by
  unfold inI fitsB
  rw [Bool.eq_iff_iff]; simp; omega
theorem inI_fits2 (n : Int) : inI n 0 65535 = fitsB 2 n := by
  unfold inI fitsB
  rw [Bool.eq_iff_iff]; simp; omega
theorem oddas_any {q : Nat} {four : Bool} {w : World} (hq : BxB q four w) (n : Int) : Calls Tryz.prog 142 #[.int .i64 n, .pointer (some ⟨q, 0, none⟩)] w fun e w' => e = .returned (.bool (!fitsB (wd four) n)) ∧ Below w.heap.size w w' := by
  have c0 := hq.cell
  clear hq
  cases four with
  | true =>
    have HS := Lib.hid (show ∀ W, Calls Tryz.prog 143 #[.bool true] W fun e w' => e = .returned (.int .i64 4) ∧ w' = W from fun W => asize_any true W)
    have HW := Lib.hid (show ∀ W, Calls Tryz.prog 107 #[.int .i64 n, .int .i64 0, .int .i64 4294967295] W fun e w' => e = .returned (.bool (fitsB (wd true) n)) ∧ w' = W from fun W => by have := within_any n 0 4294967295 W; rwa [inI_fits4] at this)
    generalize fitsB (wd true) n = o at *
    go_enter Tryz.func142, Tryz.ntmps142
    go_wp2_with fail
    refine (HS.out _).mono ?_
    rintro e w1 ⟨rfl, hw⟩
    subst w1
    go_wp2_with fail
    refine (HW.out _).mono ?_
    rintro e w1 ⟨rfl, hw⟩
    subst w1
    go_wp2_with fail
    go_ret
    exact ⟨rfl, Below.refl _ _⟩
  | false =>
    have HS := Lib.hid (show ∀ W, Calls Tryz.prog 143 #[.bool false] W fun e w' => e = .returned (.int .i64 2) ∧ w' = W from fun W => asize_any false W)
    have HW := Lib.hid (show ∀ W, Calls Tryz.prog 107 #[.int .i64 n, .int .i64 0, .int .i64 65535] W fun e w' => e = .returned (.bool (fitsB (wd false) n)) ∧ w' = W from fun W => by have := within_any n 0 65535 W; rwa [inI_fits2] at this)
    generalize fitsB (wd false) n = o at *
    go_enter Tryz.func142, Tryz.ntmps142
    go_wp2_with fail
    refine (HS.out _).mono ?_
    rintro e w1 ⟨rfl, hw⟩
    subst w1
    go_wp2_with fail
    refine (HW.out _).mono ?_
    rintro e w1 ⟨rfl, hw⟩
    subst w1
    go_wp2_with fail
    go_ret
    exact ⟨rfl, Below.refl _ _⟩
theorem oddcm_any (w : World) (n : Int) : Calls Tryz.prog 106 #[.int .i64 n] w fun e w' => e = .returned (.bool (!fitsB 4 n)) ∧ Below w.heap.size w w' := by
  have HW := Lib.hid (show ∀ W, Calls Tryz.prog 107 #[.int .i64 n, .int .i64 0, .int .i64 4294967295] W fun e w' => e = .returned (.bool (fitsB 4 n)) ∧ w' = W from fun W => by have := within_any n 0 4294967295 W; rwa [inI_fits4] at this)
  generalize fitsB 4 n = o at *
  go_enter Tryz.func106, Tryz.ntmps106
  go_wp2_with fail
  refine (HW.out _).mono ?_
  rintro e w1 ⟨rfl, hw⟩
  subst w1
  go_wp2_with fail
  go_ret
  exact ⟨rfl, Below.refl _ _⟩
set_option maxRecDepth 100000 in
set_option maxHeartbeats 1000000 in
theorem idx_as {w : World} {oa : Option Addr} {n c : Nat} {L : List Int} {P : Int → Bool} {q : Nat} (h : RI.Sl w oa n c L) (hc : ∀ (W : World) (y : Int), Below w.heap.size w W → y ∈ L → Calls Tryz.prog 142 #[.int .i64 y, .pointer (some ⟨q, 0, none⟩)] W fun e w' => e = .returned (.bool (!P y)) ∧ Below W.heap.size W w') : Calls Tryz.prog 145 #[.slice oa n c, .func (.func 142) #[] #[.pointer (some ⟨q, 0, none⟩)]] w fun e w' => (∃ k : Int, e = .returned (.int .i64 k) ∧ decide (0 ≤ k) = !(L.all P)) ∧ Below w.heap.size w w' := by
  have HL := Lib.hid h.len
  have F := Lib.hid (And.intro h hc)
  have hmax := h.max
  clear h hc
  go_enter Tryz.func145, Tryz.ntmps145
  go_wp2_with fail
  go_loopw [8] (fun iv wr => ∃ i : Nat, i ≤ n ∧ iv = .int .i64 i ∧ (L.take i).all P = true ∧ Below w.heap.size w wr) (fun iv _ => n - (intOf iv).toNat)
  case atStart => exact ⟨0, Nat.zero_le _, rfl, rfl, Below.refl _ _⟩
  case round =>
    obtain ⟨i, hi, rfl, hall, hb⟩ := hrel
    obtain ⟨w2, rfl⟩ : ∃ w2 : World, w2 = wr := ⟨_, rfl⟩
    by_cases hlt : i < n
    · have hil : ((i : Int) < (n : Int)) = True := by simp; omega
      have hw3 := wrapS hlt hmax
      have hlen : L.length = n := HL.out.symm
      obtain ⟨b0, o0, rfl, hbb, hat⟩ := (F.out.1.keep hb).at hlt
      have c0 := hat 0 (by decide)
      simp only [RI, Nat.add_zero, Nat.mul_one, List.getElem?_cons_zero] at c0
      have t1 := all_take_s L P i (by omega)
      rw [hall, Bool.true_and] at t1
      have hmem : L.getD i default ∈ L := getD_mem (by omega)
      have hox := F.out.2 w2 (L.getD i default) hb hmem
      generalize L.getD i default = y at *
      obtain ⟨bo, hbo⟩ : ∃ bo, P y = bo := ⟨_, rfl⟩
      rw [hbo] at hox t1
      have HX := Lib.hid hox
      have HB := Lib.hid hb
      have HT := Lib.hid (And.intro t1 (And.intro hmem hbo))
      clear hox hb hat hlen t1 hmem hall hbo
      go_wp2_with fail
      refine (HX.out).mono ?_
      rintro e W3 ⟨rfl, hb3⟩
      have HB3 := Lib.hid (bcall HB.out (Nat.le_refl _) hb3)
      clear hb3 HB c0 HX
      cases bo with
      | true =>
        rw [Bool.not_true]
        go_wp2_with fail
        exact ⟨⟨i + 1, hlt, by first | rw [hw3] | rw [Int.natCast_succ], HT.out.1, HB3.out⟩, by first | (rw [hw3]; exact mSucc hlt) | (rw [← Int.natCast_succ]; exact mSucc hlt)⟩
      | false =>
        rw [Bool.not_false]
        go_wp2_with fail
        go_ret
        have hno : L.all P = false := by
          rw [List.all_eq_false]
          exact ⟨_, HT.out.2.1, by simp [HT.out.2.2]⟩
        exact ⟨⟨_, rfl, by rw [hno]; simp⟩, HB3.out⟩
    · obtain rfl : n = i := by omega
      have hil : ((n : Int) < (n : Int)) = False := by simp
      have HB := Lib.hid hb
      have HA := Lib.hid (show L.all P = true from by
        have := hall
        rwa [HL.out, List.take_length] at this)
      clear hb hall
      go_wp2_with fail
      go_ret
      exact ⟨⟨_, rfl, by rw [HA.out]; rfl⟩, HB.out⟩
set_option maxRecDepth 100000 in
theorem has_as {w : World} {oa : Option Addr} {n c : Nat} {L : List Int} {P : Int → Bool} {q : Nat} (h : RI.Sl w oa n c L) (hc : ∀ (W : World) (y : Int), Below w.heap.size w W → y ∈ L → Calls Tryz.prog 142 #[.int .i64 y, .pointer (some ⟨q, 0, none⟩)] W fun e w' => e = .returned (.bool (!P y)) ∧ Below W.heap.size W w') : Calls Tryz.prog 109 #[.slice oa n c, .func (.func 142) #[] #[.pointer (some ⟨q, 0, none⟩)]] w fun e w' => e = .returned (.bool (!(L.all P))) ∧ Below w.heap.size w w' := by
  have HK := Lib.hid (idx_as h hc)
  clear h hc
  go_enter Tryz.func109, Tryz.ntmps109
  go_wp2_with fail
  refine (HK.out).mono ?_
  rintro e w1 ⟨⟨k, rfl, hk⟩, hb⟩
  have HB := Lib.hid (And.intro hk hb)
  clear hk hb
  go_wp2_with fail
  go_ret
  exact ⟨ret_bool (by rw [← HB.out.1]), HB.out.2⟩
set_option maxRecDepth 100000 in
set_option maxHeartbeats 1000000 in
theorem idx_cm {w : World} {oa : Option Addr} {n c : Nat} {L : List Int} {P : Int → Bool} (h : RI.Sl w oa n c L) (hc : ∀ (W : World) (y : Int), Below w.heap.size w W → y ∈ L → Calls Tryz.prog 106 #[.int .i64 y] W fun e w' => e = .returned (.bool (!P y)) ∧ Below W.heap.size W w') : Calls Tryz.prog 145 #[.slice oa n c, .func (.func 106) #[] #[]] w fun e w' => (∃ k : Int, e = .returned (.int .i64 k) ∧ decide (0 ≤ k) = !(L.all P)) ∧ Below w.heap.size w w' := by
  have HL := Lib.hid h.len
  have F := Lib.hid (And.intro h hc)
  have hmax := h.max
  clear h hc
  go_enter Tryz.func145, Tryz.ntmps145
  go_wp2_with fail
  go_loopw [8] (fun iv wr => ∃ i : Nat, i ≤ n ∧ iv = .int .i64 i ∧ (L.take i).all P = true ∧ Below w.heap.size w wr) (fun iv _ => n - (intOf iv).toNat)
  case atStart => exact ⟨0, Nat.zero_le _, rfl, rfl, Below.refl _ _⟩
  case round =>
    obtain ⟨i, hi, rfl, hall, hb⟩ := hrel
    obtain ⟨w2, rfl⟩ : ∃ w2 : World, w2 = wr := ⟨_, rfl⟩
    by_cases hlt : i < n
    · have hil : ((i : Int) < (n : Int)) = True := by simp; omega
      have hw3 := wrapS hlt hmax
      have hlen : L.length = n := HL.out.symm
      obtain ⟨b0, o0, rfl, hbb, hat⟩ := (F.out.1.keep hb).at hlt
      have c0 := hat 0 (by decide)
      simp only [RI, Nat.add_zero, Nat.mul_one, List.getElem?_cons_zero] at c0
      have t1 := all_take_s L P i (by omega)
      rw [hall, Bool.true_and] at t1
      have hmem : L.getD i default ∈ L := getD_mem (by omega)
      have hox := F.out.2 w2 (L.getD i default) hb hmem
      generalize L.getD i default = y at *
      obtain ⟨bo, hbo⟩ : ∃ bo, P y = bo := ⟨_, rfl⟩
      rw [hbo] at hox t1
      have HX := Lib.hid hox
      have HB := Lib.hid hb
      have HT := Lib.hid (And.intro t1 (And.intro hmem hbo))
      clear hox hb hat hlen t1 hmem hall hbo
      go_wp2_with fail
      refine (HX.out).mono ?_
      rintro e W3 ⟨rfl, hb3⟩
      have HB3 := Lib.hid (bcall HB.out (Nat.le_refl _) hb3)
      clear hb3 HB c0 HX
      cases bo with
      | true =>
        rw [Bool.not_true]
        go_wp2_with fail
        exact ⟨⟨i + 1, hlt, by first | rw [hw3] | rw [Int.natCast_succ], HT.out.1, HB3.out⟩, by first | (rw [hw3]; exact mSucc hlt) | (rw [← Int.natCast_succ]; exact mSucc hlt)⟩
      | false =>
        rw [Bool.not_false]
        go_wp2_with fail
        go_ret
        have hno : L.all P = false := by
          rw [List.all_eq_false]
          exact ⟨_, HT.out.2.1, by simp [HT.out.2.2]⟩
        exact ⟨⟨_, rfl, by rw [hno]; simp⟩, HB3.out⟩
    · obtain rfl : n = i := by omega
      have hil : ((n : Int) < (n : Int)) = False := by simp
      have HB := Lib.hid hb
      have HA := Lib.hid (show L.all P = true from by
        have := hall
        rwa [HL.out, List.take_length] at this)
      clear hb hall
      go_wp2_with fail
      go_ret
      exact ⟨⟨_, rfl, by rw [HA.out]; rfl⟩, HB.out⟩
set_option maxRecDepth 100000 in
theorem has_cm {w : World} {oa : Option Addr} {n c : Nat} {L : List Int} {P : Int → Bool} (h : RI.Sl w oa n c L) (hc : ∀ (W : World) (y : Int), Below w.heap.size w W → y ∈ L → Calls Tryz.prog 106 #[.int .i64 y] W fun e w' => e = .returned (.bool (!P y)) ∧ Below W.heap.size W w') : Calls Tryz.prog 109 #[.slice oa n c, .func (.func 106) #[] #[]] w fun e w' => e = .returned (.bool (!(L.all P))) ∧ Below w.heap.size w w' := by
  have HK := Lib.hid (idx_cm h hc)
  clear h hc
  go_enter Tryz.func109, Tryz.ntmps109
  go_wp2_with fail
  refine (HK.out).mono ?_
  rintro e w1 ⟨⟨k, rfl, hk⟩, hb⟩
  have HB := Lib.hid (And.intro hk hb)
  clear hk hb
  go_wp2_with fail
  go_ret
  exact ⟨ret_bool (by rw [← HB.out.1]), HB.out.2⟩

set_option maxRecDepth 100000 in
set_option maxHeartbeats 1000000 in
theorem oddsg_any {w : World} {x : SgV} (hx : SgOk w x) (four : Bool) : Calls Tryz.prog 105 #[x.v, .bool four] w fun e w' => e = .returned (.bool (!okSg four x.sg)) ∧ Below w.heap.size w w' := by
  have hb0 := ((Below.refl w.heap.size w).alloc (Nat.le_refl _) (.cells #[.bool x.set, .slice x.s.a x.s.n x.s.c] 134)).alloc (by simp) (.cells #[.bool four] 4)
  have hX : BxS w.heap.size x ((w.alloc (.cells #[.bool x.set, .slice x.s.a x.s.n x.s.c] 134)).alloc (.cells #[.bool four] 4)) := hold (hnew _ _)
  have hB : BxB (w.heap.size + 1) four ((w.alloc (.cells #[.bool x.set, .slice x.s.a x.s.n x.s.c] 134)).alloc (.cells #[.bool four] 4)) := hnewAt (by simp)
  have hx' := hx.keep hb0
  have HW := Lib.hid (show ∀ W, Calls Tryz.prog 107 #[.int .i64 x.s.n, .int .i64 1, .int .i64 64] W fun e w' => e = .returned (.bool (inI x.s.n 1 64)) ∧ w' = W from fun W => within_any _ 1 64 W)
  have HC := Lib.hid (has_as (c := x.s.c) (P := fitsB (wd four)) hx'.sl (fun W y hb _ => oddas_any (hB.keep hb) y))
  obtain ⟨v, hv⟩ : ∃ v, okSg four x.sg = v := ⟨_, rfl⟩
  rw [hv]
  have HV := Lib.hid (show v = (inI x.s.n 1 64 && x.s.l.all (fitsB (wd four))) from by
    rw [← hv]
    unfold okSg SgV.sg inI
    dsimp only
    rw [hx.sl.len]
    congr 1
    rw [Bool.eq_iff_iff]; simp; omega)
  obtain ⟨c0, c1⟩ := hX.cells
  have d0 := hB.cell
  have F0 := Lib.hid hb0
  clear hb0 hX hB hx' hv hx
  generalize x.s.l.all (fitsB (wd four)) = av at *
  obtain ⟨bi, hbi⟩ : ∃ b, inI x.s.n 1 64 = b := ⟨_, rfl⟩
  rw [hbi] at HW HV
  clear hbi
  unfold SgV.v
  go_enter Tryz.func105, Tryz.ntmps105
  go_wp2_with fail
  refine (HW.out _).mono ?_
  rintro e w1 ⟨rfl, hw⟩
  subst w1
  cases bi with
  | false =>
    go_wp2_with fail
    go_ret
    exact ⟨ret_bool (by rw [HV.out]; rfl), F0.out⟩
  | true =>
    go_wp2_with fail
    refine (HC.out).mono ?_
    rintro e w1 ⟨rfl, hb⟩
    have F1 := Lib.hid (bcall F0.out (Nat.le_refl _) hb)
    clear hb c0 c1 d0 F0
    go_wp2_with fail
    go_ret
    exact ⟨ret_bool (by rw [HV.out]; rfl), F1.out⟩
theorem oddsgc_any {q : Nat} {four : Bool} {w : World} (hq : BxB q four w) {x : SgV} (hx : SgOk w x) : Calls Tryz.prog 104 #[.agg #[.bool x.set, .slice x.s.a x.s.n x.s.c], .pointer (some ⟨q, 0, none⟩)] w fun e w' => e = .returned (.bool (!okSg four x.sg)) ∧ Below w.heap.size w w' := by
  have hal := (Below.refl w.heap.size w).alloc (Nat.le_refl _) (.cells #[.bool x.set, .slice x.s.a x.s.n x.s.c] 134)
  have hX : BxS w.heap.size x (w.alloc (.cells #[.bool x.set, .slice x.s.a x.s.n x.s.c] 134)) := hnew _ _
  have HO := Lib.hid (oddsg_any (hx.keep hal) four)
  have F0 := Lib.hid hal
  obtain ⟨c0, c1⟩ := hX.cells
  have c3 := (hq.keep hal).cell
  generalize okSg four x.sg = o at *
  unfold SgV.v at HO
  clear hal hX hq hx
  go_enter Tryz.func104, Tryz.ntmps104
  go_wp2_with fail
  refine (HO.out).mono ?_
  rintro e w1 ⟨rfl, hb⟩
  have F1 := Lib.hid (bcall F0.out (Nat.le_refl _) hb)
  clear hb c0 c1 c3 F0
  go_wp2_with fail
  go_ret
  exact ⟨rfl, F1.out⟩
set_option maxRecDepth 100000 in
set_option maxHeartbeats 1000000 in
theorem idx_sg {w : World} {oa : Option Addr} {n c : Nat} {L : List SgV} {P : SgV → Bool} {q : Nat} (h : RSg.Sl w oa n c L) (hc : ∀ (W : World) (y : SgV), Below w.heap.size w W → y ∈ L → Calls Tryz.prog 104 #[.agg #[.bool y.set, .slice y.s.a y.s.n y.s.c], .pointer (some ⟨q, 0, none⟩)] W fun e w' => e = .returned (.bool (!P y)) ∧ Below W.heap.size W w') : Calls Tryz.prog 144 #[.slice oa n c, .func (.func 104) #[] #[.pointer (some ⟨q, 0, none⟩)]] w fun e w' => (∃ k : Int, e = .returned (.int .i64 k) ∧ decide (0 ≤ k) = !(L.all P)) ∧ Below w.heap.size w w' := by
  have HL := Lib.hid h.len
  have F := Lib.hid (And.intro h hc)
  have hmax := h.max
  clear h hc
  go_enter Tryz.func144, Tryz.ntmps144
  go_wp2_with fail
  go_loopw [8] (fun iv wr => ∃ i : Nat, i ≤ n ∧ iv = .int .i64 i ∧ (L.take i).all P = true ∧ Below w.heap.size w wr) (fun iv _ => n - (intOf iv).toNat)
  case atStart => exact ⟨0, Nat.zero_le _, rfl, rfl, Below.refl _ _⟩
  case round =>
    obtain ⟨i, hi, rfl, hall, hb⟩ := hrel
    obtain ⟨w2, rfl⟩ : ∃ w2 : World, w2 = wr := ⟨_, rfl⟩
    by_cases hlt : i < n
    · have hil : ((i : Int) < (n : Int)) = True := by simp; omega
      have hw3 := wrapS hlt hmax
      have hlen : L.length = n := HL.out.symm
      obtain ⟨b0, o0, rfl, hbb, hat⟩ := (F.out.1.keep hb).at hlt
      have c0 := hat 0 (by decide)
      have c1 := hat 1 (by decide)
      simp only [RSg, Nat.add_zero, List.getElem?_cons_zero, List.getElem?_cons_succ] at c0 c1
      have t1 := all_take_s L P i (by omega)
      rw [hall, Bool.true_and] at t1
      have hmem : L.getD i default ∈ L := getD_mem (by omega)
      have hox := F.out.2 w2 (L.getD i default) hb hmem
      generalize L.getD i default = y at *
      obtain ⟨bo, hbo⟩ : ∃ bo, P y = bo := ⟨_, rfl⟩
      rw [hbo] at hox t1
      have HX := Lib.hid hox
      have HB := Lib.hid hb
      have HT := Lib.hid (And.intro t1 (And.intro hmem hbo))
      clear hox hb hat hlen t1 hmem hall hbo
      go_wp2_with fail
      refine (HX.out).mono ?_
      rintro e W3 ⟨rfl, hb3⟩
      have HB3 := Lib.hid (bcall HB.out (Nat.le_refl _) hb3)
      clear hb3 HB c0 c1 HX
      cases bo with
      | true =>
        rw [Bool.not_true]
        go_wp2_with fail
        exact ⟨⟨i + 1, hlt, by first | rw [hw3] | rw [Int.natCast_succ], HT.out.1, HB3.out⟩, by first | (rw [hw3]; exact mSucc hlt) | (rw [← Int.natCast_succ]; exact mSucc hlt)⟩
      | false =>
        rw [Bool.not_false]
        go_wp2_with fail
        go_ret
        have hno : L.all P = false := by
          rw [List.all_eq_false]
          exact ⟨_, HT.out.2.1, by simp [HT.out.2.2]⟩
        exact ⟨⟨_, rfl, by rw [hno]; simp⟩, HB3.out⟩
    · obtain rfl : n = i := by omega
      have hil : ((n : Int) < (n : Int)) = False := by simp
      have HB := Lib.hid hb
      have HA := Lib.hid (show L.all P = true from by
        have := hall
        rwa [HL.out, List.take_length] at this)
      clear hb hall
      go_wp2_with fail
      go_ret
      exact ⟨⟨_, rfl, by rw [HA.out]; rfl⟩, HB.out⟩
set_option maxRecDepth 100000 in
theorem has_sg {w : World} {oa : Option Addr} {n c : Nat} {L : List SgV} {P : SgV → Bool} {q : Nat} (h : RSg.Sl w oa n c L) (hc : ∀ (W : World) (y : SgV), Below w.heap.size w W → y ∈ L → Calls Tryz.prog 104 #[.agg #[.bool y.set, .slice y.s.a y.s.n y.s.c], .pointer (some ⟨q, 0, none⟩)] W fun e w' => e = .returned (.bool (!P y)) ∧ Below W.heap.size W w') : Calls Tryz.prog 108 #[.slice oa n c, .func (.func 104) #[] #[.pointer (some ⟨q, 0, none⟩)]] w fun e w' => e = .returned (.bool (!(L.all P))) ∧ Below w.heap.size w w' := by
  have HK := Lib.hid (idx_sg h hc)
  clear h hc
  go_enter Tryz.func108, Tryz.ntmps108
  go_wp2_with fail
  refine (HK.out).mono ?_
  rintro e w1 ⟨⟨k, rfl, hk⟩, hb⟩
  have HB := Lib.hid (And.intro hk hb)
  clear hk hb
  go_wp2_with fail
  go_ret
  exact ⟨ret_bool (by rw [← HB.out.1]), HB.out.2⟩
end Go.Proofs.YtadoflcomienoaaGreat
/- Which attributes may be. -/
namespace Go.Proofs.YtadoflcomienoaaGreat
open Go.RowKit

/-- an error's number, or none -/
def errI (ok : Bool) (n : Int) : Int := if ok then 0 else n
theorem okA_at {four : Bool} {w : World} {x : AtV} (hx : AtOk w x) : okA four x.at = (((inI x.o 0 2 && !(x.nx == 0) && inI x.md (-1) 4294967295 && inI x.pf (-1) 4294967295) && (decide (x.p.n ≤ 8) && x.p.l.all (fun y => okSg four y.sg))) && (decide (x.c.n ≤ 32) && x.c.l.all (fitsB 4))) := by
  unfold okA AtV.at
  dsimp only
  rw [List.length_map, ← hx.p.sl.len, ← hx.c.sl.len, List.all_map]
  rfl
set_option maxRecDepth 100000 in
set_option maxHeartbeats 4000000 in
theorem acheck_any {w : World} {x : AtV} (hx : AtOk w x) (four : Bool) : Calls Tryz.prog 55 #[x.v, .bool four] w fun e w' => e = .returned (.int .i64 (errI (okA four x.at) 50)) ∧ Below w.heap.size w w' := by
  have hb0 := ((Below.refl w.heap.size w).alloc (Nat.le_refl _) (.cells #[.int .i64 x.o, .slice x.p.a x.p.n x.p.c, .int .u32 x.nx, .int .i64 x.md, .int .i64 x.pf, .slice x.c.a x.c.n x.c.c] 40)).alloc (by simp) (.cells #[.bool four] 4)
  have hX : BxA w.heap.size x ((w.alloc (.cells #[.int .i64 x.o, .slice x.p.a x.p.n x.p.c, .int .u32 x.nx, .int .i64 x.md, .int .i64 x.pf, .slice x.c.a x.c.n x.c.c] 40)).alloc (.cells #[.bool four] 4)) := hold (hnew _ _)
  have hB : BxB (w.heap.size + 1) four ((w.alloc (.cells #[.int .i64 x.o, .slice x.p.a x.p.n x.p.c, .int .u32 x.nx, .int .i64 x.md, .int .i64 x.pf, .slice x.c.a x.c.n x.c.c] 40)).alloc (.cells #[.bool four] 4)) := hnewAt (by simp)
  have F0 := Lib.hid (And.intro hb0 (And.intro (And.intro hX hB) (hx.keep hb0)))
  obtain ⟨v, hv⟩ : ∃ v, okA four x.at = v := ⟨_, rfl⟩
  rw [hv]
  have HV := Lib.hid (hv.symm.trans (okA_at hx))
  have HW1 := Lib.hid (fun W => within_any x.o 0 2 W)
  have HW2 := Lib.hid (fun W => within_any x.md (-1) 4294967295 W)
  have HW3 := Lib.hid (fun W => within_any x.pf (-1) 4294967295 W)
  obtain ⟨c0, c1, c2, c3, c4, c5⟩ := hX.cells
  clear hv hb0 hX hB hx
  obtain ⟨b1, e1⟩ : ∃ b, inI x.o 0 2 = b := ⟨_, rfl⟩
  obtain ⟨b2, e2⟩ : ∃ b, (x.nx == 0) = b := ⟨_, rfl⟩
  obtain ⟨b3, e3⟩ : ∃ b, inI x.md (-1) 4294967295 = b := ⟨_, rfl⟩
  obtain ⟨b4, e4⟩ : ∃ b, inI x.pf (-1) 4294967295 = b := ⟨_, rfl⟩
  rw [e1, e2, e3, e4] at HV
  rw [e1] at HW1
  rw [e3] at HW2
  rw [e4] at HW3
  clear e1 e3 e4
  have hn1 : ((8 : Int) < (x.p.n : Int)) = ¬ (x.p.n ≤ 8) := by rw [eq_iff_iff]; omega
  have hn2 : ((32 : Int) < (x.c.n : Int)) = ¬ (x.c.n ≤ 32) := by rw [eq_iff_iff]; omega
  unfold AtV.v
  go_enter Tryz.func55, Tryz.ntmps55
  go_wp2_with fail
  refine (HW1.out _).mono ?_
  rintro e w1 ⟨rfl, hw⟩
  subst w1
  cases b1 with
  | false =>
    go_wp2_with fail
    go_ret
    exact ⟨ret_int (by rw [HV.out]; rfl), F0.out.1⟩
  | true =>
    cases b2 with
    | true =>
      go_wp2_with fail
      go_ret
      exact ⟨ret_int (by rw [HV.out]; rfl), F0.out.1⟩
    | false =>
      go_wp2_with fail
      refine (HW2.out _).mono ?_
      rintro e w1 ⟨rfl, hw⟩
      subst w1
      cases b3 with
      | false =>
        go_wp2_with fail
        go_ret
        exact ⟨ret_int (by rw [HV.out]; rfl), F0.out.1⟩
      | true =>
        go_wp2_with fail
        refine (HW3.out _).mono ?_
        rintro e w1 ⟨rfl, hw⟩
        subst w1
        cases b4 with
        | false =>
          go_wp2_with fail
          go_ret
          exact ⟨ret_int (by rw [HV.out]; rfl), F0.out.1⟩
        | true =>
          by_cases hp : x.p.n ≤ 8
          · have e5 : ((8 : Int) < (x.p.n : Int)) = False := by rw [hn1]; simpa using hp
            have HP := Lib.hid (has_sg (c := x.p.c) (P := fun y => okSg four y.sg) F0.out.2.2.p.sl (fun W y hb hy => oddsgc_any (F0.out.2.1.2.keep hb) ((F0.out.2.2.p.all y hy).keep hb)))
            rw [show decide (x.p.n ≤ 8) = true from decide_eq_true hp] at HV
            obtain ⟨b5, e6⟩ : ∃ b, x.p.l.all (fun y => okSg four y.sg) = b := ⟨_, rfl⟩
            rw [e6] at HV HP
            clear hp hn1 e6
            go_wp2_with fail
            refine (HP.out).mono ?_
            rintro e w1 ⟨rfl, hb⟩
            have F1 := Lib.hid (And.intro (bcall F0.out.1 (Nat.le_refl _) hb) (And.intro (F0.out.2.1.1.keep hb) (F0.out.2.2.keep hb)))
            clear hb c0 c1 c2 c3 c4 c5 F0 HP
            cases b5 with
            | false =>
              go_wp2_with fail
              go_ret
              exact ⟨ret_int (by rw [HV.out]; rfl), F1.out.1⟩
            | true =>
              obtain ⟨-, -, -, -, -, c5⟩ := F1.out.2.1.cells
              by_cases hc : x.c.n ≤ 32
              · have e7 : ((32 : Int) < (x.c.n : Int)) = False := by rw [hn2]; simpa using hc
                have HC := Lib.hid (has_cm (c := x.c.c) (P := fitsB 4) F1.out.2.2.c.sl (fun W y _ _ => oddcm_any W y))
                rw [show decide (x.c.n ≤ 32) = true from decide_eq_true hc] at HV
                obtain ⟨b6, e8⟩ : ∃ b, x.c.l.all (fitsB 4) = b := ⟨_, rfl⟩
                rw [e8] at HV HC
                clear hc hn2 e8
                go_wp2_with fail
                refine (HC.out).mono ?_
                rintro e w1 ⟨rfl, hb⟩
                have F2 := Lib.hid (bcall F1.out.1 (Nat.le_refl _) hb)
                clear hb c5 F1 HC
                cases b6
                all_goals
                  go_wp2_with fail
                  go_ret
                  exact ⟨ret_int (by rw [HV.out]; rfl), F2.out⟩
              · have e7 : ((32 : Int) < (x.c.n : Int)) = True := by rw [hn2]; simpa using hc
                rw [show decide (x.c.n ≤ 32) = false from decide_eq_false hc] at HV
                clear hc hn2
                go_wp2_with fail
                go_ret
                exact ⟨ret_int (by rw [HV.out]; rfl), F1.out.1⟩
          · have e5 : ((8 : Int) < (x.p.n : Int)) = True := by rw [hn1]; simpa using hp
            rw [show decide (x.p.n ≤ 8) = false from decide_eq_false hp] at HV
            clear hp hn1
            go_wp2_with fail
            go_ret
            exact ⟨ret_int (by rw [HV.out]; rfl), F0.out.1⟩
theorem fits2_any (n : Int) (w : World) : Calls Tryz.prog 101 #[.int .i64 n, .int .i64 2] w fun e w' => e = .returned (.bool (fitsB 2 n)) ∧ w' = w := by
  obtain ⟨v, hv⟩ : ∃ v, fitsB 2 n = v := ⟨_, rfl⟩
  rw [hv]
  have hv' : (decide (0 ≤ n) && decide (n < 65536)) = v := hv
  have HV := Lib.hid hv'
  clear hv hv'
  by_cases h1 : 0 ≤ n
  · have f1 : (0 ≤ n) = True := eq_true h1
    by_cases h2 : n < 65536
    · have f2 : (n < 65536) = True := eq_true h2
      clear h1 h2
      go_enter Tryz.func101, Tryz.ntmps101
      go_wp2_with fail
      go_ret
      exact ⟨ret_bool (by rw [← HV.out]; simp [of_eq_true f1, of_eq_true f2]), rfl⟩
    · have f2 : (n < 65536) = False := eq_false h2
      clear h1 h2
      go_enter Tryz.func101, Tryz.ntmps101
      go_wp2_with fail
      go_ret
      exact ⟨ret_bool (by rw [← HV.out]; simp [of_eq_true f1, of_eq_false f2]), rfl⟩
  · have f1 : (0 ≤ n) = False := eq_false h1
    clear h1
    go_enter Tryz.func101, Tryz.ntmps101
    go_wp2_with fail
    go_ret
    exact ⟨ret_bool (by rw [← HV.out]; simp [of_eq_false f1]), rfl⟩
theorem fits4_any (n : Int) (w : World) : Calls Tryz.prog 101 #[.int .i64 n, .int .i64 4] w fun e w' => e = .returned (.bool (fitsB 4 n)) ∧ w' = w := by
  obtain ⟨v, hv⟩ : ∃ v, fitsB 4 n = v := ⟨_, rfl⟩
  rw [hv]
  have hv' : (decide (0 ≤ n) && decide (n < 4294967296)) = v := hv
  have HV := Lib.hid hv'
  clear hv hv'
  by_cases h1 : 0 ≤ n
  · have f1 : (0 ≤ n) = True := eq_true h1
    by_cases h2 : n < 4294967296
    · have f2 : (n < 4294967296) = True := eq_true h2
      clear h1 h2
      go_enter Tryz.func101, Tryz.ntmps101
      go_wp2_with fail
      go_ret
      exact ⟨ret_bool (by rw [← HV.out]; simp [of_eq_true f1, of_eq_true f2]), rfl⟩
    · have f2 : (n < 4294967296) = False := eq_false h2
      clear h1 h2
      go_enter Tryz.func101, Tryz.ntmps101
      go_wp2_with fail
      go_ret
      exact ⟨ret_bool (by rw [← HV.out]; simp [of_eq_true f1, of_eq_false f2]), rfl⟩
  · have f1 : (0 ≤ n) = False := eq_false h1
    clear h1
    go_enter Tryz.func101, Tryz.ntmps101
    go_wp2_with fail
    go_ret
    exact ⟨ret_bool (by rw [← HV.out]; simp [of_eq_false f1]), rfl⟩
theorem rsize05_any (four : Bool) (w : World) : Calls Tryz.prog 102 #[.bool four] w fun e w' => e = .returned (.int .i64 (wd four : Nat)) ∧ w' = w := by
  cases four <;>
  · go_enter Tryz.func102, Tryz.ntmps102
    go_wp2_with fail
    go_ret
    exact ⟨rfl, rfl⟩
end Go.Proofs.YtadoflcomienoaaGreat
/- Which attributes may be, as the reference tells. -/
namespace Go.Proofs.YtadoflcomienoaaGreat
open Go.RowKit

theorem okA_iff {four : Bool} {w : World} {x : AtV} (hx : AtOk w x) : okA four x.at = true ↔ (0 ≤ x.o ∧ x.o ≤ 2) ∧ x.nx ≠ 0 ∧ (-1 ≤ x.md ∧ x.md ≤ 4294967295) ∧ (-1 ≤ x.pf ∧ x.pf ≤ 4294967295) ∧ x.p.n ≤ 8 ∧ x.c.n ≤ 32 ∧ (∀ s ∈ x.p.l, okSg four s.sg = true) ∧ ∀ n ∈ x.c.l, fitsB 4 n = true := by
  rw [okA_at hx]
  unfold inI
  simp only [Bool.and_eq_true, decide_eq_true_eq, Bool.not_eq_true', beq_eq_false_iff_ne, List.all_eq_true]
  constructor
  · rintro ⟨⟨⟨⟨⟨h1, h2⟩, h3⟩, h4⟩, h5, h6⟩, h7, h8⟩; exact ⟨h1, h2, h3, h4, h5, h7, h6, h8⟩
  · rintro ⟨h1, h2, h3, h4, h5, h7, h6, h8⟩; exact ⟨⟨⟨⟨⟨h1, h2⟩, h3⟩, h4⟩, h5, h6⟩, h7, h8⟩
set_option maxRecDepth 100000 in
set_option maxHeartbeats 8000000 in
theorem racheck_any {w : World} {x : AtV} (hx : AtOk w x) (four : Bool) : Calls Tryz.prog 52 #[x.v, .bool four] w fun e w' => e = .returned (.bool (okA four x.at)) ∧ Below w.heap.size w w' := by
  have hb0 := (Below.refl w.heap.size w).alloc (Nat.le_refl _) (.cells #[.int .i64 x.o, .slice x.p.a x.p.n x.p.c, .int .u32 x.nx, .int .i64 x.md, .int .i64 x.pf, .slice x.c.a x.c.n x.c.c] 40)
  have hX : BxA w.heap.size x (w.alloc (.cells #[.int .i64 x.o, .slice x.p.a x.p.n x.p.c, .int .u32 x.nx, .int .i64 x.md, .int .i64 x.pf, .slice x.c.a x.c.n x.c.c] 40)) := hnew _ _
  have HL := Lib.hid hx.p.sl.len
  have HM := Lib.hid hx.c.sl.len
  have hmax := hx.p.sl.max
  have hmax2 := hx.c.sl.max
  obtain ⟨v, hv⟩ : ∃ v, okA four x.at = v := ⟨_, rfl⟩
  rw [hv]
  have HV := Lib.hid (okA_iff (four := four) hx)
  rw [hv] at HV
  have F0 := Lib.hid (And.intro hb0 (And.intro hX (hx.keep hb0)))
  obtain ⟨c0, c1, c2, c3, c4, c5⟩ := hX.cells
  clear hv hb0 hX hx
  unfold AtV.v
  obtain ⟨w1, hw1⟩ : ∃ w1, w.alloc (.cells #[.int .i64 x.o, .slice x.p.a x.p.n x.p.c, .int .u32 x.nx, .int .i64 x.md, .int .i64 x.pf, .slice x.c.a x.c.n x.c.c] 40) = w1 := ⟨_, rfl⟩
  rw [hw1] at F0 c0 c1 c2 c3 c4 c5
  by_cases h0 : x.o < 0
  · have HN := Lib.hid (show v = false from by
      rw [Bool.eq_false_iff]
      intro h
      have h := HV.out.1 h
      omega)
    have e0 : (x.o < 0) = True := eq_true h0
    clear h0
    go_enter Tryz.func52, Tryz.ntmps52
    go_wp2_with fail
    go_ret
    exact ⟨ret_bool HN.out.symm, F0.out.1⟩
  · have e0 : (x.o < 0) = False := eq_false h0
    by_cases h1 : 2 < x.o
    · have HN := Lib.hid (show v = false from by
        rw [Bool.eq_false_iff]
        intro h
        have h := HV.out.1 h
        omega)
      have e1 : ((2 : Int) < x.o) = True := eq_true h1
      clear h0 h1
      go_enter Tryz.func52, Tryz.ntmps52
      go_wp2_with fail
      go_ret
      exact ⟨ret_bool HN.out.symm, F0.out.1⟩
    · have e1 : ((2 : Int) < x.o) = False := eq_false h1
      by_cases h2 : x.nx = 0
      · have HN := Lib.hid (show v = false from by
          rw [Bool.eq_false_iff]
          intro h
          have h := HV.out.1 h
          omega)
        have e2 : (x.nx == 0) = true := by simpa using h2
        clear h0 h1 h2
        go_enter Tryz.func52, Tryz.ntmps52
        go_wp2_with fail
        go_ret
        exact ⟨ret_bool HN.out.symm, F0.out.1⟩
      · have e2 : (x.nx == 0) = false := by simpa using h2
        by_cases h3 : x.md < -1
        · have HN := Lib.hid (show v = false from by
            rw [Bool.eq_false_iff]
            intro h
            have h := HV.out.1 h
            omega)
          have e3 : (x.md < -1) = True := eq_true h3
          clear h0 h1 h2 h3
          go_enter Tryz.func52, Tryz.ntmps52
          go_wp2_with fail
          go_ret
          exact ⟨ret_bool HN.out.symm, F0.out.1⟩
        · have e3 : (x.md < -1) = False := eq_false h3
          by_cases h4 : 4294967295 < x.md
          · have HN := Lib.hid (show v = false from by
              rw [Bool.eq_false_iff]
              intro h
              have h := HV.out.1 h
              omega)
            have e4 : ((4294967295 : Int) < x.md) = True := eq_true h4
            clear h0 h1 h2 h3 h4
            go_enter Tryz.func52, Tryz.ntmps52
            go_wp2_with fail
            go_ret
            exact ⟨ret_bool HN.out.symm, F0.out.1⟩
          · have e4 : ((4294967295 : Int) < x.md) = False := eq_false h4
            by_cases h5 : x.pf < -1
            · have HN := Lib.hid (show v = false from by
                rw [Bool.eq_false_iff]
                intro h
                have h := HV.out.1 h
                omega)
              have e5 : (x.pf < -1) = True := eq_true h5
              clear h0 h1 h2 h3 h4 h5
              go_enter Tryz.func52, Tryz.ntmps52
              go_wp2_with fail
              go_ret
              exact ⟨ret_bool HN.out.symm, F0.out.1⟩
            · have e5 : (x.pf < -1) = False := eq_false h5
              by_cases h6 : 4294967295 < x.pf
              · have HN := Lib.hid (show v = false from by
                  rw [Bool.eq_false_iff]
                  intro h
                  have h := HV.out.1 h
                  omega)
                have e6 : ((4294967295 : Int) < x.pf) = True := eq_true h6
                clear h0 h1 h2 h3 h4 h5 h6
                go_enter Tryz.func52, Tryz.ntmps52
                go_wp2_with fail
                go_ret
                exact ⟨ret_bool HN.out.symm, F0.out.1⟩
              · have e6 : ((4294967295 : Int) < x.pf) = False := eq_false h6
                by_cases h7 : 8 < x.p.n
                · have HN := Lib.hid (show v = false from by
                    rw [Bool.eq_false_iff]
                    intro h
                    have h := HV.out.1 h
                    omega)
                  have e7 : ((8 : Int) < (x.p.n : Int)) = True := by simp; omega
                  clear h0 h1 h2 h3 h4 h5 h6 h7
                  go_enter Tryz.func52, Tryz.ntmps52
                  go_wp2_with fail
                  go_ret
                  exact ⟨ret_bool HN.out.symm, F0.out.1⟩
                · have e7 : ((8 : Int) < (x.p.n : Int)) = False := by simp; omega
                  by_cases h8 : 32 < x.c.n
                  · have HN := Lib.hid (show v = false from by
                      rw [Bool.eq_false_iff]
                      intro h
                      have h := HV.out.1 h
                      omega)
                    have e8 : ((32 : Int) < (x.c.n : Int)) = True := by simp; omega
                    clear h0 h1 h2 h3 h4 h5 h6 h7 h8
                    go_enter Tryz.func52, Tryz.ntmps52
                    go_wp2_with fail
                    go_ret
                    exact ⟨ret_bool HN.out.symm, F0.out.1⟩
                  · have e8 : ((32 : Int) < (x.c.n : Int)) = False := by simp; omega
                    have HN := Lib.hid (show v = true ↔ (∀ s ∈ x.p.l, okSg four s.sg = true) ∧ ∀ n ∈ x.c.l, fitsB 4 n = true from by
                      constructor
                      · intro h; exact ⟨(HV.out.1 h).2.2.2.2.2.2.1, (HV.out.1 h).2.2.2.2.2.2.2⟩
                      · intro h
                        have h5 := h.1
                        have h6 := h.2
                        exact HV.out.2 ⟨by omega, by omega, by omega, by omega, by omega, by omega, h5, h6⟩)
                    clear h0 h1 h2 h3 h4 h5 h6 h7 h8 HV
                    go_enter Tryz.func52, Tryz.ntmps52
                    go_wp2_with fail
                    clear e0 e1 e2 e3 e4 e5 e6 e7 e8 c0 c1 c2 c3 c4 c5
                    go_loopw [5] (fun iv wr => ∃ i : Nat, i ≤ x.p.n ∧ iv = .int .i64 i ∧ (∀ j, j < i → okSg four (x.p.l.getD j default).sg = true) ∧ Below w1.heap.size w1 wr) (fun iv _ => x.p.n - (intOf iv).toNat)
                    case atStart => exact ⟨0, Nat.zero_le _, rfl, fun j hj => absurd hj (Nat.not_lt_zero _), Below.refl _ _⟩
                    case round =>
                      obtain ⟨i, hi, rfl, hall, hb⟩ := hrel
                      obtain ⟨w2, rfl⟩ : ∃ w2 : World, w2 = wr := ⟨_, rfl⟩
                      have hx2 := F0.out.2.2.keep hb
                      obtain ⟨-, c1, -, -, -, c5⟩ := (F0.out.2.1.keep hb).cells
                      by_cases hlt : i < x.p.n
                      · have hil : ((i : Int) < (x.p.n : Int)) = True := by simp; omega
                        have hi0 : ((0 : Int) ≤ (i : Int)) = True := by simp
                        have hw3 := wrapS hlt hmax
                        obtain ⟨b0, o0, ea, hbb, hat⟩ := hx2.p.sl.at hlt
                        have hs0 := hx2.p.all _ (getD_mem (i := i) (by rw [← HL.out]; exact hlt))
                        have hmem := getD_mem (M := x.p.l) (i := i) (by rw [← HL.out]; exact hlt)
                        obtain ⟨s, hs⟩ : ∃ s, x.p.l.getD i default = s := ⟨_, rfl⟩
                        rw [hs] at hat hs0 hmem
                        have s1 := hat 1 (by decide)
                        simp only [RSg, List.getElem?_cons_zero, List.getElem?_cons_succ] at s1
                        rw [ea] at c1
                        have HS := Lib.hid (show okSg four s.sg = ((decide (1 ≤ s.s.n) && decide (s.s.n ≤ 64)) && s.s.l.all (fitsB (wd four))) from by unfold okSg SgV.sg; dsimp only; rw [← hs0.sl.len])
                        have K := Lib.hid (And.intro hb (And.intro hall (And.intro hs (And.intro hs0 hmem))))
                        clear hb hat hall hs hs0 hmem hbb hx2 ea
                        by_cases g1 : s.s.n < 1
                        · have e1 : ((s.s.n : Int) < 1) = True := by simp; omega
                          have hno := K.out.2.2.2.2
                          have HF := Lib.hid (show okSg four s.sg = false from by rw [HS.out, decide_eq_false (by omega)]; rfl)
                          clear g1
                          go_wp2_with fail
                          go_ret
                          exact ⟨ret_bool (by
                            cases v with
                            | false => rfl
                            | true => rw [← HF.out]; exact (HN.out.1 rfl).1 _ hno), bcall F0.out.1 (by simp) K.out.1⟩
                        · have e1 : ((s.s.n : Int) < 1) = False := by simp; omega
                          by_cases g2 : 64 < s.s.n
                          · have e2 : ((64 : Int) < (s.s.n : Int)) = True := by simp; omega
                            have hno := K.out.2.2.2.2
                            have HF := Lib.hid (show okSg four s.sg = false from by rw [HS.out, decide_eq_false (by omega : ¬ s.s.n ≤ 64)]; simp)
                            clear g1 g2
                            go_wp2_with fail
                            go_ret
                            exact ⟨ret_bool (by
                              cases v with
                              | false => rfl
                              | true => rw [← HF.out]; exact (HN.out.1 rfl).1 _ hno), bcall F0.out.1 (by simp) K.out.1⟩
                          · have e2 : ((64 : Int) < (s.s.n : Int)) = False := by simp; omega
                            have hm64 : s.s.n ≤ maxLen := K.out.2.2.2.1.sl.max
                            have HS2 := Lib.hid (show okSg four s.sg = s.s.l.all (fitsB (wd four)) from by rw [HS.out, decide_eq_true (by omega : 1 ≤ s.s.n), decide_eq_true (by omega : s.s.n ≤ 64)]; rfl)
                            have HSL := Lib.hid K.out.2.2.2.1.sl.len
                            clear g1 g2 HS
                            go_wp2_with fail
                            clear e1 e2 s1 c1 c5
                            go_loopw [7] (fun kv wr => ∃ k : Nat, k ≤ s.s.n ∧ kv = .int .i64 k ∧ (s.s.l.take k).all (fitsB (wd four)) = true ∧ Below w2.heap.size w2 wr) (fun kv _ => s.s.n - (intOf kv).toNat)
                            case atStart => exact ⟨0, Nat.zero_le _, rfl, rfl, Below.refl _ _⟩
                            case round =>
                              obtain ⟨k, hk, rfl, hka, hb⟩ := hrel
                              obtain ⟨w4, rfl⟩ : ∃ w4 : World, w4 = wr := ⟨_, rfl⟩
                              by_cases hkt : k < s.s.n
                              · have hkl : ((k : Int) < (s.s.n : Int)) = True := by simp; omega
                                have hk0 : ((0 : Int) ≤ (k : Int)) = True := by simp
                                have hw4 := wrapS hkt hm64
                                obtain ⟨b2, o2, ea2, hbb2, hat2⟩ := (K.out.2.2.2.1.keep hb).sl.at hkt
                                have t1 := all_take_s s.s.l (fitsB (wd four)) k (by rw [← HSL.out]; exact hkt)
                                rw [hka, Bool.true_and] at t1
                                have hmem2 := getD_mem (M := s.s.l) (i := k) (by rw [← HSL.out]; exact hkt)
                                obtain ⟨n, hn⟩ : ∃ n, s.s.l.getD k default = n := ⟨_, rfl⟩
                                rw [hn] at hat2 t1 hmem2
                                have d0 := hat2 0 (by decide)
                                simp only [RI, Nat.add_zero, Nat.mul_one, List.getElem?_cons_zero] at d0
                                obtain ⟨bo, hbo⟩ : ∃ b, fitsB (wd four) n = b := ⟨_, rfl⟩
                                rw [hbo] at t1
                                have HF : Hid (∀ W, Calls Tryz.prog 101 #[.int .i64 n, .int .i64 (wd four : Nat)] W fun e w' => e = .returned (.bool bo) ∧ w' = W) := Lib.hid (by
                                  intro W
                                  rw [← hbo]
                                  cases four
                                  · exact fits2_any n W
                                  · exact fits4_any n W)
                                have HZ := Lib.hid (fun W => rsize05_any four W)
                                rw [ea2]
                                have HT := Lib.hid (And.intro t1 (And.intro hmem2 (And.intro hbo hb)))
                                have KK := K
                                clear hb hat2 t1 hmem2 hbo hbb2 hn hka ea2
                                obtain ⟨wide, hwide⟩ : ∃ z, wd four = z := ⟨_, rfl⟩
                                rw [hwide] at HF HZ
                                clear hwide
                                cases bo with
                                | true =>
                                  go_wp2_with fail
                                  go_quiet ((first | (go_at_call 102; exact Calls.quiet_of_same (HZ.out _)) | (go_at_call 101; exact Calls.quiet_of_same (HF.out _))))
                                  go_wp2_with fail
                                  exact ⟨⟨k + 1, hkt, by first | rw [hw4] | rw [Int.natCast_succ], HT.out.1, bdn HT.out.2.2.2 _⟩, by first | (rw [hw4]; exact mSucc hkt) | (rw [← Int.natCast_succ]; exact mSucc hkt)⟩
                                | false =>
                                  go_wp2_with fail
                                  go_quiet ((first | (go_at_call 102; exact Calls.quiet_of_same (HZ.out _)) | (go_at_call 101; exact Calls.quiet_of_same (HF.out _))))
                                  go_wp2_with fail
                                  go_ret
                                  exact ⟨ret_bool (by
                                    cases v with
                                    | false => rfl
                                    | true =>
                                      have h1 := (HN.out.1 rfl).1 _ K.out.2.2.2.2
                                      rw [HS2.out, List.all_eq_true] at h1
                                      rw [← HT.out.2.2.1]
                                      exact h1 _ HT.out.2.1), bcall F0.out.1 (by simp) (bcall K.out.1 (Nat.le_refl _) (bdn HT.out.2.2.2 _))⟩
                              · obtain rfl : k = s.s.n := by omega
                                have hkl : ((s.s.n : Int) < (s.s.n : Int)) = False := by simp
                                have HK := Lib.hid (And.intro (show okSg four s.sg = true from by
                                  have := hka
                                  rw [HSL.out, List.take_length] at this
                                  rw [HS2.out]; exact this) hb)
                                clear hka hb
                                go_wp2_with fail
                                exact ⟨⟨i + 1, hlt, by first | rw [hw3] | rw [Int.natCast_succ], fun j hj => (Nat.lt_succ_iff_lt_or_eq.1 hj).elim (K.out.2.1 j) (fun e => by rw [e, K.out.2.2.1]; exact HK.out.1), bcall K.out.1 (Nat.le_refl _) HK.out.2⟩, by first | (rw [hw3]; exact mSucc hlt) | (rw [← Int.natCast_succ]; exact mSucc hlt)⟩
                      · obtain rfl : i = x.p.n := by omega
                        have hil : ((x.p.n : Int) < (x.p.n : Int)) = False := by simp
                        have HA := Lib.hid (And.intro hall hb)
                        have hb9 := hb
                        clear hall hb hx2
                        go_wp2_with fail
                        clear c1 c5
                        go_loopw [8] (fun kv wr => ∃ k : Nat, k ≤ x.c.n ∧ kv = .int .i64 k ∧ (x.c.l.take k).all (fitsB 4) = true ∧ Below w2.heap.size w2 wr) (fun kv _ => x.c.n - (intOf kv).toNat)
                        case atStart => exact ⟨0, Nat.zero_le _, rfl, rfl, Below.refl _ _⟩
                        case round =>
                          obtain ⟨k, hk, rfl, hka, hb⟩ := hrel
                          obtain ⟨w4, rfl⟩ : ∃ w4 : World, w4 = wr := ⟨_, rfl⟩
                          obtain ⟨-, -, -, -, -, c5⟩ := ((F0.out.2.1.keep HA.out.2).keep hb).cells
                          by_cases hkt : k < x.c.n
                          · have hkl : ((k : Int) < (x.c.n : Int)) = True := by simp; omega
                            have hk0 : ((0 : Int) ≤ (k : Int)) = True := by simp
                            have hw4 := wrapS hkt hmax2
                            obtain ⟨b2, o2, ea2, hbb2, hat2⟩ := ((F0.out.2.2.keep HA.out.2).keep hb).c.sl.at hkt
                            have t1 := all_take_s x.c.l (fitsB 4) k (by rw [← HM.out]; exact hkt)
                            rw [hka, Bool.true_and] at t1
                            have hmem2 := getD_mem (M := x.c.l) (i := k) (by rw [← HM.out]; exact hkt)
                            obtain ⟨n, hn⟩ : ∃ n, x.c.l.getD k default = n := ⟨_, rfl⟩
                            rw [hn] at hat2 t1 hmem2
                            have d0 := hat2 0 (by decide)
                            simp only [RI, Nat.add_zero, Nat.mul_one, List.getElem?_cons_zero] at d0
                            obtain ⟨bo, hbo⟩ : ∃ b, fitsB 4 n = b := ⟨_, rfl⟩
                            rw [hbo] at t1
                            have HF := Lib.hid (fun W => fits4_any n W)
                            rw [hbo] at HF
                            rw [ea2] at c5
                            have HT := Lib.hid (And.intro t1 (And.intro hmem2 (And.intro hbo hb)))
                            clear hb hat2 t1 hmem2 hbo hbb2 hn hka ea2
                            go_wp2_with fail
                            refine (HF.out _).mono ?_
                            rintro e w5 ⟨rfl, hw⟩
                            subst w5
                            cases bo with
                            | true =>
                              go_wp2_with fail
                              exact ⟨⟨k + 1, hkt, by first | rw [hw4] | rw [Int.natCast_succ], HT.out.1, HT.out.2.2.2⟩, by first | (rw [hw4]; exact mSucc hkt) | (rw [← Int.natCast_succ]; exact mSucc hkt)⟩
                            | false =>
                              go_wp2_with fail
                              go_ret
                              exact ⟨ret_bool (by
                                cases v with
                                | false => rfl
                                | true => rw [← HT.out.2.2.1]; exact (HN.out.1 rfl).2 _ HT.out.2.1), bcall F0.out.1 (by simp) (bcall HA.out.2 (Nat.le_refl _) HT.out.2.2.2)⟩
                          · obtain rfl : k = x.c.n := by omega
                            have hkl : ((x.c.n : Int) < (x.c.n : Int)) = False := by simp
                            have HK := Lib.hid (And.intro (show v = true from HN.out.2 ⟨fun s hs => by
                              obtain ⟨j, hj, rfl⟩ := List.mem_iff_getElem.1 hs
                              have := HA.out.1 j (by rw [HL.out]; exact hj)
                              rwa [List.getD_eq_getElem?_getD, List.getElem?_eq_getElem hj] at this, fun n hn => by
                              have := hka
                              rw [HM.out, List.take_length] at this
                              exact List.all_eq_true.1 this n hn⟩) hb)
                            clear hka hb
                            go_wp2_with fail
                            go_ret
                            exact ⟨ret_bool HK.out.1.symm, bcall F0.out.1 (by simp) (bcall HA.out.2 (Nat.le_refl _) HK.out.2)⟩
end Go.Proofs.YtadoflcomienoaaGreat
/- A region that draws its order, in which things are read ahead of one operation t that writes what was read. -/
namespace Go.Proofs.YtadoflcomienoaaGreat
open Go Go.RowKit

section
variable {P : Program} {ops : Array Oper} {md : Region.Mode} {S : World → Prop}

/-- whatever order is picked: S holds behind every operation but t -/
def wpAnyT (P : Program) (md : Region.Mode) (ops : Array Oper) (Q : Exit → Act → World → Prop) (t : Nat) (S : World → Prop) : Nat → Array Bool → Act → World → Prop
  | 0, l0, a, w => Region.ready md ops l0 = [] ∧ Q .normal a w
  | f + 1, l0, a, w => (Region.ready md ops l0 = [] → Q .normal a w) ∧ ∀ j ∈ Region.ready md ops l0, wpOp P ops Q j (fun a' w' => (j ≠ t → S w') ∧ wpAnyT P md ops Q t S f (l0.setIfInBounds j true) a' w') a w
theorem any_of_T {Q : Exit → Act → World → Prop} {t : Nat} : ∀ (f : Nat) (l0 : Array Bool) (a : Act) (w : World), wpAnyT P md ops Q t S f l0 a w → wpAny P md ops Q f l0 a w
  | 0, _, _, _, h => h
  | f + 1, _, _, _, h => ⟨h.1, fun j hj => wpOp_mono (fun a' w' h' => any_of_T f _ a' w' h'.2) (h.2 j hj)⟩
theorem T_first {Q : Exit → Act → World → Prop} {t i : Nat} {oi : Oper} {v : Value} {l0 : Array Bool} (hi : ops[i]? = some oi) (hsel : ∀ (j : Nat) (o : Oper) cs b, ops[j]? = some o → o.op ≠ .select cs b) (hQ : ∀ c (a : Act) w, Q (.panic c) (a.put oi.dst v) w → Q (.panic c) a w) (hit : i ∈ ancs md ops t) (f : Nat) :
    ∀ (listed : Array Bool) (a : Act) (w : World), SInv md ops l0 listed →
      (∀ j oj, ops[j]? = some oj → j ≠ i → listed.getD j true = false → (∀ e ∈ oj.after, Region.binds md e = true → e.on ≠ i) → oi.apart ops oj = true) →
      i ∈ Region.ready md ops listed → YieldsIf P ops S oi v a → S w → wpAnyT P md ops Q t S f (listed.setIfInBounds i true) (a.put oi.dst v) w → wpAnyT P md ops Q t S (f + 1) listed a w := by
  induction f with
  | zero =>
    intro listed a w inv _ hr hy hS H
    refine ⟨fun h => (by rw [h] at hr; cases hr), fun j hj => ?_⟩
    by_cases hji : j = i
    · subst hji; exact hy.wpOp hi hS ⟨fun _ => hS, H⟩
    · have h1 := ready_mono hj hji
      rw [H.1] at h1; cases h1
  | succ f ih =>
    intro listed a w inv hfree hr hy hS H
    refine ⟨fun h => (by rw [h] at hr; cases hr), fun j hj => ?_⟩
    have hun := (mem_ready.1 hr).1
    by_cases hji : j = i
    · subst hji; exact hy.wpOp hi hS ⟨fun _ => hS, H⟩
    obtain ⟨hjun, oj, hoj, hall⟩ := mem_ready.1 hj
    have hjt : j ≠ t := by
      rintro rfl
      have := inv.ancs hj i hit
      rw [getD_both hun] at this; cases this
    have hnot : ∀ e ∈ oj.after, Region.binds md e = true → e.on ≠ i := by
      intro e he hb heq
      have h1 := hall e he hb
      rw [heq, getD_both hun] at h1
      cases h1
    have h2 := wpOp_putIf hoj (hfree j oj hoj hji hjun hnot) (fun cs b => hsel i oi cs b hi) (fun cs b => hsel j oj cs b hoj) hQ hy (H.2 j (ready_mono hj hji))
    refine wpOp_mono (fun a' w' h3 => ⟨h3.2.1, ih (listed.setIfInBounds j true) a' w' (inv.set hj) ?_ (ready_mono hr (Ne.symm hji)) h3.1 (h3.2.1 hjt) ?_⟩) h2
    · intro k ok hk hki hun' hno
      refine hfree k ok hk hki ?_ hno
      by_cases hjk : j = k
      · subst hjk; exact hjun
      · rw [getD_set_ne true hjk] at hun'; exact hun'
    · rw [Array.setIfInBounds_comm _ _ hji]; exact h3.2.2
def readsB (md : Region.Mode) (ops : Array Oper) (t : Nat) (hd : List Nat) (l0 : Array Bool) : Bool := Region.noSelect ops && closedB md ops l0 && hd.all (fun i => (ancs md ops t).contains i) && pureS md ops hd l0
theorem readsT_go {Q : Exit → Act → World → Prop} {t g : Nat} {w : World} (hsel : Region.noSelect ops = true) (hS : S w) (hQ : ∀ c (a : Act) d v w, Q (.panic c) (a.put d v) w → Q (.panic c) a w) {l1 : Array Bool} : ∀ (hd : List Nat) (l0 : Array Bool) (a : Act), SInv md ops l1 l0 → (∀ i ∈ hd, i ∈ ancs md ops t) → pureS md ops hd l0 = true → wpRead P ops S (fun a' => wpAnyT P md ops Q t S g (setAll hd l0) a' w) (pick ops.toList hd) a → wpAnyT P md ops Q t S (hd.length + g) l0 a w
  | [], l0, a, _, _, _, h => by rw [List.length_nil, Nat.zero_add]; exact h
  | i :: r, l0, a, inv, ht, hB, h => by
    simp only [pureS, Bool.and_eq_true] at hB
    obtain ⟨⟨hr, hf⟩, hB'⟩ := hB
    have hr' : i ∈ Region.ready md ops l0 := by simpa using hr
    obtain ⟨o, ho⟩ := ready_lt (md := md) (ops := ops) (listed := l0) (i := i) hr'
    have hp : pick ops.toList (i :: r) = o :: pick ops.toList r := by simp [pick, List.getD_eq_getElem?_getD, ho]
    rw [hp] at h
    rw [List.length_cons, Nat.succ_add]
    unfold wpRead at h
    by_cases hw : Region.wanted o (yielded ops a.tmps) = true
    · rw [if_pos hw] at h
      obtain ⟨v, hv, hrest⟩ := h
      exact T_first ho (Region.noSelect_spec hsel) (fun c a w => hQ c a _ _ w) (ht i (by simp)) _ l0 a w inv (Region.free_spec ho hf) hr' (.inl ⟨hw, hv⟩) hS (readsT_go hsel hS hQ r _ _ (inv.set hr') (fun j hj => ht j (by simp [hj])) hB' hrest)
    · rw [if_neg hw] at h
      exact T_first ho (Region.noSelect_spec hsel) (fun c a w => hQ c a _ _ w) (ht i (by simp)) _ l0 a w inv (Region.free_spec ho hf) hr' (.inr ⟨by simpa using hw, rfl⟩) hS (readsT_go hsel hS hQ r _ _ (inv.set hr') (fun j hj => ht j (by simp [hj])) hB' h)
/-- those that only read what S says may be taken first, if t waits for them -/
theorem T_reads {Q : Exit → Act → World → Prop} {t g n : Nat} (hd : List Nat) (hn : hd.length + g = n) {l0 : Array Bool} {a : Act} {w : World} (hB : readsB md ops t hd l0 = true) (hS : S w) (hQ : ∀ c (a : Act) d v w, Q (.panic c) (a.put d v) w → Q (.panic c) a w)
    (h : wpRead P ops S (fun a' => wpAnyT P md ops Q t S g (setAll hd l0) a' w) (pick ops.toList hd) a) : wpAnyT P md ops Q t S n l0 a w := by
  subst hn
  simp only [readsB, Bool.and_eq_true] at hB
  exact readsT_go hB.1.1.1 hS hQ hd l0 a (sinv_of hB.1.1.2) (fun i hi => by simpa using List.all_eq_true.1 hB.1.2 i hi) hB.2 h
/-- one that comes up alone -/
theorem T_one {Q : Exit → Act → World → Prop} {t g : Nat} (i : Nat) {l0 : Array Bool} {a : Act} {w : World} (hB : decide (Region.ready md ops l0 = [i]) = true)
    (h : wpList P ops (Exit.then (fun a' w' => (i ≠ t → S w') ∧ wpAnyT P md ops Q t S g (l0.setIfInBounds i true) a' w') Q) (pick ops.toList [i]) a w) : wpAnyT P md ops Q t S (g + 1) l0 a w := by
  have hr : Region.ready md ops l0 = [i] := by simpa using hB
  obtain ⟨o, ho⟩ := ready_lt (md := md) (ops := ops) (listed := l0) (i := i) (by rw [hr]; simp)
  refine ⟨fun h0 => (by rw [h0] at hr; cases hr), ?_⟩
  rw [hr]
  intro j hj
  obtain rfl : j = i := by simpa using hj
  have hp : pick ops.toList [j] = [o] := by simp [pick, List.getD_eq_getElem?_getD, ho]
  rw [hp] at h
  unfold wpOp
  simp only [ho]
  unfold wpList at h
  by_cases hw : Region.wanted o (yielded ops a.tmps) = true
  · rw [if_pos hw] at h ⊢
    refine h.imp (fun h => wp_then (Oper.wp_mono (fun a' w' h' => h') h)) (fun h => ⟨h.1, let ⟨a, w, h⟩ := h.2; ⟨a, w, h⟩⟩)
  · rw [if_neg hw] at h ⊢
    exact h
theorem T_done {Q : Exit → Act → World → Prop} {t : Nat} {l0 : Array Bool} {a : Act} {w : World} (hr : Region.ready md ops l0 = []) (h : Q .normal a w) : ∀ f, wpAnyT P md ops Q t S f l0 a w
  | 0 => ⟨hr, h⟩
  | _ + 1 => ⟨fun _ => h, by rw [hr]; simp⟩
theorem wp_region_T {id : Nat} {Q : Exit → Act → World → Prop} {a : Act} {w : World} {l : List Oper} (t : Nat) (S : World → Prop) (hm : P.follows .mixedOrders = true)
    (h : wpAnyT P .any l.toArray Q t S l.length (Array.replicate l.length false) a w.drew) : (Code.region id l.toArray true).wp P Q a w := by
  refine wp_region_any hm ?_
  simpa using any_of_T _ _ _ _ h
end
end Go.Proofs.YtadoflcomienoaaGreat
/- The bytes of an attribute, behind those of others. -/
namespace Go.Proofs.YtadoflcomienoaaGreat
open Go.RowKit

theorem Rep.sl_flat {α : Type} [Inhabited α] {R : Rep α} {w : World} {b c : Nat} {M : List α} {T : TypeId} {fr : Nat × Nat} (h : w.heap[b]? = some (.cells (R.flat M).toArray T fr)) (hm : M.length ≤ maxLen) : R.Sl w (some ⟨b, 0, none⟩) M.length c M :=
  ⟨rfl, hm, fun _ => ⟨b, 0, rfl, lt_of_blk h, fun i hi j hj => by
    have hlt := Rep.mul_lt hi hj
    have hl : i * R.k + j < (R.flat M).length := by rw [R.flat_length]; exact hlt
    rw [Nat.zero_add, ← R.flat_get M i j hi hj, List.getElem?_eq_getElem hl]
    exact cell_of h (by simp [hl])⟩⟩
theorem BSS.nil {w : World} : BSS w [] [] := ⟨rfl, fun _j hj => absurd hj (Nat.not_lt_zero _)⟩
theorem BSS.cons {w : World} {x : Option Addr × Nat × Nat} {l : List Nat} {vs : List (Option Addr × Nat × Nat)} {ls : List (List Nat)} (h1 : RB.Sl w x.1 x.2.1 x.2.2 l) (h2 : x.1 = none → x.2.2 = 0) (h : BSS w vs ls) : BSS w (x :: vs) (l :: ls) :=
  ⟨by rw [List.length_cons, List.length_cons, h.len], fun j hj => by
    cases j with
    | zero => exact ⟨h1, h2⟩
    | succ j => exact h.all j (by simpa using hj)⟩
/-- a writer, and what it has written -/
structure Wr (g base : Nat) (v : Value) (B : List Nat) (W : World) : Prop where
  bx : W.heap[g]? = some (.cells #[v] 237)
  own : RB.Own W base v B
  lt : g < base
theorem Wr.keep {g base : Nat} {v : Value} {B : List Nat} {W W' : World} (h : Wr g base v B W) (hb : Below W.heap.size W W') : Wr g base v B W' := ⟨(hb.block _ (lt_of_blk h.bx)).trans h.bx, h.own.below hb, h.lt⟩
end Go.Proofs.YtadoflcomienoaaGreat
/- The bytes of a path. -/
namespace Go.Proofs.YtadoflcomienoaaGreat
open Go.RowKit

def psz (four : Bool) (p : List Sg) : Nat := (p.map fun s => 2 + wd four * s.2.length).sum
theorem psz_le {four : Bool} : ∀ {p : List Sg}, p.all (okSg four) = true → psz four p ≤ 258 * p.length
  | [], _ => Nat.le_refl _
  | s :: r, h => by
    rw [List.all_cons, Bool.and_eq_true] at h
    have h2 := psz_le h.2
    have h1 : s.2.length ≤ 64 := by
      have := h.1
      unfold okSg at this
      simp at this
      omega
    have hw : wd four ≤ 4 := by unfold wd; split <;> omega
    have := Nat.mul_le_mul hw h1
    unfold psz at *
    rw [List.map_cons, List.sum_cons, List.length_cons]
    omega
end Go.Proofs.YtadoflcomienoaaGreat
/- The bytes of attributes: how many. -/
namespace Go.Proofs.YtadoflcomienoaaGreat
open Go.RowKit

def hdz (n : Nat) : Nat := if 255 < n then 4 else 3
/-- how many bytes attributes have -/
def asz (four : Bool) (x : At) : Nat := 4 + (hdz (psz four x.p) + psz four x.p) + 7 + (if 0 ≤ x.md then 7 else 0) + (if 0 ≤ x.pf then 7 else 0) + (if x.c.length = 0 then 0 else 3 + 4 * x.c.length)
theorem asz_le {four : Bool} {x : At} (h : okA four x = true) : asz four x ≤ 2230 := by
  unfold okA at h
  simp only [Bool.and_eq_true, decide_eq_true_eq] at h
  have h1 := psz_le h.1.2.2
  have h2 := h.1.2.1
  have h3 := h.2.1
  unfold asz hdz
  (repeat' split) <;> omega
end Go.Proofs.YtadoflcomienoaaGreat
