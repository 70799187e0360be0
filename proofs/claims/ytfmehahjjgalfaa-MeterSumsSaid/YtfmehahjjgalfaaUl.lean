/- lives of chapter 17. -/
import Derived.Test.YtfmehahjjgalfaaUk
namespace Go.Proofs.Ytfmehahjjgalfaa.Me
open Go.RowKit

def c1 : PK := (167837696, 16)
theorem okK {a : Nat} {n : Int} (h1 : a < 4294967296) (h2 : -9223372036854775808 ≤ n ∧ n ≤ 9223372036854775807) : PN.ok (a, n) := ⟨wfU ⟨by show (0 : Int) ≤ ((a : Nat) : Int); omega, by show ((a : Nat) : Int) ≤ 4294967295; omega⟩, wfI h2⟩
theorem okc1 : PN.ok c1 := okK (by decide) (by decide)
theorem Cts.one {w : World} {b : Nat} {k : PK} {n : Int} (h : RCt.Sl w (some ⟨b, 0, none⟩) 1 1 [⟨k, n⟩]) (hk : k.1 < 4294967296 ∧ PN.ok k) : Cts w (some ⟨b, 0, none⟩) 1 1 [⟨k, n⟩] := ⟨h, fun x hx => by rw [List.mem_singleton] at hx; subst hx; exact hk⟩
theorem Cts.none {w : World} : Cts w none 0 0 [] := ⟨Rep.sl_nil, fun x hx => by cases hx⟩
def X0 : Nat → Src := fun _ => ⟨none, none⟩
def X1 : Nat → Src := takeX X0 1 1 [⟨c1, 100⟩] 5
def X2 : Nat → Src := takeX X1 1 2 [⟨c1, 160⟩] 8
set_option maxRecDepth 100000 in
theorem tE1 : takeE X0 1 1 [⟨c1, 100⟩] 5 = 0 := by decide
theorem x1_eq : X1 = fun j => if j = 1 then ⟨some ⟨1, 5, [⟨c1, 100⟩]⟩, none⟩ else ⟨none, none⟩ := by unfold X1 takeX; rw [if_pos tE1]; rfl
set_option maxRecDepth 100000 in
theorem tE2 : takeE X1 1 2 [⟨c1, 160⟩] 8 = 0 := by rw [x1_eq]; decide
theorem x2_eq : X2 = fun j => if j = 1 then ⟨some ⟨2, 8, [⟨c1, 160⟩]⟩, some ⟨1, 5, [⟨c1, 100⟩]⟩⟩ else ⟨none, none⟩ := by
  unfold X2 takeX
  rw [if_pos tE2, x1_eq]
  funext j
  by_cases h : j = 1
  · subst h; rfl
  · have h2 : j ≠ (1 : Int).toNat := h
    simp only [if_neg h, if_neg h2]
set_option maxRecDepth 100000 in
theorem tE3 : takeE X2 1 2 [⟨c1, 999⟩] 9 = 170 := by rw [x2_eq]; decide
set_option maxRecDepth 100000 in
theorem tE4 : takeE X2 16 0 [] 9 = 1 := by rw [x2_eq]; decide
set_option maxRecDepth 100000 in
theorem dI1 : demI X1 c1 16 = 0 := by rw [x1_eq]; decide
set_option maxRecDepth 100000 in
theorem dI2 : demI X2 c1 16 = 20 := by rw [x2_eq]; decide
theorem st1 : stampV X2 1 = 8 ∧ stampB X2 1 = true := by rw [x2_eq]; decide
theorem st2 : stampV X2 2 = 0 ∧ stampB X2 2 = false := by rw [x2_eq]; decide
theorem lone2 : Lone X2 c1 := by
  rw [x2_eq]
  intro i _ r hr j hj
  by_cases h : i = 1
  · subst h
    cases hr
    simpa using hj
  · simp only [if_neg h] at hr
    cases hr
theorem dem2 (hok : ∀ i, i < 16 → (X2 i).ok) : Dem X2 [⟨c1, 20⟩] := by
  have h := dem_lone hok lone2
  unfold demL at h
  rw [dI2] at h
  exact h
theorem chk5 : (if chkR 0 (-1) [] then (0 : Int) else 1) = 1 := by decide
set_option maxRecDepth 100000 in
set_option maxHeartbeats 8000000 in
theorem lives17 (w : World) : Calls Try.prog 45 #[] w fun e w' => e = .returned (.bool true) ∧ Below w.heap.size w w' := by
  go_enter Try.func45, Try.ntmps45
  go_wp2_with fail
  refine (mnew_any _).mono ?_
  rintro e W1 ⟨rfl, hT, hb⟩
  have HBM := Lib.hid (Nat.le_refl w.heap.size)
  have F0 := Lib.hid (And.intro hb (show MetAt W1 w.heap.size X0 from hT))
  clear hT hb
  obtain ⟨m, hm⟩ : ∃ m, w.heap.size = m := ⟨_, rfl⟩
  have F0 := Lib.hid (show Below w.heap.size w W1 ∧ MetAt W1 m X0 from hm ▸ F0.out)
  have HBM := Lib.hid (show w.heap.size ≤ m from Nat.le_of_eq hm)
  rw [hm]
  clear hm
  go_wp2_with fail
  refine (ten1 _).mono ?_
  rintro e W2 ⟨rfl, hb⟩
  have F30 := Lib.hid (And.intro (bcall F0.out.1 (Nat.le_refl _) hb) ((F0.out.2.keep hb)))
  clear F0
  clear hb
  go_wp2_with fail
  refine (one_any 1 1 c1 100 _).mono ?_
  rintro e W3 ⟨b1, rfl, hs, hb⟩
  have F31 := Lib.hid (And.intro (bcall F30.out.1 (Nat.le_refl _) hb) (And.intro (F30.out.2.keep hb) (hs)))
  clear F30
  clear hb hs
  go_wp2_with fail
  have hg := take_any F31.out.2.1 (Cts.one F31.out.2.2 ⟨by decide, okc1⟩) 1 1 5
  rw [tE1] at hg
  refine hg.mono ?_
  rintro e W4 ⟨rfl, hs⟩
  have htab := hs.met
  have hbt := hs.but
  clear hs hg
  have F32 := Lib.hid (And.intro (Below.step F31.out.1 F31.out.1.size hbt (by simp; exact HBM.out)) (htab))
  clear F31
  clear htab hbt
  go_wp2_with fail
  refine (ten1 _).mono ?_
  rintro e W5 ⟨rfl, hb⟩
  have F33 := Lib.hid (And.intro (bcall F32.out.1 (Nat.le_refl _) hb) ((F32.out.2.keep hb)))
  clear F32
  clear hb
  go_wp2_with fail
  have hg := demand_any (X := X1) F33.out.2 okc1
  rw [dI1] at hg
  refine hg.mono ?_
  rintro e W6 ⟨rfl, hb⟩
  clear hg
  have F34 := Lib.hid (And.intro (bcall F33.out.1 (Nat.le_refl _) hb) ((F33.out.2.keep hb)))
  clear F33
  clear hb
  go_wp2_with fail
  refine (ten1 _).mono ?_
  rintro e W7 ⟨rfl, hb⟩
  have F35 := Lib.hid (And.intro (bcall F34.out.1 (Nat.le_refl _) hb) ((F34.out.2.keep hb)))
  clear F34
  clear hb
  go_wp2_with fail
  refine (one_any 1 2 c1 160 _).mono ?_
  rintro e W8 ⟨b2, rfl, hs, hb⟩
  have F36 := Lib.hid (And.intro (bcall F35.out.1 (Nat.le_refl _) hb) (And.intro (F35.out.2.keep hb) (hs)))
  clear F35
  clear hb hs
  go_wp2_with fail
  have hg := take_any (X := X1) F36.out.2.1 (Cts.one F36.out.2.2 ⟨by decide, okc1⟩) 1 2 8
  rw [tE2] at hg
  refine hg.mono ?_
  rintro e W9 ⟨rfl, hs⟩
  have htab := hs.met
  have hbt := hs.but
  clear hs hg
  have F37 := Lib.hid (And.intro (Below.step F36.out.1 F36.out.1.size hbt (by simp; exact HBM.out)) (htab))
  clear F36
  clear htab hbt
  go_wp2_with fail
  refine (ten1 _).mono ?_
  rintro e W10 ⟨rfl, hb⟩
  have F38 := Lib.hid (And.intro (bcall F37.out.1 (Nat.le_refl _) hb) ((F37.out.2.keep hb)))
  clear F37
  clear hb
  go_wp2_with fail
  refine (one_any 1 2 c1 999 _).mono ?_
  rintro e W11 ⟨b3, rfl, hs, hb⟩
  have F39 := Lib.hid (And.intro (bcall F38.out.1 (Nat.le_refl _) hb) (And.intro (F38.out.2.keep hb) (hs)))
  clear F38
  clear hb hs
  go_wp2_with fail
  have hg := take_any (X := X2) F39.out.2.1 (Cts.one F39.out.2.2 ⟨by decide, okc1⟩) 1 2 9
  rw [tE3, takeX_no (by rw [tE3]; decide)] at hg
  refine hg.mono ?_
  rintro e W12 ⟨rfl, hs⟩
  have htab := hs.met
  have hbt := hs.but
  clear hs hg
  have F40 := Lib.hid (And.intro (Below.step F39.out.1 F39.out.1.size hbt (by simp; exact HBM.out)) (htab))
  clear F39
  clear htab hbt
  go_wp2_with fail
  have hg := take_any (X := X2) F40.out.2 Cts.none 16 0 9
  rw [tE4, takeX_no (by rw [tE4]; decide)] at hg
  refine hg.mono ?_
  rintro e W13 ⟨rfl, hs⟩
  have htab := hs.met
  have hbt := hs.but
  clear hs hg
  have F41 := Lib.hid (And.intro (Below.step F40.out.1 F40.out.1.size hbt (by simp; exact HBM.out)) (htab))
  clear F40
  clear htab hbt
  go_wp2_with fail
  refine (ten1 _).mono ?_
  rintro e W14 ⟨rfl, hb⟩
  have F42 := Lib.hid (And.intro (bcall F41.out.1 (Nat.le_refl _) hb) ((F41.out.2.keep hb)))
  clear F41
  clear hb
  go_wp2_with fail
  have hg := demand_any (X := X2) F42.out.2 okc1
  rw [dI2] at hg
  refine hg.mono ?_
  rintro e W15 ⟨rfl, hb⟩
  clear hg
  have F43 := Lib.hid (And.intro (bcall F42.out.1 (Nat.le_refl _) hb) ((F42.out.2.keep hb)))
  clear F42
  clear hb
  go_wp2_with fail
  refine (demands_any (X := X2) F43.out.2).mono ?_
  rintro e W16 ⟨v, L, rfl, hr⟩
  have hL := hr.dem.one (dem2 (MetAt.ok F43.out.2))
  have hown := hr.own
  have hb := hr.bel
  rw [hL] at hown
  obtain ⟨oa, cc, rfl, hsl, -⟩ := hown.sl0
  rw [show ([⟨c1, 20⟩] : List Ct).length = 1 from rfl] at hsl ⊢
  have F44 := Lib.hid (And.intro (bcall F43.out.1 (Nat.le_refl _) hb) (And.intro (F43.out.2.keep hb) (hsl)))
  clear F43
  clear hr hL hown hb hsl
  go_wp2_with fail
  have hg := stamp_any (X := X2) F44.out.2.1 1
  rw [st1.1, st1.2] at hg
  refine hg.mono ?_
  rintro e Wx ⟨rfl, hw⟩
  clear hg
  subst hw
  go_wp2_with fail
  have hg := stamp_any (X := X2) F44.out.2.1 2
  rw [st2.1, st2.2] at hg
  refine hg.mono ?_
  rintro e Wx ⟨rfl, hw⟩
  clear hg
  subst hw
  go_wp2_with fail
  refine (ten1 _).mono ?_
  rintro e W17 ⟨rfl, hb⟩
  have F45 := Lib.hid (And.intro (bcall F44.out.1 (Nat.le_refl _) hb) (And.intro (F44.out.2.1.keep hb) ((F44.out.2.2.keep hb))))
  clear F44
  clear hb
  have hal := (Below.refl W17.heap.size W17).alloc (Nat.le_refl _) (.cells #[.int .u32 167837696, .int .i64 16, .int .i64 20] 128)
  have hs2 : RCt.Sl (W17.alloc (.cells #[.int .u32 167837696, .int .i64 16, .int .i64 20] 128)) (some ⟨W17.heap.size, 0, none⟩) 1 1 [⟨c1, 20⟩] := RCt.one (k := c1) (n := 20) (hnew _ _)
  have HS2 := Lib.hid hs2
  have F46 := Lib.hid (And.intro (bcall F45.out.1 (Nat.le_refl _) hal) (And.intro (F45.out.2.1.keep hal) ((F45.out.2.2.keep hal))))
  clear F45
  clear hal hs2
  go_wp2_with fail
  generalize W17.alloc (.cells #[.int .u32 167837696, .int .i64 16, .int .i64 20] 128) = W18 at *
  generalize W17.heap.size = r2 at *
  refine (same17 F46.out.2.2 HS2.out).mono ?_
  rintro e W19 ⟨rfl, hb⟩
  have F47 := Lib.hid (And.intro (bcall F46.out.1 (Nat.le_refl _) hb) (And.intro (F46.out.2.1.keep hb) ((F46.out.2.2.keep hb))))
  clear F46
  clear hb
  go_wp2_with fail
  refine (over_any (X := X2) F47.out.2.1).mono ?_
  rintro e W20 ⟨L2, hd2, rfl, hb⟩
  have hL2 := hd2.one (dem2 (MetAt.ok F47.out.2.1))
  rw [hL2, show (sumC [⟨c1, 20⟩] == 9007199254740991) = false from by decide]
  have F48 := Lib.hid (And.intro (bcall F47.out.1 (Nat.le_refl _) hb) (And.intro (F47.out.2.1.keep hb) ((F47.out.2.2.keep hb))))
  clear F47
  clear hb hd2 hL2
  go_wp2_with fail
  have hg := mcheck_any (w := W20) Cts.none 0 (-1)
  rw [chk5] at hg
  refine hg.mono ?_
  rintro e W21 ⟨rfl, hb⟩
  clear hg
  have F49 := Lib.hid (And.intro (bcall F48.out.1 (Nat.le_refl _) hb) (And.intro (F48.out.2.1.keep hb) ((F48.out.2.2.keep hb))))
  clear F48
  clear hb
  go_wp2_with fail
  go_ret
  exact ⟨rfl, F49.out.1⟩
end Go.Proofs.Ytfmehahjjgalfaa.Me
