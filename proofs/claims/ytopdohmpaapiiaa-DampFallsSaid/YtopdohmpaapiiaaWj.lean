/- lives. -/
import Derived.Test.YtopdohmpaapiiaaWi
namespace Go.Proofs.Ytopdohmpaapiiaa
open Go.RowKit
open Go.ChangeMaps (setBlock)

structure LiveSt (B : Nat) (w : World) (w' : World) (d bm bp clock born : Nat) (p : Pen) : Prop where
  one : Damp1 w' d bm bp clock born U K1 p
  below : Below B w w'
  hB : B ≤ w'.heap.size
  hm : B ≤ bm
  hp : B ≤ bp
theorem LiveSt.next {B : Nat} {w w1 w2 : World} {d bm bp clock born : Nat} {p q : Pen} (h : LiveSt B w w1 d bm bp clock born p) (hb : But w1 w2 [bm, bp]) (h2 : Damp1 w2 d bm bp clock born U K1 q) : LiveSt B w w2 d bm bp clock born q :=
  ⟨h2, Below.step h.below h.hB hb (by intro b hb'; simp at hb'; rcases hb' with rfl | rfl; exact h.hm; exact h.hp), Nat.le_trans h.hB hb.size, h.hm, h.hp⟩
theorem LiveSt.far {B : Nat} {w w1 w2 : World} {d bm bp clock born : Nat} {p : Pen} (h : LiveSt B w w1 d bm bp clock born p) (hb : Below w1.heap.size w1 w2) : LiveSt B w w2 d bm bp clock born p :=
  h.next (But.of_below hb _) (h.one.below hb)

theorem keyC (w : World) : Calls Try.prog 9 #[.int .i64 1] w fun e w' => e = .returned K1.val ∧ Below w.heap.size w w' := key_any 1 w
theorem usualC (w : World) : Calls Try.prog 12 #[] w fun e w' => e = .returned U.val ∧ Below w.heap.size w w' := usual_any w

set_option maxHeartbeats 4000000 in
theorem lives_any (w : World) : Calls Try.prog 6 #[] w fun e w' => e = .returned (.bool true) ∧ Below w.heap.size w w' := by
  go_enter Try.func6, Try.ntmps6
  go_wp2_with fail
  refine (usualC _).mono ?_
  rintro e w1 ⟨rfl, hb1⟩
  go_wp2_with fail
  refine (new_ok U U_ok _).mono ?_
  rintro e w2 ⟨d, bm, rfl, hm2⟩
  go_wp2_with fail
  refine (new_zero _).mono ?_
  rintro e w3 ⟨rfl, hb3⟩
  have E3 : DampE w3 d bm 0 U := DampE.below ⟨hm2.blk, MR.mapAt_made KN hm2.map⟩ hb3
  have B3 : Below w.heap.size w w3 := (hb1.trans (hm2.below.mono hb1.size)).trans (hb3.mono (Nat.le_trans hb1.size hm2.below.size))
  have L3 : w.heap.size ≤ bm := Nat.le_trans hb1.size hm2.b0
  have H3 := Lib.hid (And.intro E3 (And.intro B3 L3))
  clear E3 B3 L3 hb1 hm2 hb3
  go_wp2_with fail
  refine (keyC _).mono ?_
  rintro e w4 ⟨rfl, hb4⟩
  go_wp2_with fail
  refine (deed_E d bm 0 U U_ok K1 K1_wf K1_chk 3 100 (by omega) (by omega) (by omega) (by omega) _ (H3.out.1.below hb4)).mono ?_
  rintro e w5 ⟨bp, born, rfl, hD, hb5, hbp⟩
  rw [e1] at hD ⊢
  have S : LiveSt w.heap.size w w5 d bm bp 1 born (1000, 100, false) := by
    obtain ⟨E3, B3, L3⟩ := H3.out
    have b4 : Below w.heap.size w w4 := B3.trans (hb4.mono B3.size)
    exact ⟨hD.one (by decide), Below.step b4 b4.size hb5 (by simpa using L3), Nat.le_trans b4.size hb5.size, L3, Nat.le_trans b4.size hbp⟩
  have HS := Lib.hid S
  clear S hD hb5 hbp hb4 H3
  go_wp2_with fail
  refine (keyC _).mono ?_
  rintro e v6 ⟨rfl, hb6⟩
  go_wp2_with fail
  refine (penalty_some d bm bp 1 born U U_ok K1 K1_wf _ 110 _ (HS.out.far hb6).one).mono ?_
  rintro e w6 ⟨rfl, hd6, hc6⟩
  rw [e2] at hd6 ⊢
  have S := (HS.out.far hb6).next (hc6.mono (by simp)) hd6
  clear HS
  have HS := Lib.hid S
  clear S hd6 hc6 hb6
  go_wp2_with fail
  refine (keyC _).mono ?_
  rintro e v7 ⟨rfl, hb7⟩
  go_wp2_with fail
  refine (penalty_some d bm bp 1 born U U_ok K1 K1_wf _ 120 _ (HS.out.far hb7).one).mono ?_
  rintro e w7 ⟨rfl, hd7, hc7⟩
  rw [e3] at hd7 ⊢
  have S := (HS.out.far hb7).next (hc7.mono (by simp)) hd7
  clear HS
  have HS := Lib.hid S
  clear S hd7 hc7 hb7
  go_wp2_with fail
  refine (keyC _).mono ?_
  rintro e v8 ⟨rfl, hb8⟩
  go_wp2_with fail
  refine (deed_some d bm bp 1 born U U_ok K1 K1_wf K1_chk _ _ _ 3 120 (by omega) (by omega) (by omega) (by omega) _ (HS.out.far hb8).one).mono ?_
  rintro e w8 ⟨rfl, hd8, hc8⟩
  rw [e4] at hd8 ⊢
  replace hd8 := hd8.one (by decide)
  have S := (HS.out.far hb8).next (hc8.mono (by simp)) hd8
  clear HS
  have HS := Lib.hid S
  clear S hd8 hc8 hb8
  go_wp2_with fail
  refine (keyC _).mono ?_
  rintro e v9 ⟨rfl, hb9⟩
  go_wp2_with fail
  refine (deed_some d bm bp 1 born U U_ok K1 K1_wf K1_chk _ _ _ 2 121 (by omega) (by omega) (by omega) (by omega) _ (HS.out.far hb9).one).mono ?_
  rintro e w9 ⟨rfl, hd9, hc9⟩
  rw [e5] at hd9 ⊢
  replace hd9 := hd9.one (by decide)
  have S := (HS.out.far hb9).next (hc9.mono (by simp)) hd9
  clear HS
  have HS := Lib.hid S
  clear S hd9 hc9 hb9
  go_wp2_with fail
  refine (keyC _).mono ?_
  rintro e v10 ⟨rfl, hb10⟩
  go_wp2_with fail
  refine (held_some d bm bp 1 born U U_ok K1 K1_wf _ 125 _ (HS.out.far hb10).one).mono ?_
  rintro e w10 ⟨rfl, hd10, hc10⟩
  rw [e6] at hd10 ⊢
  have S := (HS.out.far hb10).next (hc10.mono (by simp)) hd10
  clear HS
  have HS := Lib.hid S
  clear S hd10 hc10 hb10
  go_wp2_with fail
  refine (keyC _).mono ?_
  rintro e v11 ⟨rfl, hb11⟩
  go_wp2_with fail
  refine (held_some d bm bp 1 born U U_ok K1 K1_wf _ 300 _ (HS.out.far hb11).one).mono ?_
  rintro e w11 ⟨rfl, hd11, hc11⟩
  rw [e7]
  have S := (HS.out.far hb11).next (hc11.mono (by simp)) hd11
  clear HS
  have HS := Lib.hid S
  clear S hd11 hc11 hb11
  go_wp2_with fail
  refine (keyC _).mono ?_
  rintro e v12 ⟨rfl, hb12⟩
  go_wp2_with fail
  refine (deed_bad d bm bp 1 born U _ 5 _ (HS.out.far hb12).one).mono ?_
  rintro e w12 ⟨rfl, hc12⟩
  have S := (HS.out.far hb12).far hc12
  clear HS
  have HS := Lib.hid S
  clear S hc12 hb12
  go_wp2_with fail
  refine (sweep_goes d bm bp 1 born U U_ok K1 K1_wf _ 100000 _ HS.out.one (by rw [e8]; exact Int.le_refl 0) e9).mono ?_
  rintro e w20 ⟨rfl, hE, hb⟩
  have B20 : Below w.heap.size w w20 := Below.step HS.out.below HS.out.hB hb (by intro b hb'; simp at hb'; rcases hb' with rfl | rfl; exact HS.out.hm; exact HS.out.hp)
  have X := Lib.hid (And.intro hE B20)
  clear hE B20 hb HS
  go_wp2_with fail
  refine (len_any d bm 1 U [] _ X.out.1.blk X.out.1.map).mono ?_
  rintro e w21 ⟨rfl, rfl⟩
  go_wp2_with fail
  refine (usualC _).mono ?_
  rintro e w22 ⟨rfl, hb22⟩
  go_wp2_with fail
  refine (check_ok U U_ok _).mono ?_
  rintro e w23 ⟨rfl, hb23⟩
  go_wp2_with fail
  go_ret
  have b := X.out.2
  exact ⟨rfl, (b.trans (hb22.mono b.size)).trans (hb23.mono (Nat.le_trans b.size hb22.size))⟩
end Go.Proofs.Ytopdohmpaapiiaa
