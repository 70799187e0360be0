/- Deed, on a damp that counts the key. -/
import Derived.Test.YtopdohmpaapiiaaWg
namespace Go.Proofs.Ytopdohmpaapiiaa
open Go.RowKit
open Go.ChangeMaps (setBlock)
set_option maxHeartbeats 4000000 in
theorem deed_some (d bm bp clock born : Nat) (s : Sett) (hs : s.ok) (k : Key) (hk : k.wf) (hkk : chk k.a k.l = true) (n0 a0 : Int) (h0 : Bool) (deed now : Int) (hd1 : 1 ≤ deed) (hd3 : deed ≤ 3) (hw0 : 0 ≤ now) (hw1 : now ≤ 9007199254740991) (w : World) (h : Damp1 w d bm bp clock born s k (n0, a0, h0)) :
    Calls Try.prog 8 #[.pointer (some ⟨d, 0, none⟩), k.val, .int .i64 deed, .int .i64 now] w fun e w' => e = .returned (.tuple #[.bool (Pen.deed s (n0, a0, h0) deed now).2.2, .int .i64 0]) ∧ DampSt w' d bm bp clock born s k (Pen.deed s (n0, a0, h0) deed now) ∧ But w w' [bm, bp] := by
  have ld := lt_of_blk h.blk
  have lm := lt_of_blk h.map.blk
  have hwb := weigh_bd s hs deed
  have c5 : w.cell? ⟨d, 5, none⟩ = some (.map (some bm)) := cell_of h.blk rfl
  have hlk := fun (o : Obj) (q : Nat) => MR.run_lookup KN (h.map.blk_iff KN (heap_ad lm o q)) hk Try.underlying46 zero49 false
  have hg : MR.get? [(k, (Value.pointer (some ⟨bp, 0, none⟩)), born)] k = some (.pointer (some ⟨bp, 0, none⟩)) := by simp [MR.get?]
  rw [hg] at hlk
  simp only [KN, Key.val, Option.getD_some, Bool.false_eq_true, if_false] at hlk
  have HC := Lib.hid (fun w => check_any k.a k.l w)
  simp only [hkk, if_true] at HC
  have HH := Lib.hid h
  have HS := Lib.hid hs
  have HK := Lib.hid hk
  have n1 : decide (deed < 1) = false := by simp; omega
  have n2 : decide (3 < deed) = false := by simp; omega
  have n3 : (now != min (max now 0) 9007199254740991) = false := by simp; omega
  obtain ⟨s1, s2, s3, s4, s5, s6, s7, s8, s9, s10⟩ := hs
  have lp := lt_of_blk h.pen
  have ne2 := h.ne
  have nm2 := h.nem
  have z0 := h.n0
  have z1 := h.n1
  have z2 := h.a0
  have z3 := h.a1
  dsimp only at z0 z1 z2 z3
  clear h hg hkk hk
  unfold Key.val
  go_enter Try.func8, Try.ntmps8
  go_wp2_with fail
  refine (made_yes d bm s _ (hold HH.out.blk)).mono ?_
  rintro e w' ⟨rfl, rfl⟩
  go_wp2_with fail
  go_quiet (fail)
  go_wp2_with fail
  refine (HC.out _).mono ?_
  rintro e w1 ⟨rfl, hb⟩
  have B1 : But w w1 [] := ((((But.refl w []).alloc _).drewN _).trans (But.of_below hb []))
  have K1 := (hb.block w.heap.size (by simp)).trans (hnew _ _)
  have k0 : w1.cell? ⟨w.heap.size, 0, none⟩ = some (.int .i64 k.r) := cell_of K1 rfl
  have k1 : w1.cell? ⟨w.heap.size, 1, none⟩ = some (.int .u32 k.a) := cell_of K1 rfl
  have k2 : w1.cell? ⟨w.heap.size, 2, none⟩ = some (.int .i64 k.l) := cell_of K1 rfl
  have k3 : w1.cell? ⟨w.heap.size, 3, none⟩ = some (.int .i64 k.i) := cell_of K1 rfl
  have D1 := (B1.block d ld (by simp)).trans HH.out.blk
  have M1 := HH.out.map.blk_iff KN (B1.block bm lm (by simp))
  have d5 : w1.cell? ⟨d, 5, none⟩ = some (.map (some bm)) := cell_of D1 rfl
  have LS : Hid (w.heap.size < w1.heap.size) := show w.heap.size < w1.heap.size from lt_of_blk K1
  have P1 := (B1.block bp lp (by simp)).trans HH.out.pen
  clear hlk c5 hb
  have H1 := Lib.hid (And.intro B1 (And.intro K1 (And.intro D1 (And.intro M1 P1))))
  clear B1 K1 D1 M1 P1
  go_wp2_with fail
  refine (near_any _ _).mono ?_
  rintro e w' ⟨rfl, rfl⟩
  go_wp2_with fail
  obtain ⟨B1, K1, D1, M1, P1⟩ := H1.out
  refine (settle_any d bp _ _ _ _ _ _ n0 a0 _ h0 _ D1 P1 ne2 s9 s10 z0 z1 z2 z3 hw0 (by omega)).mono ?_
  rintro e w3 ⟨rfl, hS⟩
  have bmp : bm ≠ bp := nm2.1
  have dnm : d ≠ bm := nm2.2
  have kmp : w.heap.size ≠ bp := by omega
  have kmm : w.heap.size ≠ bm := by omega
  have M2 := M1.blk_iff KN (hS.upd.other bmp)
  have B3 : But w w3 [bm, bp] := (B1.mono (by simp)).thenSet hS.upd (.inr (by simp))
  have D3 := (hS.upd.other ne2).trans D1
  have K3 := (hS.upd.other kmp).trans K1
  have P3 := hS.upd.at (lt_of_blk P1)
  have q0 := hS.b0
  have q1 := hS.b1
  have q2 := hS.b2
  have q3 := hS.b3
  clear hS M1 D1 K1 B1 P1
  obtain ⟨n, a, hh, hq⟩ : ∃ n a hh, settled s.lo s.e now n0 a0 h0 = (n, a, hh) := ⟨_, _, _, rfl⟩
  rw [hq] at P3 q0 q1 q2 q3
  dsimp only at q0 q1 q2 q3
  have HQ : Hid (Pen.deed s (n0, a0, h0) deed now = (min (n + weigh s deed) 1048576, a, hh || decide (s.hi < min (n + weigh s deed) 1048576))) := show Pen.deed s (n0, a0, h0) deed now = _ by
    unfold Pen.deed Pen.at; dsimp only; rw [hq]
  clear hq
  have c0 : w3.cell? ⟨bp, 0, none⟩ = some (.int .i64 n) := cell_of P3 rfl
  have c2 : w3.cell? ⟨bp, 2, none⟩ = some (.bool hh) := cell_of P3 rfl
  have f0 : w3.frozen? ⟨bp, 0, none⟩ = false := free_of P3
  have f2 : w3.frozen? ⟨bp, 2, none⟩ = false := free_of P3
  have dh : w3.cell? ⟨d, 2, none⟩ = some (.int .i64 s.hi) := cell_of D3 rfl
  have k0'' : w3.cell? ⟨w.heap.size, 0, none⟩ = some (.int .i64 k.r) := cell_of K3 rfl
  have k1'' : w3.cell? ⟨w.heap.size, 1, none⟩ = some (.int .u32 k.a) := cell_of K3 rfl
  have k2'' : w3.cell? ⟨w.heap.size, 2, none⟩ = some (.int .i64 k.l) := cell_of K3 rfl
  have k3'' : w3.cell? ⟨w.heap.size, 3, none⟩ = some (.int .i64 k.i) := cell_of K3 rfl
  have hsum : IntKind.i64.wrap (n + weigh s deed) = n + weigh s deed := IntWalk.i64_in _ (by omega)
  have ne3 : d ≠ bp := ne2
  have H3 := Lib.hid (And.intro B3 (And.intro D3 (And.intro M2 P3)))
  clear B3 M2 K3 P3
  go_wp2_with fail
  by_cases t1 : 1048576 < n + weigh s deed
  · have hm0 : True := trivial
    have em : min (n + weigh s deed) 1048576 = (1048576 : Int) := by omega
    have EM := Lib.hid em
    clear em
    refine wp_region_still_tail 12 (by kernel_rfl) (by kernel_rfl) ?_
    simp only [List.take_succ_cons, List.take_zero, List.drop_succ_cons, List.drop_zero]
    repeat (first | still_step | still_call ((weight_any d bm s deed (w3.drew) D3).mono fun _ _ h => ⟨h.1, h.2.symm⟩))
    refine wpStill_nil ?_
    go_wp2_with fail
    cases hh with
    | true =>
      go_region
      go_wp2_with fail
      obtain ⟨B3, D3', M3, P3⟩ := H3.out
      have PF := setCell_blk (setCell_blk P3 0 (.int .i64 ((1048576 : Int)))) 2 (.bool true)
      have hq : Pen.deed s (n0, a0, h0) deed now = ((1048576 : Int), a, true) := by
        rw [HQ.out]
        rw [EM.out]; rfl
      have HS0 : 0 < ((1048576 : Int), a, true).1 ∨ ((1048576 : Int), a, true).2.2 = true := .inr rfl
      refine (forget_stays d bm bp s ((1048576 : Int), a, true) k _ ?_ ?_ HS0).mono ?_
      · exact ((World.heap_far _ (Ne.symm ne3)).trans D3')
      · exact PF
      rintro e w5 ⟨rfl, hb5⟩
      have P5 := (hb5.block bp (lt_of_blk PF)).trans PF
      have c5' : w5.cell? ⟨bp, 2, none⟩ = some (.bool true) := cell_of P5 rfl
      have X5 := Lib.hid (And.intro hb5 (And.intro P5 HS0))
      clear hb5 P5 HS0
      go_wp2_with fail
      go_ret2
      obtain ⟨hb5, P5, HS0⟩ := X5.out
      have B5 : But w w5 [bm, bp] := (((B3.setCell (a := ⟨bp, 0, none⟩) (.inr (by simp)) _).setCell (a := ⟨bp, 2, none⟩) (.inr (by simp)) _).drew.drew.trans (But.of_below hb5 [bm, bp]))
      have Z5 : Damp1 w5 d bm bp clock born s k ((1048576 : Int), a, true) := ⟨(hb5.block _ (by simp [World.setCell]; exact lt_of_blk D3')).trans ((World.heap_far _ (Ne.symm ne3)).trans D3'), (M3.blk_iff KN (World.heap_far _ bmp.symm)).blk_iff KN (hb5.block _ (by simp [World.setCell]; exact lt_of_blk M3.blk)), P5, by dsimp only; omega, by dsimp only; omega, q2, q3⟩
      exact ⟨by rw [hq]; rfl, by rw [hq]; exact DampSt.of_one (.inr rfl) Z5, B5⟩
    | false =>
      by_cases t2 : s.hi < (1048576 : Int)
      · have T2 := Lib.hid t2
        go_region
        go_wp2_with fail
        obtain ⟨B3, D3', M3, P3⟩ := H3.out
        have PF := setCell_blk (setCell_blk P3 0 (.int .i64 ((1048576 : Int)))) 2 (.bool true)
        have hq : Pen.deed s (n0, a0, h0) deed now = ((1048576 : Int), a, true) := by
          rw [HQ.out]
          rw [EM.out, decide_eq_true (by have := T2.out; omega)]; rfl
        have HS0 : 0 < ((1048576 : Int), a, true).1 ∨ ((1048576 : Int), a, true).2.2 = true := .inr rfl
        refine (forget_stays d bm bp s ((1048576 : Int), a, true) k _ ?_ ?_ HS0).mono ?_
        · exact ((World.heap_far _ (Ne.symm ne3)).trans D3')
        · exact PF
        rintro e w5 ⟨rfl, hb5⟩
        have P5 := (hb5.block bp (lt_of_blk PF)).trans PF
        have c5' : w5.cell? ⟨bp, 2, none⟩ = some (.bool true) := cell_of P5 rfl
        have X5 := Lib.hid (And.intro hb5 (And.intro P5 HS0))
        clear hb5 P5 HS0
        go_wp2_with fail
        go_ret2
        obtain ⟨hb5, P5, HS0⟩ := X5.out
        have B5 : But w w5 [bm, bp] := (((B3.setCell (a := ⟨bp, 0, none⟩) (.inr (by simp)) _).setCell (a := ⟨bp, 2, none⟩) (.inr (by simp)) _).drew.drew.trans (But.of_below hb5 [bm, bp]))
        have Z5 : Damp1 w5 d bm bp clock born s k ((1048576 : Int), a, true) := ⟨(hb5.block _ (by simp [World.setCell]; exact lt_of_blk D3')).trans ((World.heap_far _ (Ne.symm ne3)).trans D3'), (M3.blk_iff KN (World.heap_far _ bmp.symm)).blk_iff KN (hb5.block _ (by simp [World.setCell]; exact lt_of_blk M3.blk)), P5, by dsimp only; omega, by dsimp only; omega, q2, q3⟩
        exact ⟨by rw [hq]; rfl, by rw [hq]; exact DampSt.of_one (.inr rfl) Z5, B5⟩
      · have T2 := Lib.hid t2
        have t2' : decide (s.hi < (1048576 : Int)) = false := by simpa using t2
        go_region
        go_wp2_with fail
        obtain ⟨B3, D3', M3, P3⟩ := H3.out
        have PF := setCell_blk (setCell_blk P3 0 (.int .i64 ((1048576 : Int)))) 2 (.bool false)
        have hq : Pen.deed s (n0, a0, h0) deed now = ((1048576 : Int), a, false) := by
          rw [HQ.out]
          rw [EM.out, decide_eq_false (by have := T2.out; omega)]; rfl
        by_cases t3 : 0 < (1048576 : Int)
        · have T3 := Lib.hid t3
          have HS0 : 0 < ((1048576 : Int), a, false).1 ∨ ((1048576 : Int), a, false).2.2 = true := .inl T3.out
          refine (forget_stays d bm bp s ((1048576 : Int), a, false) k _ ?_ ?_ HS0).mono ?_
          · exact ((World.heap_far _ (Ne.symm ne3)).trans D3')
          · exact PF
          rintro e w5 ⟨rfl, hb5⟩
          have P5 := (hb5.block bp (lt_of_blk PF)).trans PF
          have c5' : w5.cell? ⟨bp, 2, none⟩ = some (.bool false) := cell_of P5 rfl
          have X5 := Lib.hid (And.intro hb5 (And.intro P5 HS0))
          clear hb5 P5 HS0
          go_wp2_with fail
          go_ret2
          obtain ⟨hb5, P5, HS0⟩ := X5.out
          have B5 : But w w5 [bm, bp] := (((B3.setCell (a := ⟨bp, 0, none⟩) (.inr (by simp)) _).setCell (a := ⟨bp, 2, none⟩) (.inr (by simp)) _).drew.drew.trans (But.of_below hb5 [bm, bp]))
          have Z5 : Damp1 w5 d bm bp clock born s k ((1048576 : Int), a, false) := ⟨(hb5.block _ (by simp [World.setCell]; exact lt_of_blk D3')).trans ((World.heap_far _ (Ne.symm ne3)).trans D3'), (M3.blk_iff KN (World.heap_far _ bmp.symm)).blk_iff KN (hb5.block _ (by simp [World.setCell]; exact lt_of_blk M3.blk)), P5, by dsimp only; omega, by dsimp only; omega, q2, q3⟩
          exact ⟨by rw [hq]; rfl, by rw [hq]; exact DampSt.of_one (.inl T3.out) Z5, B5⟩
        · have T3 := Lib.hid t3
          exfalso
          have t4 := T3.out
          omega
  · have hm0 : True := trivial
    have em : min (n + weigh s deed) 1048576 = (n + weigh s deed) := by omega
    have EM := Lib.hid em
    clear em
    refine wp_region_still_tail 12 (by kernel_rfl) (by kernel_rfl) ?_
    simp only [List.take_succ_cons, List.take_zero, List.drop_succ_cons, List.drop_zero]
    repeat (first | still_step | still_call ((weight_any d bm s deed (w3.drew) D3).mono fun _ _ h => ⟨h.1, h.2.symm⟩))
    refine wpStill_nil ?_
    go_wp2_with fail
    cases hh with
    | true =>
      go_region
      go_wp2_with fail
      obtain ⟨B3, D3', M3, P3⟩ := H3.out
      have PF := setCell_blk (setCell_blk P3 0 (.int .i64 ((n + weigh s deed)))) 2 (.bool true)
      have hq : Pen.deed s (n0, a0, h0) deed now = ((n + weigh s deed), a, true) := by
        rw [HQ.out]
        rw [EM.out]; rfl
      have HS0 : 0 < ((n + weigh s deed), a, true).1 ∨ ((n + weigh s deed), a, true).2.2 = true := .inr rfl
      refine (forget_stays d bm bp s ((n + weigh s deed), a, true) k _ ?_ ?_ HS0).mono ?_
      · exact ((World.heap_far _ (Ne.symm ne3)).trans D3')
      · exact PF
      rintro e w5 ⟨rfl, hb5⟩
      have P5 := (hb5.block bp (lt_of_blk PF)).trans PF
      have c5' : w5.cell? ⟨bp, 2, none⟩ = some (.bool true) := cell_of P5 rfl
      have X5 := Lib.hid (And.intro hb5 (And.intro P5 HS0))
      clear hb5 P5 HS0
      go_wp2_with fail
      go_ret2
      obtain ⟨hb5, P5, HS0⟩ := X5.out
      have B5 : But w w5 [bm, bp] := (((B3.setCell (a := ⟨bp, 0, none⟩) (.inr (by simp)) _).setCell (a := ⟨bp, 2, none⟩) (.inr (by simp)) _).drew.drew.trans (But.of_below hb5 [bm, bp]))
      have Z5 : Damp1 w5 d bm bp clock born s k ((n + weigh s deed), a, true) := ⟨(hb5.block _ (by simp [World.setCell]; exact lt_of_blk D3')).trans ((World.heap_far _ (Ne.symm ne3)).trans D3'), (M3.blk_iff KN (World.heap_far _ bmp.symm)).blk_iff KN (hb5.block _ (by simp [World.setCell]; exact lt_of_blk M3.blk)), P5, by dsimp only; omega, by dsimp only; omega, q2, q3⟩
      exact ⟨by rw [hq]; rfl, by rw [hq]; exact DampSt.of_one (.inr rfl) Z5, B5⟩
    | false =>
      by_cases t2 : s.hi < (n + weigh s deed)
      · have T2 := Lib.hid t2
        go_region
        go_wp2_with fail
        obtain ⟨B3, D3', M3, P3⟩ := H3.out
        have PF := setCell_blk (setCell_blk P3 0 (.int .i64 ((n + weigh s deed)))) 2 (.bool true)
        have hq : Pen.deed s (n0, a0, h0) deed now = ((n + weigh s deed), a, true) := by
          rw [HQ.out]
          rw [EM.out, decide_eq_true (by have := T2.out; omega)]; rfl
        have HS0 : 0 < ((n + weigh s deed), a, true).1 ∨ ((n + weigh s deed), a, true).2.2 = true := .inr rfl
        refine (forget_stays d bm bp s ((n + weigh s deed), a, true) k _ ?_ ?_ HS0).mono ?_
        · exact ((World.heap_far _ (Ne.symm ne3)).trans D3')
        · exact PF
        rintro e w5 ⟨rfl, hb5⟩
        have P5 := (hb5.block bp (lt_of_blk PF)).trans PF
        have c5' : w5.cell? ⟨bp, 2, none⟩ = some (.bool true) := cell_of P5 rfl
        have X5 := Lib.hid (And.intro hb5 (And.intro P5 HS0))
        clear hb5 P5 HS0
        go_wp2_with fail
        go_ret2
        obtain ⟨hb5, P5, HS0⟩ := X5.out
        have B5 : But w w5 [bm, bp] := (((B3.setCell (a := ⟨bp, 0, none⟩) (.inr (by simp)) _).setCell (a := ⟨bp, 2, none⟩) (.inr (by simp)) _).drew.drew.trans (But.of_below hb5 [bm, bp]))
        have Z5 : Damp1 w5 d bm bp clock born s k ((n + weigh s deed), a, true) := ⟨(hb5.block _ (by simp [World.setCell]; exact lt_of_blk D3')).trans ((World.heap_far _ (Ne.symm ne3)).trans D3'), (M3.blk_iff KN (World.heap_far _ bmp.symm)).blk_iff KN (hb5.block _ (by simp [World.setCell]; exact lt_of_blk M3.blk)), P5, by dsimp only; omega, by dsimp only; omega, q2, q3⟩
        exact ⟨by rw [hq]; rfl, by rw [hq]; exact DampSt.of_one (.inr rfl) Z5, B5⟩
      · have T2 := Lib.hid t2
        have t2' : decide (s.hi < (n + weigh s deed)) = false := by simpa using t2
        go_region
        go_wp2_with fail
        obtain ⟨B3, D3', M3, P3⟩ := H3.out
        have PF := setCell_blk (setCell_blk P3 0 (.int .i64 ((n + weigh s deed)))) 2 (.bool false)
        have hq : Pen.deed s (n0, a0, h0) deed now = ((n + weigh s deed), a, false) := by
          rw [HQ.out]
          rw [EM.out, decide_eq_false (by have := T2.out; omega)]; rfl
        by_cases t3 : 0 < (n + weigh s deed)
        · have T3 := Lib.hid t3
          have HS0 : 0 < ((n + weigh s deed), a, false).1 ∨ ((n + weigh s deed), a, false).2.2 = true := .inl T3.out
          refine (forget_stays d bm bp s ((n + weigh s deed), a, false) k _ ?_ ?_ HS0).mono ?_
          · exact ((World.heap_far _ (Ne.symm ne3)).trans D3')
          · exact PF
          rintro e w5 ⟨rfl, hb5⟩
          have P5 := (hb5.block bp (lt_of_blk PF)).trans PF
          have c5' : w5.cell? ⟨bp, 2, none⟩ = some (.bool false) := cell_of P5 rfl
          have X5 := Lib.hid (And.intro hb5 (And.intro P5 HS0))
          clear hb5 P5 HS0
          go_wp2_with fail
          go_ret2
          obtain ⟨hb5, P5, HS0⟩ := X5.out
          have B5 : But w w5 [bm, bp] := (((B3.setCell (a := ⟨bp, 0, none⟩) (.inr (by simp)) _).setCell (a := ⟨bp, 2, none⟩) (.inr (by simp)) _).drew.drew.trans (But.of_below hb5 [bm, bp]))
          have Z5 : Damp1 w5 d bm bp clock born s k ((n + weigh s deed), a, false) := ⟨(hb5.block _ (by simp [World.setCell]; exact lt_of_blk D3')).trans ((World.heap_far _ (Ne.symm ne3)).trans D3'), (M3.blk_iff KN (World.heap_far _ bmp.symm)).blk_iff KN (hb5.block _ (by simp [World.setCell]; exact lt_of_blk M3.blk)), P5, by dsimp only; omega, by dsimp only; omega, q2, q3⟩
          exact ⟨by rw [hq]; rfl, by rw [hq]; exact DampSt.of_one (.inl T3.out) Z5, B5⟩
        · have T3 := Lib.hid t3
          refine (forget_goes d bm bp clock s ((n + weigh s deed), a, false) k [(k, (Value.pointer (some ⟨bp, 0, none⟩)), born)] _ ?_ ?_ ?_ HK.out (by dsimp only; omega) rfl).mono ?_
          · exact ((World.heap_far _ (Ne.symm ne3)).trans D3')
          · exact PF
          · exact M3.blk_iff KN (World.heap_far _ bmp.symm)
          rintro e w5 ⟨rfl, hb5, hm5, ho5⟩
          have P5 := (ho5 bp (lt_of_blk PF) (Ne.symm bmp)).trans PF
          have c5' : w5.cell? ⟨bp, 2, none⟩ = some (.bool false) := cell_of P5 rfl
          have X5 := Lib.hid (And.intro hb5 (And.intro hm5 ho5))
          clear hb5 P5 hm5 ho5
          go_wp2_with fail
          go_ret2
          obtain ⟨hb5, hm5, ho5⟩ := X5.out
          have hdl : MR.del [(k, (Value.pointer (some ⟨bp, 0, none⟩)), born)] k = [] := by simp [MR.del]
          rw [hdl] at hm5
          have B5 : But w w5 [bm, bp] := (((B3.setCell (a := ⟨bp, 0, none⟩) (.inr (by simp)) _).setCell (a := ⟨bp, 2, none⟩) (.inr (by simp)) _).drew.drew.trans ⟨hb5.os, hb5.tape, hb5.output, hb5.size, fun j hj hn => ho5 j hj (fun e => hn (by simp [e]))⟩)
          have Z5 : DampE w5 d bm clock s := ⟨(ho5 d (by simp [World.setCell]; exact lt_of_blk D3') dnm).trans ((World.heap_far _ (Ne.symm ne3)).trans D3'), hm5⟩
          exact ⟨by rw [hq]; rfl, by rw [hq]; exact DampSt.of_E (by dsimp only; omega) rfl Z5, B5⟩
end Go.Proofs.Ytopdohmpaapiiaa
