/- Deed. -/
import Derived.Test.YtopdohmpaapiiaaWf
namespace Go.Proofs.Ytopdohmpaapiiaa
open Go.RowKit
open Go.ChangeMaps (setBlock)

theorem deed_nil (k : Key) (deed now : Int) (w : World) : Calls Try.prog 8 #[.pointer none, k.val, .int .i64 deed, .int .i64 now] w fun e w' => e = .returned (.tuple #[.bool false, .int .i64 6]) ∧ Below w.heap.size w w' := by
  unfold Key.val
  go_enter Try.func8, Try.ntmps8
  go_wp2_with (go_at_call 16; refine (made_nil _).mono ?_; rintro e w' ⟨rfl, rfl⟩)
  go_ret2
  exact ⟨rfl, (Below.refl _ _).alloc (Nat.le_refl _) _⟩

def Pen.deed (s : Sett) (p : Pen) (deed now : Int) : Pen :=
  let r := p.at s now
  let n := min (r.1 + weigh s deed) 1048576
  (n, r.2.1, r.2.2 || decide (s.hi < n))
def DampSt (w : World) (d bm bp clock born : Nat) (s : Sett) (k : Key) (q : Pen) : Prop :=
  if q.1 ≤ 0 ∧ q.2.2 = false then DampE w d bm clock s else Damp1 w d bm bp clock born s k q
theorem DampSt.of_one {w : World} {d bm bp clock born : Nat} {s : Sett} {k : Key} {q : Pen} (h : 0 < q.1 ∨ q.2.2 = true) (z : Damp1 w d bm bp clock born s k q) : DampSt w d bm bp clock born s k q := by
  unfold DampSt; rw [if_neg]; exact z
  rintro ⟨h1, h2⟩
  rcases h with h | h
  · omega
  · rw [h2] at h; cases h
theorem DampSt.of_E {w : World} {d bm bp clock born : Nat} {s : Sett} {k : Key} {q : Pen} (h0 : q.1 ≤ 0) (h1 : q.2.2 = false) (z : DampE w d bm clock s) : DampSt w d bm bp clock born s k q := by
  unfold DampSt; rw [if_pos ⟨h0, h1⟩]; exact z
theorem DampSt.E {w : World} {d bm bp clock born : Nat} {s : Sett} {k : Key} {q : Pen} (h : DampSt w d bm bp clock born s k q) (h0 : q.1 ≤ 0) (h1 : q.2.2 = false) : DampE w d bm clock s := by
  unfold DampSt at h; rw [if_pos ⟨h0, h1⟩] at h; exact h
theorem DampSt.one {w : World} {d bm bp clock born : Nat} {s : Sett} {k : Key} {q : Pen} (h : DampSt w d bm bp clock born s k q) (h0 : ¬ (q.1 ≤ 0 ∧ q.2.2 = false)) : Damp1 w d bm bp clock born s k q := by
  unfold DampSt at h; rw [if_neg h0] at h; exact h
theorem weigh_bd (s : Sett) (hs : s.ok) (deed : Int) : 0 ≤ weigh s deed ∧ weigh s deed ≤ 1048576 := by
  obtain ⟨h1, h2, h3, h4, _⟩ := hs
  unfold weigh
  split
  · exact ⟨h3, h4⟩
  · split
    · exact ⟨h1, h2⟩
    · omega
theorem World.heap_far {w : World} {b j : Nat} (v : Value) (h : b ≠ j) {v' : Value} : (((w.setCell ⟨b, 0, none⟩ v).setCell ⟨b, 2, none⟩ v').heap[j]? = w.heap[j]?) := by
  rw [Below.heap_setCell _ _ _ _ (Ne.symm h), Below.heap_setCell _ _ _ _ (Ne.symm h)]
theorem setCell_blk {w : World} {b : Nat} {cs : Array Value} {T : TypeId} {fr : Nat × Nat} (h : w.heap[b]? = some (.cells cs T fr)) (o : Nat) (v : Value) : (w.setCell ⟨b, o, none⟩ v).heap[b]? = some (.cells (cs.setIfInBounds o v) T fr) := by
  simp [World.setCell, Array.getElem?_modify, h]
theorem But.thenSet {w w1 w2 : World} {bs : List Nat} {b : Nat} {o : Obj} (h : But w w1 bs) (k : SetB w1 w2 b o) (hb : w.heap.size ≤ b ∨ b ∈ bs) : But w w2 bs :=
  ⟨k.os.trans h.os, k.tape.trans h.tape, k.output.trans h.output, by rw [k.size]; exact h.size, fun i hi hn => (k.other (by rintro rfl; rcases hb with hb | hb; omega; exact hn hb)).trans (h.block i hi hn)⟩
set_option maxHeartbeats 4000000 in
theorem deed_E (d bm clock : Nat) (s : Sett) (hs : s.ok) (k : Key) (hk : k.wf) (hkk : chk k.a k.l = true) (deed now : Int) (hd1 : 1 ≤ deed) (hd3 : deed ≤ 3) (hw0 : 0 ≤ now) (hw1 : now ≤ 9007199254740991) (w : World) (h : DampE w d bm clock s) :
    Calls Try.prog 8 #[.pointer (some ⟨d, 0, none⟩), k.val, .int .i64 deed, .int .i64 now] w fun e w' => ∃ bp born, e = .returned (.tuple #[.bool (Pen.deed s (0, now, false) deed now).2.2, .int .i64 0]) ∧ DampSt w' d bm bp (clock + 1) born s k (Pen.deed s (0, now, false) deed now) ∧ But w w' [bm] ∧ w.heap.size ≤ bp := by
  have ld := lt_of_blk h.blk
  have lm := lt_of_blk h.map.blk
  have hwb := weigh_bd s hs deed
  have c5 : w.cell? ⟨d, 5, none⟩ = some (.map (some bm)) := cell_of h.blk rfl
  have hlk := fun (o : Obj) (q : Nat) => MR.run_lookup KN (h.map.blk_iff KN (heap_ad lm o q)) hk Try.underlying46 zero49 false
  have hg : MR.get? [] k = none := by simp [MR.get?]
  rw [hg] at hlk
  simp only [KN, Key.val, Option.getD_none, Bool.false_eq_true, if_false] at hlk
  have HC := Lib.hid (fun w => check_any k.a k.l w)
  simp only [hkk, if_true] at HC
  have HH := Lib.hid h
  have HS := Lib.hid hs
  have HK := Lib.hid hk
  have n1 : decide (deed < 1) = false := by simp; omega
  have n2 : decide (3 < deed) = false := by simp; omega
  have n3 : (now != min (max now 0) 9007199254740991) = false := by simp; omega
  obtain ⟨s1, s2, s3, s4, s5, s6, s7, s8, s9, s10⟩ := hs
  have hx : True := trivial
  clear h hg hkk hk
  unfold Key.val
  go_enter Try.func8, Try.ntmps8
  go_wp2_with fail
  refine (made_yes d bm s _ (hold HH.out.blk)).mono ?_
  rintro e w' ⟨rfl, rfl⟩
  go_wp2_with fail
  go_quiet (fail)
  go_wp2_with fail
  refine (HC.out _).mono ?_
  rintro e w1 ⟨rfl, hb⟩
  have B1 : But w w1 [] := ((((But.refl w []).alloc _).drewN _).trans (But.of_below hb []))
  have K1 := (hb.block w.heap.size (by simp)).trans (hnew _ _)
  have k0 : w1.cell? ⟨w.heap.size, 0, none⟩ = some (.int .i64 k.r) := cell_of K1 rfl
  have k1 : w1.cell? ⟨w.heap.size, 1, none⟩ = some (.int .u32 k.a) := cell_of K1 rfl
  have k2 : w1.cell? ⟨w.heap.size, 2, none⟩ = some (.int .i64 k.l) := cell_of K1 rfl
  have k3 : w1.cell? ⟨w.heap.size, 3, none⟩ = some (.int .i64 k.i) := cell_of K1 rfl
  have D1 := (B1.block d ld (by simp)).trans HH.out.blk
  have M1 := HH.out.map.blk_iff KN (B1.block bm lm (by simp))
  have d5 : w1.cell? ⟨d, 5, none⟩ = some (.map (some bm)) := cell_of D1 rfl
  have LS : Hid (w.heap.size < w1.heap.size) := show w.heap.size < w1.heap.size from lt_of_blk K1
  have hx2 : True := trivial
  clear hlk c5 hb
  have hlen := fun ty => MR.run_len KN M1 Try.underlying46 ty
  have hup := fun (o : Obj) => (MR.run_update KN (M1.blk_iff KN (heap_ad1 (lt_of_blk M1.blk) o)) HK.out Try.underlying46 (.pointer (some ⟨w1.heap.size, 0, none⟩))).1
  have HU := Lib.hid (fun (o : Obj) => (MR.run_update KN (M1.blk_iff KN (heap_ad1 (lt_of_blk M1.blk) o)) HK.out Try.underlying46 (.pointer (some ⟨w1.heap.size, 0, none⟩))).2)
  simp only [KN, Key.val, MR.put, MR.clock', List.map_nil, List.not_mem_nil, if_false, List.nil_append, MR.ents, List.map_cons] at hup
  have d5' : ∀ o, (w1.alloc o).cell? ⟨d, 5, none⟩ = some (.map (some bm)) := fun o => cell_of (hold D1) rfl
  have k0' : ∀ o, (w1.alloc o).cell? ⟨w.heap.size, 0, none⟩ = some (.int .i64 k.r) := fun o => cell_of (hold K1) rfl
  have k1' : ∀ o, (w1.alloc o).cell? ⟨w.heap.size, 1, none⟩ = some (.int .u32 k.a) := fun o => cell_of (hold K1) rfl
  have k2' : ∀ o, (w1.alloc o).cell? ⟨w.heap.size, 2, none⟩ = some (.int .i64 k.l) := fun o => cell_of (hold K1) rfl
  have k3' : ∀ o, (w1.alloc o).cell? ⟨w.heap.size, 3, none⟩ = some (.int .i64 k.i) := fun o => cell_of (hold K1) rfl
  have H1 := Lib.hid (And.intro B1 (And.intro K1 (And.intro D1 M1)))
  clear B1 K1 D1 M1
  go_wp2_with fail
  refine (near_any _ _).mono ?_
  rintro e w' ⟨rfl, rfl⟩
  go_wp2_with fail
  go_region
  go_wp2_with fail
  have U := HU.out (.cells #[.int .i64 0, .int .i64 now, .bool false] 52)
  obtain ⟨B1, K1, D1, M1⟩ := H1.out
  have PB : But w1 (setBlock (w1.alloc (.cells #[.int .i64 0, .int .i64 now, .bool false] 52)).drew bm (.map (MR.ents KN.enc (MR.put [] k (.pointer (some ⟨w1.heap.size, 0, none⟩)) clock)).toArray (MR.clock' [] k clock))) [bm] := (((But.refl w1 [bm]).alloc _).drew).setBlock (.inr (by simp)) _
  have lb1 := lt_of_blk M1.blk
  have dne : d ≠ bm := by
    rintro rfl
    have := M1.blk.symm.trans D1
    simp [Sett.obj] at this
  have kne : w.heap.size ≠ bm := by omega
  have P2 : (setBlock (w1.alloc (.cells #[.int .i64 0, .int .i64 now, .bool false] 52)).drew bm (.map (MR.ents KN.enc (MR.put [] k (.pointer (some ⟨w1.heap.size, 0, none⟩)) clock)).toArray (MR.clock' [] k clock))).heap[w1.heap.size]? = some (penObj (0, now, false)) := by
    simp only [Go.ChangeMaps.setBlock, Array.getElem?_setIfInBounds]
    rw [if_neg (by omega)]
    exact hnew w1 _
  have D2 := (PB.block d (lt_of_blk D1) (by simpa using dne)).trans D1
  have K2 := (PB.block w.heap.size (lt_of_blk K1) (by simpa using kne)).trans K1
  simp only [KN, Key.val, MR.put, MR.clock', List.map_nil, List.not_mem_nil, if_false, List.nil_append, MR.ents, List.map_cons] at PB P2 D2 K2
  have B2 := (B1.mono (cs := [bm]) (by simp)).trans PB
  have ne2 : d ≠ w1.heap.size := by have := lt_of_blk D1; omega
  refine (settle_any d w1.heap.size _ _ _ _ _ _ 0 now _ false _ D2 P2 ne2 s9 s10 (by omega) (by omega) hw0 (by omega) hw0 (by omega)).mono ?_
  rintro e w3 ⟨rfl, hS⟩
  have M2 : MR.MapAt KN w3 bm [(k, .pointer (some ⟨w1.heap.size, 0, none⟩), clock)] (clock + 1) := U.blk_iff KN (by
    rw [hS.upd.other (by omega)]
    rfl)
  have B3 : But w w3 [bm] := B2.thenSet hS.upd (.inl B1.size)
  have LS' := LS.out
  have D3 := (hS.upd.other ne2).trans D2
  have K3 := (hS.upd.other (by omega)).trans K2
  have P3 := hS.upd.at (lt_of_blk P2)
  have bmp : bm ≠ w1.heap.size := by omega
  have kmp : w.heap.size ≠ w1.heap.size := by omega
  have q0 := hS.b0
  have q1 := hS.b1
  have q2 := hS.b2
  have q3 := hS.b3
  clear LS'
  have B1s := B1.size
  have dnm := dne
  clear hS U PB B2 D2 K2 P2 M1 D1 K1 B1 lb1
  obtain ⟨n, a, hh, hq⟩ : ∃ n a hh, settled s.lo s.e now 0 now false = (n, a, hh) := ⟨_, _, _, rfl⟩
  rw [hq] at P3 q0 q1 q2 q3
  dsimp only at q0 q1 q2 q3
  have HQ : Hid (Pen.deed s (0, now, false) deed now = (min (n + weigh s deed) 1048576, a, hh || decide (s.hi < min (n + weigh s deed) 1048576))) := show Pen.deed s (0, now, false) deed now = _ by
    unfold Pen.deed Pen.at; dsimp only; rw [hq]
  clear hq
  have c0 : w3.cell? ⟨w1.heap.size, 0, none⟩ = some (.int .i64 n) := cell_of P3 rfl
  have c2 : w3.cell? ⟨w1.heap.size, 2, none⟩ = some (.bool hh) := cell_of P3 rfl
  have f0 : w3.frozen? ⟨w1.heap.size, 0, none⟩ = false := free_of P3
  have f2 : w3.frozen? ⟨w1.heap.size, 2, none⟩ = false := free_of P3
  have dh : w3.cell? ⟨d, 2, none⟩ = some (.int .i64 s.hi) := cell_of D3 rfl
  have k0'' : w3.cell? ⟨w.heap.size, 0, none⟩ = some (.int .i64 k.r) := cell_of K3 rfl
  have k1'' : w3.cell? ⟨w.heap.size, 1, none⟩ = some (.int .u32 k.a) := cell_of K3 rfl
  have k2'' : w3.cell? ⟨w.heap.size, 2, none⟩ = some (.int .i64 k.l) := cell_of K3 rfl
  have k3'' : w3.cell? ⟨w.heap.size, 3, none⟩ = some (.int .i64 k.i) := cell_of K3 rfl
  have hsum : IntKind.i64.wrap (n + weigh s deed) = n + weigh s deed := IntWalk.i64_in _ (by omega)
  have ne3 : d ≠ w1.heap.size := ne2
  have H3 := Lib.hid (And.intro B3 (And.intro D3 (And.intro M2 P3)))
  clear B3 M2 K3 P3
  go_wp2_with fail
  by_cases t1 : 1048576 < n + weigh s deed
  · have hm0 : True := trivial
    have em : min (n + weigh s deed) 1048576 = (1048576 : Int) := by omega
    have EM := Lib.hid em
    clear em
    refine wp_region_still_tail 12 (by kernel_rfl) (by kernel_rfl) ?_
    simp only [List.take_succ_cons, List.take_zero, List.drop_succ_cons, List.drop_zero]
    repeat (first | still_step | still_call ((weight_any d bm s deed (w3.drew) D3).mono fun _ _ h => ⟨h.1, h.2.symm⟩))
    refine wpStill_nil ?_
    go_wp2_with fail
    cases hh with
    | true =>
      go_region
      go_wp2_with fail
      obtain ⟨B3, D3', M3, P3⟩ := H3.out
      have PF := setCell_blk (setCell_blk P3 0 (.int .i64 ((1048576 : Int)))) 2 (.bool true)
      have hq : Pen.deed s (0, now, false) deed now = ((1048576 : Int), a, true) := by
        rw [HQ.out]
        rw [EM.out]; rfl
      have HS0 : 0 < ((1048576 : Int), a, true).1 ∨ ((1048576 : Int), a, true).2.2 = true := .inr rfl
      refine (forget_stays d bm w1.heap.size s ((1048576 : Int), a, true) k _ ?_ ?_ HS0).mono ?_
      · exact ((World.heap_far _ (Ne.symm ne3)).trans D3')
      · exact PF
      rintro e w5 ⟨rfl, hb5⟩
      have P5 := (hb5.block w1.heap.size (lt_of_blk PF)).trans PF
      have c5' : w5.cell? ⟨w1.heap.size, 2, none⟩ = some (.bool true) := cell_of P5 rfl
      have X5 := Lib.hid (And.intro hb5 (And.intro P5 HS0))
      clear hb5 P5 HS0
      go_wp2_with fail
      go_ret2
      obtain ⟨hb5, P5, HS0⟩ := X5.out
      have B5 : But w w5 [bm] := (((B3.setCell (a := ⟨w1.heap.size, 0, none⟩) (.inl (by have := B1s; omega)) _).setCell (a := ⟨w1.heap.size, 2, none⟩) (.inl (by have := B1s; omega)) _).drew.drew.trans (But.of_below hb5 [bm]))
      have Z5 : Damp1 w5 d bm w1.heap.size (clock + 1) clock s k ((1048576 : Int), a, true) := ⟨(hb5.block _ (by simp [World.setCell]; exact lt_of_blk D3')).trans ((World.heap_far _ (Ne.symm ne3)).trans D3'), (M3.blk_iff KN (World.heap_far _ bmp.symm)).blk_iff KN (hb5.block _ (by simp [World.setCell]; exact lt_of_blk M3.blk)), P5, by dsimp only; omega, by dsimp only; omega, q2, q3⟩
      exact ⟨w1.heap.size, clock, by rw [hq]; rfl, by rw [hq]; exact DampSt.of_one (.inr rfl) Z5, B5, B1s⟩
    | false =>
      by_cases t2 : s.hi < (1048576 : Int)
      · have T2 := Lib.hid t2
        go_region
        go_wp2_with fail
        obtain ⟨B3, D3', M3, P3⟩ := H3.out
        have PF := setCell_blk (setCell_blk P3 0 (.int .i64 ((1048576 : Int)))) 2 (.bool true)
        have hq : Pen.deed s (0, now, false) deed now = ((1048576 : Int), a, true) := by
          rw [HQ.out]
          rw [EM.out, decide_eq_true (by have := T2.out; omega)]; rfl
        have HS0 : 0 < ((1048576 : Int), a, true).1 ∨ ((1048576 : Int), a, true).2.2 = true := .inr rfl
        refine (forget_stays d bm w1.heap.size s ((1048576 : Int), a, true) k _ ?_ ?_ HS0).mono ?_
        · exact ((World.heap_far _ (Ne.symm ne3)).trans D3')
        · exact PF
        rintro e w5 ⟨rfl, hb5⟩
        have P5 := (hb5.block w1.heap.size (lt_of_blk PF)).trans PF
        have c5' : w5.cell? ⟨w1.heap.size, 2, none⟩ = some (.bool true) := cell_of P5 rfl
        have X5 := Lib.hid (And.intro hb5 (And.intro P5 HS0))
        clear hb5 P5 HS0
        go_wp2_with fail
        go_ret2
        obtain ⟨hb5, P5, HS0⟩ := X5.out
        have B5 : But w w5 [bm] := (((B3.setCell (a := ⟨w1.heap.size, 0, none⟩) (.inl (by have := B1s; omega)) _).setCell (a := ⟨w1.heap.size, 2, none⟩) (.inl (by have := B1s; omega)) _).drew.drew.trans (But.of_below hb5 [bm]))
        have Z5 : Damp1 w5 d bm w1.heap.size (clock + 1) clock s k ((1048576 : Int), a, true) := ⟨(hb5.block _ (by simp [World.setCell]; exact lt_of_blk D3')).trans ((World.heap_far _ (Ne.symm ne3)).trans D3'), (M3.blk_iff KN (World.heap_far _ bmp.symm)).blk_iff KN (hb5.block _ (by simp [World.setCell]; exact lt_of_blk M3.blk)), P5, by dsimp only; omega, by dsimp only; omega, q2, q3⟩
        exact ⟨w1.heap.size, clock, by rw [hq]; rfl, by rw [hq]; exact DampSt.of_one (.inr rfl) Z5, B5, B1s⟩
      · have T2 := Lib.hid t2
        have t2' : decide (s.hi < (1048576 : Int)) = false := by simpa using t2
        go_region
        go_wp2_with fail
        obtain ⟨B3, D3', M3, P3⟩ := H3.out
        have PF := setCell_blk (setCell_blk P3 0 (.int .i64 ((1048576 : Int)))) 2 (.bool false)
        have hq : Pen.deed s (0, now, false) deed now = ((1048576 : Int), a, false) := by
          rw [HQ.out]
          rw [EM.out, decide_eq_false (by have := T2.out; omega)]; rfl
        by_cases t3 : 0 < (1048576 : Int)
        · have T3 := Lib.hid t3
          have HS0 : 0 < ((1048576 : Int), a, false).1 ∨ ((1048576 : Int), a, false).2.2 = true := .inl T3.out
          refine (forget_stays d bm w1.heap.size s ((1048576 : Int), a, false) k _ ?_ ?_ HS0).mono ?_
          · exact ((World.heap_far _ (Ne.symm ne3)).trans D3')
          · exact PF
          rintro e w5 ⟨rfl, hb5⟩
          have P5 := (hb5.block w1.heap.size (lt_of_blk PF)).trans PF
          have c5' : w5.cell? ⟨w1.heap.size, 2, none⟩ = some (.bool false) := cell_of P5 rfl
          have X5 := Lib.hid (And.intro hb5 (And.intro P5 HS0))
          clear hb5 P5 HS0
          go_wp2_with fail
          go_ret2
          obtain ⟨hb5, P5, HS0⟩ := X5.out
          have B5 : But w w5 [bm] := (((B3.setCell (a := ⟨w1.heap.size, 0, none⟩) (.inl (by have := B1s; omega)) _).setCell (a := ⟨w1.heap.size, 2, none⟩) (.inl (by have := B1s; omega)) _).drew.drew.trans (But.of_below hb5 [bm]))
          have Z5 : Damp1 w5 d bm w1.heap.size (clock + 1) clock s k ((1048576 : Int), a, false) := ⟨(hb5.block _ (by simp [World.setCell]; exact lt_of_blk D3')).trans ((World.heap_far _ (Ne.symm ne3)).trans D3'), (M3.blk_iff KN (World.heap_far _ bmp.symm)).blk_iff KN (hb5.block _ (by simp [World.setCell]; exact lt_of_blk M3.blk)), P5, by dsimp only; omega, by dsimp only; omega, q2, q3⟩
          exact ⟨w1.heap.size, clock, by rw [hq]; rfl, by rw [hq]; exact DampSt.of_one (.inl T3.out) Z5, B5, B1s⟩
        · have T3 := Lib.hid t3
          exfalso
          have t4 := T3.out
          omega
  · have hm0 : True := trivial
    have em : min (n + weigh s deed) 1048576 = (n + weigh s deed) := by omega
    have EM := Lib.hid em
    clear em
    refine wp_region_still_tail 12 (by kernel_rfl) (by kernel_rfl) ?_
    simp only [List.take_succ_cons, List.take_zero, List.drop_succ_cons, List.drop_zero]
    repeat (first | still_step | still_call ((weight_any d bm s deed (w3.drew) D3).mono fun _ _ h => ⟨h.1, h.2.symm⟩))
    refine wpStill_nil ?_
    go_wp2_with fail
    cases hh with
    | true =>
      go_region
      go_wp2_with fail
      obtain ⟨B3, D3', M3, P3⟩ := H3.out
      have PF := setCell_blk (setCell_blk P3 0 (.int .i64 ((n + weigh s deed)))) 2 (.bool true)
      have hq : Pen.deed s (0, now, false) deed now = ((n + weigh s deed), a, true) := by
        rw [HQ.out]
        rw [EM.out]; rfl
      have HS0 : 0 < ((n + weigh s deed), a, true).1 ∨ ((n + weigh s deed), a, true).2.2 = true := .inr rfl
      refine (forget_stays d bm w1.heap.size s ((n + weigh s deed), a, true) k _ ?_ ?_ HS0).mono ?_
      · exact ((World.heap_far _ (Ne.symm ne3)).trans D3')
      · exact PF
      rintro e w5 ⟨rfl, hb5⟩
      have P5 := (hb5.block w1.heap.size (lt_of_blk PF)).trans PF
      have c5' : w5.cell? ⟨w1.heap.size, 2, none⟩ = some (.bool true) := cell_of P5 rfl
      have X5 := Lib.hid (And.intro hb5 (And.intro P5 HS0))
      clear hb5 P5 HS0
      go_wp2_with fail
      go_ret2
      obtain ⟨hb5, P5, HS0⟩ := X5.out
      have B5 : But w w5 [bm] := (((B3.setCell (a := ⟨w1.heap.size, 0, none⟩) (.inl (by have := B1s; omega)) _).setCell (a := ⟨w1.heap.size, 2, none⟩) (.inl (by have := B1s; omega)) _).drew.drew.trans (But.of_below hb5 [bm]))
      have Z5 : Damp1 w5 d bm w1.heap.size (clock + 1) clock s k ((n + weigh s deed), a, true) := ⟨(hb5.block _ (by simp [World.setCell]; exact lt_of_blk D3')).trans ((World.heap_far _ (Ne.symm ne3)).trans D3'), (M3.blk_iff KN (World.heap_far _ bmp.symm)).blk_iff KN (hb5.block _ (by simp [World.setCell]; exact lt_of_blk M3.blk)), P5, by dsimp only; omega, by dsimp only; omega, q2, q3⟩
      exact ⟨w1.heap.size, clock, by rw [hq]; rfl, by rw [hq]; exact DampSt.of_one (.inr rfl) Z5, B5, B1s⟩
    | false =>
      by_cases t2 : s.hi < (n + weigh s deed)
      · have T2 := Lib.hid t2
        go_region
        go_wp2_with fail
        obtain ⟨B3, D3', M3, P3⟩ := H3.out
        have PF := setCell_blk (setCell_blk P3 0 (.int .i64 ((n + weigh s deed)))) 2 (.bool true)
        have hq : Pen.deed s (0, now, false) deed now = ((n + weigh s deed), a, true) := by
          rw [HQ.out]
          rw [EM.out, decide_eq_true (by have := T2.out; omega)]; rfl
        have HS0 : 0 < ((n + weigh s deed), a, true).1 ∨ ((n + weigh s deed), a, true).2.2 = true := .inr rfl
        refine (forget_stays d bm w1.heap.size s ((n + weigh s deed), a, true) k _ ?_ ?_ HS0).mono ?_
        · exact ((World.heap_far _ (Ne.symm ne3)).trans D3')
        · exact PF
        rintro e w5 ⟨rfl, hb5⟩
        have P5 := (hb5.block w1.heap.size (lt_of_blk PF)).trans PF
        have c5' : w5.cell? ⟨w1.heap.size, 2, none⟩ = some (.bool true) := cell_of P5 rfl
        have X5 := Lib.hid (And.intro hb5 (And.intro P5 HS0))
        clear hb5 P5 HS0
        go_wp2_with fail
        go_ret2
        obtain ⟨hb5, P5, HS0⟩ := X5.out
        have B5 : But w w5 [bm] := (((B3.setCell (a := ⟨w1.heap.size, 0, none⟩) (.inl (by have := B1s; omega)) _).setCell (a := ⟨w1.heap.size, 2, none⟩) (.inl (by have := B1s; omega)) _).drew.drew.trans (But.of_below hb5 [bm]))
        have Z5 : Damp1 w5 d bm w1.heap.size (clock + 1) clock s k ((n + weigh s deed), a, true) := ⟨(hb5.block _ (by simp [World.setCell]; exact lt_of_blk D3')).trans ((World.heap_far _ (Ne.symm ne3)).trans D3'), (M3.blk_iff KN (World.heap_far _ bmp.symm)).blk_iff KN (hb5.block _ (by simp [World.setCell]; exact lt_of_blk M3.blk)), P5, by dsimp only; omega, by dsimp only; omega, q2, q3⟩
        exact ⟨w1.heap.size, clock, by rw [hq]; rfl, by rw [hq]; exact DampSt.of_one (.inr rfl) Z5, B5, B1s⟩
      · have T2 := Lib.hid t2
        have t2' : decide (s.hi < (n + weigh s deed)) = false := by simpa using t2
        go_region
        go_wp2_with fail
        obtain ⟨B3, D3', M3, P3⟩ := H3.out
        have PF := setCell_blk (setCell_blk P3 0 (.int .i64 ((n + weigh s deed)))) 2 (.bool false)
        have hq : Pen.deed s (0, now, false) deed now = ((n + weigh s deed), a, false) := by
          rw [HQ.out]
          rw [EM.out, decide_eq_false (by have := T2.out; omega)]; rfl
        by_cases t3 : 0 < (n + weigh s deed)
        · have T3 := Lib.hid t3
          have HS0 : 0 < ((n + weigh s deed), a, false).1 ∨ ((n + weigh s deed), a, false).2.2 = true := .inl T3.out
          refine (forget_stays d bm w1.heap.size s ((n + weigh s deed), a, false) k _ ?_ ?_ HS0).mono ?_
          · exact ((World.heap_far _ (Ne.symm ne3)).trans D3')
          · exact PF
          rintro e w5 ⟨rfl, hb5⟩
          have P5 := (hb5.block w1.heap.size (lt_of_blk PF)).trans PF
          have c5' : w5.cell? ⟨w1.heap.size, 2, none⟩ = some (.bool false) := cell_of P5 rfl
          have X5 := Lib.hid (And.intro hb5 (And.intro P5 HS0))
          clear hb5 P5 HS0
          go_wp2_with fail
          go_ret2
          obtain ⟨hb5, P5, HS0⟩ := X5.out
          have B5 : But w w5 [bm] := (((B3.setCell (a := ⟨w1.heap.size, 0, none⟩) (.inl (by have := B1s; omega)) _).setCell (a := ⟨w1.heap.size, 2, none⟩) (.inl (by have := B1s; omega)) _).drew.drew.trans (But.of_below hb5 [bm]))
          have Z5 : Damp1 w5 d bm w1.heap.size (clock + 1) clock s k ((n + weigh s deed), a, false) := ⟨(hb5.block _ (by simp [World.setCell]; exact lt_of_blk D3')).trans ((World.heap_far _ (Ne.symm ne3)).trans D3'), (M3.blk_iff KN (World.heap_far _ bmp.symm)).blk_iff KN (hb5.block _ (by simp [World.setCell]; exact lt_of_blk M3.blk)), P5, by dsimp only; omega, by dsimp only; omega, q2, q3⟩
          exact ⟨w1.heap.size, clock, by rw [hq]; rfl, by rw [hq]; exact DampSt.of_one (.inl T3.out) Z5, B5, B1s⟩
        · have T3 := Lib.hid t3
          refine (forget_goes d bm w1.heap.size (clock + 1) s ((n + weigh s deed), a, false) k [(k, (Value.pointer (some ⟨w1.heap.size, 0, none⟩)), clock)] _ ?_ ?_ ?_ HK.out (by dsimp only; omega) rfl).mono ?_
          · exact ((World.heap_far _ (Ne.symm ne3)).trans D3')
          · exact PF
          · exact M3.blk_iff KN (World.heap_far _ bmp.symm)
          rintro e w5 ⟨rfl, hb5, hm5, ho5⟩
          have P5 := (ho5 w1.heap.size (lt_of_blk PF) (Ne.symm bmp)).trans PF
          have c5' : w5.cell? ⟨w1.heap.size, 2, none⟩ = some (.bool false) := cell_of P5 rfl
          have X5 := Lib.hid (And.intro hb5 (And.intro hm5 ho5))
          clear hb5 P5 hm5 ho5
          go_wp2_with fail
          go_ret2
          obtain ⟨hb5, hm5, ho5⟩ := X5.out
          have hdl : MR.del [(k, (Value.pointer (some ⟨w1.heap.size, 0, none⟩)), clock)] k = [] := by simp [MR.del]
          rw [hdl] at hm5
          have B5 : But w w5 [bm] := (((B3.setCell (a := ⟨w1.heap.size, 0, none⟩) (.inl (by have := B1s; omega)) _).setCell (a := ⟨w1.heap.size, 2, none⟩) (.inl (by have := B1s; omega)) _).drew.drew.trans ⟨hb5.os, hb5.tape, hb5.output, hb5.size, fun j hj hn => ho5 j hj (fun e => hn (by simp [e]))⟩)
          have Z5 : DampE w5 d bm (clock + 1) s := ⟨(ho5 d (by simp [World.setCell]; exact lt_of_blk D3') dnm).trans ((World.heap_far _ (Ne.symm ne3)).trans D3'), hm5⟩
          exact ⟨w1.heap.size, clock, by rw [hq]; rfl, by rw [hq]; exact DampSt.of_E (by dsimp only; omega) rfl Z5, B5, B1s⟩
end Go.Proofs.Ytopdohmpaapiiaa
