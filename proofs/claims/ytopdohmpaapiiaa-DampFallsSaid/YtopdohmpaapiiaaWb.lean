/- The walk of settle. -/
import Derived.Test.YtopdohmpaapiiaaWa
namespace Go.Proofs.Ytopdohmpaapiiaa
open Go.RowKit
/-- what is left of n, counted from at, at now, by rounds of e -/
def stl (e now : Int) : Nat → Int → Int → Int × Int
  | 0, n, at0 => (n, at0)
  | f + 1, n, at0 => if 0 < n ∧ e ≤ now - at0 then stl e now f (n - max (n / 8) 1) (at0 + e) else (n, at0)
theorem stl_more (e now : Int) : ∀ (f : Nat) (n a : Int), n.toNat ≤ f → stl e now f n a = stl e now n.toNat n a
  | 0, n, a, h => by have : n.toNat = 0 := by omega
                     rw [this]
  | f + 1, n, a, h => by
    by_cases h0 : 0 < n
    · obtain ⟨m, hm⟩ : ∃ m, n.toNat = m + 1 := ⟨n.toNat - 1, by omega⟩
      rw [hm]
      unfold stl
      split
      · rw [stl_more e now f _ _ (by omega), stl_more e now m _ _ (by omega)]
      · rfl
    · have : n.toNat = 0 := by omega
      rw [this]
      unfold stl
      rw [if_neg (by omega)]
theorem stl_step (e now n a : Int) (h0 : 0 < n) (h1 : e ≤ now - a) : stl e now (n - max (n / 8) 1).toNat (n - max (n / 8) 1) (a + e) = stl e now n.toNat n a := by
  obtain ⟨m, hm⟩ : ∃ m, n.toNat = m + 1 := ⟨n.toNat - 1, by omega⟩
  rw [hm, ← stl_more e now m _ _ (by omega)]
  conv => rhs; unfold stl
  rw [if_pos ⟨h0, h1⟩]
theorem stl_end (e now n a : Int) (h : ¬ (0 < n ∧ e ≤ now - a)) : stl e now n.toNat n a = (n, a) := by
  cases n.toNat <;> simp [stl, h]

/-- settle, on numbers -/
def settled (lo e now n a : Int) (held : Bool) : Int × Int × Bool :=
  let r := stl e now n.toNat n a
  (r.1, if r.1 = 0 then max r.2 now else r.2, held && decide (r.1 ≠ 0) && decide (lo ≤ r.1))

def penObj (p : Int × Int × Bool) : Obj := .cells #[.int .i64 p.1, .int .i64 p.2.1, .bool p.2.2] 52 (0, 0)

theorem settled_end {lo e now n0 a0 n a : Int} {held : Bool} (h : stl e now n.toNat n a = stl e now n0.toNat n0 a0) (hx : ¬ (0 < n ∧ e ≤ now - a)) :
    settled lo e now n0 a0 held = (n, if n = 0 then max a now else a, held && decide (n ≠ 0) && decide (lo ≤ n)) := by
  unfold settled; rw [← h, stl_end _ _ _ _ hx]
structure SettleEnd (w w' : World) (bp : Nat) (lo e now n0 a0 : Int) (held : Bool) : Prop where
  upd : SetB w w' bp (penObj (settled lo e now n0 a0 held))
  b0 : 0 ≤ (settled lo e now n0 a0 held).1
  b1 : (settled lo e now n0 a0 held).1 ≤ 1048576
  b2 : 0 ≤ (settled lo e now n0 a0 held).2.1
  b3 : (settled lo e now n0 a0 held).2.1 ≤ 1152921504606846976
theorem SettleEnd.mk' {w w' : World} {bp : Nat} {lo e now n0 a0 n a a' : Int} {held held' : Bool} (h : stl e now n.toNat n a = stl e now n0.toNat n0 a0) (hx : ¬ (0 < n ∧ e ≤ now - a))
    (q1 : 0 ≤ n) (q2 : n ≤ 1048576) (q3 : 0 ≤ a') (q4 : a' ≤ 1152921504606846976) (ea : a' = if n = 0 then max a now else a) (eh : held' = (held && decide (n ≠ 0) && decide (lo ≤ n)))
    (hu : SetB w w' bp (penObj (n, a', held'))) : SettleEnd w w' bp lo e now n0 a0 held := by
  have := settled_end (lo := lo) (held := held) h hx
  rw [← ea, ← eh] at this
  exact ⟨by rw [this]; exact hu, by rw [this]; exact q1, by rw [this]; exact q2, by rw [this]; exact q3, by rw [this]; exact q4⟩

set_option maxHeartbeats 1000000 in
theorem settle_any (d bp : Nat) (g o hi lo e now n0 a0 : Int) (mv : Value) (held : Bool) (w : World)
    (hd : w.heap[d]? = some (.cells #[.int .i64 g, .int .i64 o, .int .i64 hi, .int .i64 lo, .int .i64 e, mv] 48 (0, 0)))
    (hp : w.heap[bp]? = some (penObj (n0, a0, held))) (hne : d ≠ bp)
    (he0 : 1 ≤ e) (he1 : e ≤ 1048576) (hn0 : 0 ≤ n0) (hn1 : n0 ≤ 1048576) (ha0 : 0 ≤ a0) (ha1 : a0 ≤ 1152921504606846976) (hw0 : 0 ≤ now) (hw1 : now ≤ 1152921504606846976) :
    Calls Try.prog 19 #[.pointer (some ⟨d, 0, none⟩), .pointer (some ⟨bp, 0, none⟩), .int .i64 now] w fun e' w' => e' = .returned (.tuple #[]) ∧ SettleEnd w w' bp lo e now n0 a0 held := by
  have hbp := lt_of_blk hp
  go_enter Try.func19, Try.ntmps19
  go_wp2_with fail
  go_loopg [] n0.toNat (fun k wr => ∃ n a : Int, 0 ≤ n ∧ n ≤ 1048576 ∧ 0 ≤ a ∧ a ≤ 1152921504606846976 ∧ k = n.toNat ∧ stl e now n.toNat n a = stl e now n0.toNat n0 a0 ∧ SetB w wr bp (penObj (n, a, held)))
  case atStart => exact ⟨n0, a0, hn0, hn1, ha0, ha1, rfl, rfl, SetB.self hp⟩
  case round =>
    obtain ⟨n, a, q1, q2, q3, q4, q5, q6, q7⟩ := hrel
    have Q5 := Lib.hid q5
    have Q6 := Lib.hid q6
    clear q5 q6
    have b0 := q7.at hbp
    have d0 := (q7.other hne).trans hd
    have c0 : wr.cell? ⟨bp, 0, none⟩ = some (.int .i64 n) := cell_of b0 rfl
    have c1 : wr.cell? ⟨bp, 1, none⟩ = some (.int .i64 a) := cell_of b0 rfl
    have c2 : wr.cell? ⟨bp, 2, none⟩ = some (.bool held) := cell_of b0 rfl
    have d3 : wr.cell? ⟨d, 3, none⟩ = some (.int .i64 lo) := cell_of d0 rfl
    have d4 : wr.cell? ⟨d, 4, none⟩ = some (.int .i64 e) := cell_of d0 rfl
    have f0 : wr.frozen? ⟨bp, 0, none⟩ = false := free_of b0
    have f1 : wr.frozen? ⟨bp, 1, none⟩ = false := free_of b0
    have f2 : wr.frozen? ⟨bp, 2, none⟩ = false := free_of b0
    have s1 : IntKind.i64.wrap (now - a) = now - a := IntWalk.i64_in _ (by omega)
    clear b0 d0 hd hp
    by_cases t1 : 0 < n
    · by_cases t2 : e ≤ now - a
      · by_cases t3 : n / 8 < 1
        all_goals
          go_wp2_with fail
          go_quiet (fail)
          go_wp2_with fail
          go_region
          go_wp2_with fail
          go_region
          go_wp2_with fail
          have Q7 := Lib.hid q7
          clear q7 c0 c1 c2 d3 d4 f0 f1 f2
          go_roundg (n - max (n / 8) 1).toNat
          case measure => rw [Q5.out]; omega
          case rel => 
            refine ⟨n - max (n / 8) 1, a + e, by omega, by omega, by omega, by omega, rfl, (stl_step e now n a t1 t2).trans Q6.out, ?_⟩
            first
              | rw [show max (n / 8) 1 = 1 by omega]; exact ((Q7.out.drewN).store hbp _).drewN.store hbp _
              | rw [show max (n / 8) 1 = n / 8 by omega]; exact ((Q7.out.drewN).store hbp _).drewN.store hbp _
      · have t1' : (n == 0) = false := by simp; omega
        have HX := Lib.hid (show ¬ (0 < n ∧ e ≤ now - a) from fun h => t2 h.2)
        have t2' : decide (e ≤ now - a) = false := by simpa using t2
        by_cases t3 : n < lo
        · have HL := Lib.hid t3
          go_wp2_with fail
          go_quiet (fail)
          go_wp2_with fail
          go_quiet (fail)
          go_wp2_with fail
          have Q7 := Lib.hid q7
          clear q7 c0 c1 c2 d3 d4 f0 f1 f2
          go_end0
          refine ⟨rfl, SettleEnd.mk' (n := n) (a := a) (held' := false) Q6.out HX.out q1 q2 q3 q4 (by rw [if_neg (by omega)]) ?_ (by first | exact (Q7.out.drewN).store hbp _ | exact (Q7.out.drewN.drewN).store hbp _)⟩
          have := HL.out; simp; omega
        · have HL := Lib.hid t3
          have t3' : decide (n < lo) = false := by simpa using t3
          go_wp2_with fail
          go_quiet (fail)
          go_wp2_with fail
          go_quiet (fail)
          go_wp2_with fail
          have Q7 := Lib.hid q7
          clear q7 c0 c1 c2 d3 d4 f0 f1 f2
          go_end0
          refine ⟨rfl, SettleEnd.mk' (n := n) (a := a) (held' := held) Q6.out HX.out q1 q2 q3 q4 (by rw [if_neg (by omega)]) ?_ (by first | exact Q7.out.drewN | exact Q7.out.drewN.drewN)⟩
          have h2 : lo ≤ n := by have := HL.out; omega
          have h3 : n ≠ 0 := by omega
          simp [h2, h3]
    · obtain rfl : n = 0 := by omega
      have HX := Lib.hid (show ¬ ((0 : Int) < 0 ∧ e ≤ now - a) from fun h => by omega)
      by_cases t3 : a < now
      all_goals
        have HL := Lib.hid t3
        go_wp2_with fail
        go_quiet (fail)
        go_wp2_with fail
        go_quiet (fail)
        go_wp2_with fail
        have Q7 := Lib.hid q7
        clear q7 c0 c1 c2 d3 d4 f0 f1 f2
        go_end0
        have h2 := HL.out
        first
          | (have e1 : max a now = now := by omega
             exact ⟨rfl, SettleEnd.mk' (n := 0) (a := a) (a' := now) (held' := false) Q6.out HX.out q1 q2 hw0 hw1 (by rw [if_pos rfl, e1]) (by simp) (by first | exact (((Q7.out.drewN).store hbp _).drewN.store hbp _) | exact (((Q7.out.drewN).store hbp _).store hbp _))⟩)
          | (have e1 : max a now = a := by omega
             exact ⟨rfl, SettleEnd.mk' (n := 0) (a := a) (a' := a) (held' := false) Q6.out HX.out q1 q2 q3 q4 (by rw [if_pos rfl, e1]) (by simp) (by first | exact (((Q7.out.drewN).store hbp _).drewN.store hbp _) | exact (((Q7.out.drewN).store hbp _).store hbp _))⟩)
end Go.Proofs.Ytopdohmpaapiiaa
