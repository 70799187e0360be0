/- The reference's Size. -/
import Derived.Test.YtjjhnnnpikfjpaaNq
import Derived.Test.YtjjhnnnpikfjpaaNp
namespace Go.Proofs.Ytjjhnnnpikfjpaa
open Go.RowKit

set_option maxRecDepth 100000 in
set_option maxHeartbeats 400000 in
theorem rsize_tm (t : Tm) (w : World) (h : FdsOk w t.fs) : Calls Try.prog 17 #[t.v] w fun e w' => e = .returned (.int .i64 (szT t : Nat)) ∧ Below w.heap.size w w' := by
  have hal := (Below.refl w.heap.size w).alloc (Nat.le_refl _) (.cells #[.int .i64 t.id, .slice t.fs.a t.fs.n t.fs.c] 41)
  have hb1 : TmS w.heap.size #[.int .i64 t.id, .slice t.fs.a t.fs.n t.fs.c] (w.alloc (.cells #[.int .i64 t.id, .slice t.fs.a t.fs.n t.fs.c] 41)) := hnew _ _
  have ho := one_tm t _ (h.keep hal)
  have hof := @oddT_false t
  have hsz : szT t = if oddT t then 0 else szF t.fs.l := rfl
  unfold Tm.v at *
  generalize oddT t = R at *
  generalize szT t = Z at *
  obtain ⟨id, s⟩ := t
  obtain ⟨oa, n, c, l⟩ := s
  dsimp only at *
  have HA := Lib.hid (And.intro hal (And.intro hb1 (And.intro ho (And.intro h hof))))
  have hlen := h.sl.len.symm
  dsimp only at hlen
  clear hal hb1 ho h hof
  go_enter Try.func17, Try.ntmps17
  go_wp2_with fail
  refine (HA.out.2.2.1).mono ?_
  rintro e w1 ⟨rfl, hb⟩
  have HB := Lib.hid (And.intro (bcall HA.out.1 (Nat.le_refl _) hb) (HA.out.2.1.on hb))
  clear hb
  cases R with
  | true =>
    have HZ := Lib.hid hsz
    clear hsz
    go_wp2_with fail
    go_ret
    exact ⟨by rw [HZ.out]; rfl, HB.out.1⟩
  | false =>
    have HZ := Lib.hid hsz
    clear hsz
    go_wp2_with fail
    go_loopw [3, 4] (fun sv iv wr => ∃ i : Nat, i ≤ n ∧ iv = .int .i64 i ∧ sv = .int .i64 (szF (l.take i) : Nat) ∧ wr = w1) (fun _ iv _ => n - (intOf iv).toNat)
    case atStart => exact ⟨0, Nat.zero_le _, rfl, rfl, rfl⟩
    case round =>
      obtain ⟨i, hi, rfl, rfl, rfl⟩ := hrel
      obtain ⟨e0, e1⟩ := HB.out.2.cells
      by_cases hlt : i < n
      · obtain ⟨bb, oo, rfl, hbb, hat⟩ := (HA.out.2.2.2.1.keep HB.out.1).sl.at hlt
        have c0 := hat 0 (by decide)
        have c1 := hat 1 (by decide)
        simp only [RFd, Nat.add_zero, List.getElem?_cons_zero, List.getElem?_cons_succ] at c0 c1
        have hil : ((i : Int) < (n : Int)) = True := by simp; omega
        have ht : l.take (i + 1) = l.take i ++ [l.getD i default] := take_snoc l i (by omega)
        have hodd := HA.out.2.2.2.2 (by first | exact rfl | trivial)
        have hx := oddFd_false (hodd.2.2.2.2 _ (getD_mem (i := i) (by first | omega | (simp only; omega))))
        have hst := szF_take l hodd.2.2.2.2 i
        have h32 := hodd.2.2.2.1
        try dsimp only at hx hst h32
        generalize l.getD i default = x at *
        obtain ⟨x1, x2⟩ := x
        dsimp only at *
        obtain ⟨xn, rfl⟩ := Int.eq_ofNat_of_zero_le (a := x2) (by omega)
        have hs1 : szF (l.take (i + 1)) = szF (l.take i) + xn := by rw [ht, szF_snoc]; rfl
        generalize szF (l.take i) = k at *
        have hk : k ≤ 3000000 := by have : i * 65534 ≤ 32 * 65534 := Nat.mul_le_mul_right _ (by omega); omega
        have hw1 : IntKind.i64.wrap ((k : Int) + (xn : Int)) = ((k + xn : Nat) : Int) := by rw [IntWalk.i64_in _ (by omega)]; omega
        have hw3 := wrapS hlt HA.out.2.2.2.1.sl.max
        have HC := Lib.hid (And.intro hs1 hs1)
        clear ht hodd hx hst h32 hs1 hk hat c0
        go_wp2_with fail
        exact ⟨⟨i + 1, hlt, by first | rw [hw3] | rw [Int.natCast_succ], by rw [HC.out.2] <;> first | rfl | (rw [hw1]), trivial⟩, by first | (rw [hw3]; exact mSucc hlt) | (rw [← Int.natCast_succ]; exact mSucc hlt)⟩
      · obtain rfl : n = i := by omega
        have hil : ((n : Int) < (n : Int)) = False := by simp
        have he : l.take n = l := List.take_of_length_le (by omega)
        rw [he]
        clear he
        go_wp2_with fail
        go_ret
        exact ⟨by rw [HZ.out]; rfl, HB.out.1⟩
end Go.Proofs.Ytjjhnnnpikfjpaa
