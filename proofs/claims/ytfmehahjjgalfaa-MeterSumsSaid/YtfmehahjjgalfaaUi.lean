/- Meter: Over. -/
import Derived.Test.YtfmehahjjgalfaaUh
namespace Go.Proofs.Ytfmehahjjgalfaa.Me
open Go.RowKit
open Go.ChangeMaps (setBlock)

def sumC (L : List Ct) : Int := L.foldl (fun n x => addI n x.n) 0
theorem sumC_succ {L : List Ct} {i : Nat} (hi : i < L.length) : sumC (L.take (i + 1)) = addI (sumC (L.take i)) (L.getD i default).n := by
  unfold sumC
  rw [List.take_succ_eq_append_getElem hi, List.foldl_append]
  simp [List.getD_eq_getElem?_getD, hi]
theorem over_nil (w : World) : Calls Try.prog 57 #[.pointer none] w fun e w' => e = .returned (.bool false) ∧ Below w.heap.size w w' := by
  have HD := Lib.hid (demands_nil w)
  go_enter Try.func57, Try.ntmps57
  go_wp2_with fail
  refine HD.out.mono ?_
  rintro e W1 ⟨rfl, hw⟩
  subst hw
  go_wp2_with fail
  go_loopw [3, 9] (fun sv iv wr => sv = .int .i64 0 ∧ iv = .int .i64 0 ∧ Below W1.heap.size W1 wr) (fun _ _ _ => 0)
  case atStart => exact ⟨rfl, rfl, Below.refl _ _⟩
  case round =>
    obtain ⟨rfl, rfl, hb⟩ := hrel
    obtain ⟨w2, rfl⟩ : ∃ w2 : World, w2 = wr := ⟨_, rfl⟩
    have G := Lib.hid hb
    clear hb
    go_wp2_with fail
    go_ret
    exact ⟨rfl, G.out⟩
set_option maxRecDepth 100000 in
set_option maxHeartbeats 2000000 in
theorem over_any {w : World} {m : Nat} {X : Nat → Src} (H : MetAt w m X) : Calls Try.prog 57 #[.pointer (some ⟨m, 0, none⟩)] w fun e w' => ∃ L, Dem X L ∧ e = .returned (.bool (sumC L == 9007199254740991)) ∧ Below w.heap.size w w' := by
  have HD := Lib.hid (demands_any H)
  clear H
  go_enter Try.func57, Try.ntmps57
  go_wp2_with fail
  refine HD.out.mono ?_
  rintro e W1 ⟨v, L, rfl, hr⟩
  obtain ⟨oa, cc, rfl, hsl, -⟩ := hr.own.sl0
  have hmax : L.length ≤ maxLen := hsl.max
  have F := Lib.hid (And.intro hr.dem (And.intro hr.bel hsl))
  clear hr hsl
  obtain ⟨n, hn⟩ : ∃ n, L.length = n := ⟨_, rfl⟩
  have HN := Lib.hid hn
  rw [hn] at hmax ⊢
  clear hn
  go_wp2_with fail
  go_loopw [3, 9] (fun sv iv wr => ∃ i : Nat, i ≤ n ∧ iv = .int .i64 i ∧ sv = .int .i64 (sumC (L.take i)) ∧ Below W1.heap.size W1 wr) (fun _ iv _ => n - (intOf iv).toNat)
  case atStart => exact ⟨0, Nat.zero_le _, rfl, rfl, Below.refl _ _⟩
  case round =>
    obtain ⟨i, hi, rfl, rfl, hb⟩ := hrel
    obtain ⟨w2, rfl⟩ : ∃ w2 : World, w2 = wr := ⟨_, rfl⟩
    by_cases hlt : i < n
    · have hil : ((i : Int) < (n : Int)) = True := by simp; omega
      have hi0 : ((0 : Int) ≤ (i : Int)) = True := by simp
      have hw3 := wrapS hlt hmax
      have hsc := sumC_succ (L := L) (i := i) (by rw [HN.out]; exact hlt)
      obtain ⟨b, o, hbo, hrow⟩ := F.out.2.2.row (by rw [HN.out]; omega)
      subst hbo
      have hat := (hrow.below hb).get i (by rw [HN.out]; exact hlt)
      generalize L.getD i default = y at *
      have y0 := hat 0 (by decide)
      have y1 := hat 1 (by decide)
      have y2 := hat 2 (by decide)
      simp only [RCt, Nat.add_zero, List.getElem?_cons_zero, List.getElem?_cons_succ] at y0 y1 y2
      have hal := (Below.refl w2.heap.size w2).alloc (Nat.le_refl _) (.cells #[.int .u32 (y.p.1 : Int), .int .i64 y.p.2, .int .i64 y.n] 128)
      have hxs : CtS w2.heap.size y (w2.alloc (.cells #[.int .u32 (y.p.1 : Int), .int .i64 y.p.2, .int .i64 y.n] 128)) := hnew _ _
      obtain ⟨x0, x1, x2⟩ := hxs.cells
      have G := Lib.hid (And.intro (bcall hb (Nat.le_refl _) hal) hsc)
      have HA := Lib.hid (add_any (sumC (L.take i)) y.n)
      clear hal hxs hb hat hrow hsc
      generalize sumC (L.take i) = s at *
      generalize hav : addI s y.n = av at *
      go_wp2_with fail
      refine (HA.out _).mono ?_
      rintro e W5 ⟨rfl, hw5⟩
      subst hw5
      go_wp2_with fail
      exact ⟨⟨i + 1, hlt, by first | rw [hw3] | rw [Int.natCast_succ], by rw [G.out.2], G.out.1⟩, by first | (rw [hw3]; exact mSucc hlt) | (rw [← Int.natCast_succ]; exact mSucc hlt)⟩
    · obtain rfl : n = i := by omega
      have hil : ((n : Int) < (n : Int)) = False := by simp
      rw [List.take_of_length_le (by rw [HN.out]; exact Nat.le_refl _)]
      have G := Lib.hid (F.out.2.1.trans (hb.mono F.out.2.1.size))
      clear hb
      have HL := Lib.hid (show ∃ M, Dem X M ∧ sumC M = sumC L from ⟨L, F.out.1, rfl⟩)
      generalize sumC L = s at *
      go_wp2_with fail
      go_ret
      obtain ⟨M, h1, h2⟩ := HL.out
      exact ⟨M, h1, ret_bool (by rw [h2]), G.out⟩
end Go.Proofs.Ytfmehahjjgalfaa.Me
