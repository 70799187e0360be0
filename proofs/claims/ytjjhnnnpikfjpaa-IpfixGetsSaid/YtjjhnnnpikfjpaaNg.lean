/- The reference's Check, Large. -/
import Derived.Test.YtjjhnnnpikfjpaaNf
namespace Go.Proofs.Ytjjhnnnpikfjpaa
open Go.RowKit

theorem oddI_false {id : Int} {n : Nat} (h : oddI id n = false) : (id = 2 ∨ (256 ≤ id ∧ id ≤ 65535)) ∧ 1 ≤ n ∧ n ≤ 65000 := by
  simp [oddI] at h
  omega
theorem drop_get {α : Type} [Inhabited α] (l : List α) (i : Nat) (h : i < l.length) : l.drop i = l.getD i default :: l.drop (i + 1) := by rw [List.drop_eq_getElem_cons h]; simp [List.getD_eq_getElem?_getD, h]
theorem szBad {k : Nat} {x : Int × SlV Nat} {r : List (Int × SlV Nat)} (h : (x.1 ≠ 2 ∧ x.1 < 256) ∨ 65535 < x.1 ∨ x.2.n < 1 ∨ 65000 < x.2.n ∨ 65535 < k) : sz k (x :: r) = 65536 := by
  rw [sz_cons, if_pos]
  by_cases ho : oddI x.1 x.2.n = true
  · exact .inl ho
  · have := oddI_false (by simpa using ho)
    omega
theorem szOk {k : Nat} {x : Int × SlV Nat} {r : List (Int × SlV Nat)} (h : ¬ ((x.1 ≠ 2 ∧ x.1 < 256) ∨ 65535 < x.1 ∨ x.2.n < 1 ∨ 65000 < x.2.n ∨ 65535 < k)) : sz k (x :: r) = sz (k + 4 + x.2.n) r := by
  rw [sz_cons, if_neg]
  simp [oddI]
  omega
set_option maxRecDepth 100000 in
set_option maxHeartbeats 1000000 in
theorem rcheck_any (p : Pk) (w : World) (hs : StsOk w p.ss) (hn : ∀ x ∈ p.ss.l, x.2.n ≤ 1000000000) : Calls Try.prog 9 #[p.v] w fun e w' => e = .returned (.bool (okP p)) ∧ Below w.heap.size w w' := by
  unfold Pk.v
  have hal := (Below.refl w.heap.size w).alloc (Nat.le_refl _) (.cells #[.int .i64 p.tm, .int .i64 p.sq, .int .i64 p.dm, .slice p.ss.a p.ss.n p.ss.c] 24)
  have HA := Lib.hid (And.intro hal (And.intro hs hn))
  have hlen := hs.sl.len.symm
  clear hal hs hn
  have hok : okP p = (m32 p.tm && m32 p.sq && m32 p.dm && decide (sz 16 p.ss.l ≤ 65535)) := rfl
  obtain ⟨tm, sq, dm, s⟩ := p
  obtain ⟨oa, n, c, l⟩ := s
  dsimp only at *
  generalize okP _ = R at *
  have HR := Lib.hid hok
  clear hok
  have h24 := hnew w (.cells #[.int .i64 tm, .int .i64 sq, .int .i64 dm, .slice oa n c] 24)
  go_enter Try.func9, Try.ntmps9
  go_wp2_with fail
  refine (fits4 _ _).mono ?_
  rintro e w3 ⟨rfl, hw⟩
  generalize w.alloc (.cells #[.int .i64 tm, .int .i64 sq, .int .i64 dm, .slice oa n c] 24) = W at *
  subst w3
  have H24 := Lib.hid h24
  have e0 := cell_of (o := 0) h24 rfl
  have e1 := cell_of (o := 1) h24 rfl
  have e2 := cell_of (o := 2) h24 rfl
  have e3 := cell_of (o := 3) h24 rfl
  clear h24
  cases hc0 : (decide (0 ≤ tm) && decide (tm < 4294967296)) with
  | false =>
    have hm : m32 tm = false := by simp [m32] at hc0 ⊢; omega
    go_wp2_with fail
    go_ret
    exact ⟨by rw [HR.out, hm]; rfl, HA.out.1⟩
  | true =>
    have hm0 : m32 tm = true := by simp [m32] at hc0 ⊢; omega
    have HM := Lib.hid hm0
    clear hm0
    go_wp2_with fail
    refine (fits4 _ _).mono ?_
    rintro e w3 ⟨rfl, hw⟩
    subst w3
    cases hc1 : (decide (0 ≤ sq) && decide (sq < 4294967296)) with
    | false =>
      have hm : m32 sq = false := by simp [m32] at hc1 ⊢; omega
      go_wp2_with fail
      go_ret
      exact ⟨by rw [HR.out, hm]; simp, HA.out.1⟩
    | true =>
      have hm1 : m32 sq = true := by simp [m32] at hc1 ⊢; omega
      have HM1 := Lib.hid hm1
      clear hm1
      go_wp2_with fail
      refine (fits4 _ _).mono ?_
      rintro e w3 ⟨rfl, hw⟩
      subst w3
      cases hc2 : (decide (0 ≤ dm) && decide (dm < 4294967296)) with
      | false =>
        have hm : m32 dm = false := by simp [m32] at hc2 ⊢; omega
        go_wp2_with fail
        go_ret
        exact ⟨by rw [HR.out, hm]; simp, HA.out.1⟩
      | true =>
        have hm2 : m32 dm = true := by simp [m32] at hc2 ⊢; omega
        have HM2 := Lib.hid hm2
        clear hm2 hc0 hc1 hc2
        go_wp2_with fail
        clear e0 e1 e2 e3
        go_loopw [3, 4, 5] (fun sv iv _ wr => ∃ (i k : Nat), i ≤ n ∧ iv = .int .i64 i ∧ sv = .int .i64 (k : Nat) ∧ k ≤ 1000000000 ∧ sz 16 l = sz k (l.drop i) ∧ Below W.heap.size W wr) (fun _ iv _ _ => n - (intOf iv).toNat)
        case atStart => exact ⟨0, 16, Nat.zero_le _, rfl, rfl, by omega, by rw [List.drop_zero], Below.refl _ _⟩
        case round =>
          obtain ⟨i, k, hi, rfl, rfl, hk, hsz, hb⟩ := hrel
          obtain ⟨w2, rfl⟩ : ∃ w2 : World, w2 = wr := ⟨_, rfl⟩
          have hbw := HA.out.1.trans (hb.mono HA.out.1.size)
          have e3 := cell_of (o := 3) ((hb.block _ (lt_of_blk H24.out)).trans H24.out) rfl
          have hmax : n ≤ maxLen := HA.out.2.1.sl.max
          by_cases hlt : i < n
          · obtain ⟨bb, oo, rfl, hbb, hat⟩ := (HA.out.2.1.sl.keep hbw).at hlt
            have c0 := hat 0 (by decide)
            have c1 := hat 1 (by decide)
            simp only [RSt, Nat.add_zero, List.getElem?_cons_zero, List.getElem?_cons_succ] at c0 c1
            have hil : ((i : Int) < (n : Int)) = True := by simp; omega
            have hx : (l.getD i default).2.n ≤ 1000000000 := HA.out.2.2 _ (getD_mem (by omega))
            rw [drop_get l i (by omega)] at hsz
            generalize l.getD i default = x at *
            have HB := Lib.hid (And.intro hb (And.intro hsz hbw))
            clear hb hsz hat hbw
            have bad : ((x.1 ≠ 2 ∧ x.1 < 256) ∨ 65535 < x.1 ∨ x.2.n < 1 ∨ 65000 < x.2.n ∨ 65535 < k) → R = false := fun h => by rw [HR.out, HB.out.2.1, szBad h]; simp
            have HBad := Lib.hid bad
            clear bad
            by_cases h2 : x.1 = 2
            · have h2' : x = (2, x.2) := by rw [← h2]
              obtain ⟨x1, x2⟩ := x
              obtain rfl : x1 = 2 := h2
              dsimp only at *
              by_cases h4 : x2.n < 1
              · have g4 : ((x2.n : Int) < 1) = True := by simp; omega
                have hR := HBad.out (by first | omega | (dsimp only; omega))
                subst hR
                go_wp2_with fail
                go_ret
                exact ⟨rfl, HB.out.2.2.alloc HB.out.2.2.size _⟩
              · have g4 : ((x2.n : Int) < 1) = False := by simp; omega
                by_cases h5 : 65000 < x2.n
                · have g5 : ((65000 : Int) < (x2.n : Int)) = True := by simp; omega
                  have hR := HBad.out (by first | omega | (dsimp only; omega))
                  subst hR
                  go_wp2_with fail
                  go_ret
                  exact ⟨rfl, HB.out.2.2.alloc HB.out.2.2.size _⟩
                · have g5 : ((65000 : Int) < (x2.n : Int)) = False := by simp; omega
                  by_cases h6 : 65535 < k
                  · have g6 : ((65535 : Int) < (k : Int)) = True := by simp; omega
                    have hR := HBad.out (by first | omega | (dsimp only; omega))
                    subst hR
                    go_wp2_with fail
                    go_ret
                    exact ⟨rfl, HB.out.2.2.alloc HB.out.2.2.size _⟩
                  · have g6 : ((65535 : Int) < (k : Int)) = False := by simp; omega
                    have hsz := HB.out.2.1.trans (szOk (by first | omega | (dsimp only; omega)))
                    have hw1 : IntKind.i64.wrap ((k : Int) + 4) = k + 4 := IntWalk.i64_in _ (by omega)
                    have hw2 : IntKind.i64.wrap ((k : Int) + 4 + (x2.n : Int)) = ((k + 4 + x2.n : Nat) : Int) := by rw [IntWalk.i64_in _ (by omega)]; omega
                    have hw3 := wrapS hlt hmax
                    have HZ := Lib.hid hsz
                    clear hsz
                    go_wp2_with fail
                    exact ⟨⟨i + 1, k + 4 + x2.n, hlt, by rw [hw3], rfl, by omega, HZ.out, HB.out.1.alloc HB.out.1.size _⟩, by rw [hw3]; exact mSucc hlt⟩
            · have g2 : (x.1 = 2) = False := by simp [h2]
              by_cases h3 : x.1 < 256
              · have g3 : (x.1 < 256) = True := by simp [h3]
                have hR := HBad.out (by first | omega | (dsimp only; omega))
                subst hR
                go_wp2_with fail
                go_ret
                exact ⟨rfl, HB.out.2.2.alloc HB.out.2.2.size _⟩
              · have g3 : (x.1 < 256) = False := by simp; omega
                by_cases h3b : 65535 < x.1
                · have g3b : (65535 < x.1) = True := by simp [h3b]
                  have hR := HBad.out (by first | omega | (dsimp only; omega))
                  subst hR
                  go_wp2_with fail
                  go_ret
                  exact ⟨rfl, HB.out.2.2.alloc HB.out.2.2.size _⟩
                · have g3b : (65535 < x.1) = False := by simp; omega
                  by_cases h4 : x.2.n < 1
                  · have g4 : ((x.2.n : Int) < 1) = True := by simp; omega
                    have hR := HBad.out (by first | omega | (dsimp only; omega))
                    subst hR
                    go_wp2_with fail
                    go_ret
                    exact ⟨rfl, HB.out.2.2.alloc HB.out.2.2.size _⟩
                  · have g4 : ((x.2.n : Int) < 1) = False := by simp; omega
                    by_cases h5 : 65000 < x.2.n
                    · have g5 : ((65000 : Int) < (x.2.n : Int)) = True := by simp; omega
                      have hR := HBad.out (by first | omega | (dsimp only; omega))
                      subst hR
                      go_wp2_with fail
                      go_ret
                      exact ⟨rfl, HB.out.2.2.alloc HB.out.2.2.size _⟩
                    · have g5 : ((65000 : Int) < (x.2.n : Int)) = False := by simp; omega
                      by_cases h6 : 65535 < k
                      · have g6 : ((65535 : Int) < (k : Int)) = True := by simp; omega
                        have hR := HBad.out (by first | omega | (dsimp only; omega))
                        subst hR
                        go_wp2_with fail
                        go_ret
                        exact ⟨rfl, HB.out.2.2.alloc HB.out.2.2.size _⟩
                      · have g6 : ((65535 : Int) < (k : Int)) = False := by simp; omega
                        have hsz := HB.out.2.1.trans (szOk (by first | omega | (dsimp only; omega)))
                        have hw1 : IntKind.i64.wrap ((k : Int) + 4) = k + 4 := IntWalk.i64_in _ (by omega)
                        have hw2 : IntKind.i64.wrap ((k : Int) + 4 + (x.2.n : Int)) = ((k + 4 + x.2.n : Nat) : Int) := by rw [IntWalk.i64_in _ (by omega)]; omega
                        have hw3 := wrapS hlt hmax
                        have HZ := Lib.hid hsz
                        clear hsz
                        go_wp2_with fail
                        exact ⟨⟨i + 1, k + 4 + x.2.n, hlt, by rw [hw3], rfl, by omega, HZ.out, HB.out.1.alloc HB.out.1.size _⟩, by rw [hw3]; exact mSucc hlt⟩
          · obtain rfl : n = i := by omega
            have hil : ((n : Int) < (n : Int)) = False := by simp
            rw [List.drop_eq_nil_of_le (by omega)] at hsz
            have HB := Lib.hid (And.intro hb (And.intro hsz hbw))
            clear hb hsz hbw
            go_wp2_with fail
            go_ret
            refine ⟨?_, HB.out.2.2⟩
            rw [HR.out, HM.out, HM1.out, HM2.out, HB.out.2.1]
            simp [sz]; exact decide_eq_decide.2 (by omega)
set_option maxRecDepth 100000 in
set_option maxHeartbeats 1000000 in
theorem large_any (p : Pk) (w : World) (hs : StsOk w p.ss) : Calls Try.prog 6 #[p.v] w fun e w' => (∃ b, e = .returned (.bool b) ∧ (b = false → (∀ x ∈ p.ss.l, x.2.n ≤ 70000) ∧ p.ss.l.length ≤ 101)) ∧ Below w.heap.size w w' := by
  unfold Pk.v
  have hal := (Below.refl w.heap.size w).alloc (Nat.le_refl _) (.cells #[.int .i64 p.tm, .int .i64 p.sq, .int .i64 p.dm, .slice p.ss.a p.ss.n p.ss.c] 24)
  have HA := Lib.hid (And.intro hal hs)
  have hlen := hs.sl.len.symm
  clear hal hs
  obtain ⟨tm, sq, dm, s⟩ := p
  obtain ⟨oa, n, c, l⟩ := s
  dsimp only at *
  have h24 := hnew w (.cells #[.int .i64 tm, .int .i64 sq, .int .i64 dm, .slice oa n c] 24)
  go_enter Try.func6, Try.ntmps6
  go_wp2_with fail
  generalize w.alloc (.cells #[.int .i64 tm, .int .i64 sq, .int .i64 dm, .slice oa n c] 24) = W at *
  have H24 := Lib.hid h24
  have e3 := cell_of (o := 3) h24 rfl
  clear h24
  go_loopw [3, 4] (fun sv iv wr => ∃ (i k : Nat), i ≤ n ∧ iv = .int .i64 i ∧ sv = .int .i64 (k : Nat) ∧ k ≤ 70000 * i ∧ i ≤ 101 ∧ (∀ x ∈ l.take i, x.2.n ≤ 70000) ∧ wr = W) (fun _ iv _ => n - (intOf iv).toNat)
  case atStart => exact ⟨0, 0, Nat.zero_le _, rfl, rfl, by omega, by omega, fun x hx => (by cases hx), rfl⟩
  case round =>
    obtain ⟨i, k, hi, rfl, rfl, hk, h101, hall, rfl⟩ := hrel
    have hmax : n ≤ maxLen := HA.out.2.sl.max
    have HX := Lib.hid hall
    clear hall
    by_cases hlt : i < n
    · obtain ⟨bb, oo, rfl, hbb, hat⟩ := (HA.out.2.sl.keep HA.out.1).at hlt
      have c1 := hat 1 (by decide)
      simp only [RSt, List.getElem?_cons_zero, List.getElem?_cons_succ] at c1
      have hil : ((i : Int) < (n : Int)) = True := by simp; omega
      have ht : l.take (i + 1) = l.take i ++ [l.getD i default] := take_snoc l i (by omega)
      have HT := Lib.hid ht
      clear ht hat
      generalize l.getD i default = x at *
      by_cases h1 : 70000 < x.2.n
      · have g1 : ((70000 : Int) < (x.2.n : Int)) = True := by simp; omega
        go_wp2_with fail
        go_ret
        exact ⟨⟨true, rfl, fun h => (by cases h)⟩, HA.out.1⟩
      · have g1 : ((70000 : Int) < (x.2.n : Int)) = False := by simp; omega
        by_cases h2 : 100 < i
        · have g2 : ((100 : Int) < (i : Int)) = True := by simp; omega
          go_wp2_with fail
          go_ret
          exact ⟨⟨true, rfl, fun h => (by cases h)⟩, HA.out.1⟩
        · have g2 : ((100 : Int) < (i : Int)) = False := by simp; omega
          have hw2 : IntKind.i64.wrap ((k : Int) + (x.2.n : Int)) = ((k + x.2.n : Nat) : Int) := by rw [IntWalk.i64_in _ (by omega)]; omega
          have hw3 := wrapS hlt hmax
          go_wp2_with fail
          refine ⟨⟨i + 1, k + x.2.n, hlt, by first | rw [hw3] | rw [Int.natCast_succ], rfl, by omega, by omega, fun y hy => ?_, trivial⟩, by first | (rw [hw3]; exact mSucc hlt) | (rw [← Int.natCast_succ]; exact mSucc hlt)⟩
          rw [HT.out] at hy
          rcases List.mem_append.1 hy with hy | hy
          · exact HX.out y hy
          · obtain rfl : y = x := by simpa using hy
            omega
    · obtain rfl : n = i := by omega
      have hil : ((n : Int) < (n : Int)) = False := by simp
      go_wp2_with fail
      go_ret
      refine ⟨⟨_, rfl, fun _ => ⟨fun x hx => HX.out x ?_, by omega⟩⟩, HA.out.1⟩
      rw [List.take_of_length_le (by omega)]; exact hx
end Go.Proofs.Ytjjhnnnpikfjpaa
