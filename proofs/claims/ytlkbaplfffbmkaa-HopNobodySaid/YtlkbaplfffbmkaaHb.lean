/- within, odd; none of the good ones is odd. -/
import Derived.Test.YtlkbaplfffbmkaaHa
namespace Go.Proofs.Ytlkbaplfffbmkaa
open Go.RowKit

theorem hwithin_any (n a b : Int) (w : World) : Calls Try.prog 42 #[.int .i64 n, .int .i64 a, .int .i64 b] w fun e w' => e = .returned (.bool (decide (a ≤ n) && decide (n ≤ b))) ∧ w' = w := by
  by_cases h1 : a ≤ n
  · by_cases h2 : n ≤ b
    · go_enter Try.func42, Try.ntmps42
      go_wp2_with fail
      go_ret
      exact ⟨by simp [h1, h2], rfl⟩
    · go_enter Try.func42, Try.ntmps42
      go_wp2_with fail
      go_ret
      exact ⟨by simp [h2], rfl⟩
  · go_enter Try.func42, Try.ntmps42
    go_wp2_with fail
    go_ret
    exact ⟨by rw [decide_eq_false (Int.not_le.2 h1)]; rfl, rfl⟩
theorem hwithin_ok {n a b : Int} (h : a ≤ n ∧ n ≤ b) (w : World) : Calls Try.prog 42 #[.int .i64 n, .int .i64 a, .int .i64 b] w fun e w' => e = .returned (.bool true) ∧ w' = w :=
  (hwithin_any n a b w).mono fun e w' ⟨h1, h2⟩ => ⟨by rw [h1]; simp [h.1, h.2], h2⟩
set_option maxRecDepth 100000 in
set_option maxHeartbeats 1000000 in
theorem odd_ok {x : If} (hok : okI x = true) (had : x.ad < 4294967296) (w : World) : Calls Try.prog 41 #[x.v] w fun e w' => e = .returned (.bool false) ∧ Below w.heap.size w w' := by
  obtain ⟨h1, h2, h3, h4, h5, h6, h7⟩ := okI_iff.1 hok
  have hal := (Below.refl w.heap.size w).alloc (Nat.le_refl _) (.cells #[.int .i64 x.id, .int .i64 x.r, .int .u32 (x.ad : Int), .int .i64 x.ln, .int .i64 x.cp] 34)
  have hxs : IfS w.heap.size x (w.alloc (.cells #[.int .i64 x.id, .int .i64 x.r, .int .u32 (x.ad : Int), .int .i64 x.ln, .int .i64 x.cp] 34)) := hnew _ _
  have H1 := Lib.hid (fun W => hwithin_ok (n := x.id) (a := 0) (b := 4294967295) ⟨h1, h2⟩ W)
  have H2 := Lib.hid (fun W => hwithin_ok (n := x.r) (a := 0) (b := 15) ⟨h3, h4⟩ W)
  have H4 := Lib.hid (fun W => hwithin_ok (n := x.cp) (a := 0) (b := 9007199254740991) ⟨h6, h7⟩ W)
  have H3 := Lib.hid (fun W => by have := check_any x.ad x.ln had W; rw [h5, if_pos rfl] at this; exact this)
  have F := Lib.hid (And.intro hal hxs)
  obtain ⟨z0, z1, z2, z3, z4⟩ := hxs.cells
  unfold If.v
  clear h1 h2 h3 h4 h5 h6 h7 hal hxs hok had
  go_enter Try.func41, Try.ntmps41
  go_wp2_with fail
  refine (H1.out _).mono ?_
  rintro e W1 ⟨rfl, hw1⟩
  generalize w.alloc (.cells #[.int .i64 x.id, .int .i64 x.r, .int .u32 (x.ad : Int), .int .i64 x.ln, .int .i64 x.cp] 34) = W at *
  subst W1
  go_wp2_with fail
  refine (H2.out _).mono ?_
  rintro e W1 ⟨rfl, hw1⟩
  subst W1
  go_wp2_with fail
  refine (H3.out _).mono ?_
  rintro e W1 ⟨rfl, hb1⟩
  have F1 := Lib.hid (And.intro (bcall F.out.1 (Nat.le_refl _) hb1) (F.out.2.on hb1))
  clear z0 z1 z2 z3 z4 hb1 F
  obtain ⟨z0, z1, z2, z3, z4⟩ := F1.out.2.cells
  go_wp2_with fail
  refine (H4.out _).mono ?_
  rintro e W2 ⟨rfl, hw1⟩
  subst W2
  go_wp2_with fail
  go_ret
  exact ⟨rfl, F1.out.1⟩
def CalleeF (f : Nat) : Value := .func (.func f) #[] #[]
set_option maxRecDepth 100000 in
set_option maxHeartbeats 1000000 in
theorem index_ok {w : World} {oa : Option Addr} {n c : Nat} {l : List If} (h : Ifs w oa n c l) (hok : ∀ x ∈ l, okI x = true) : Calls Try.prog 59 #[.slice oa n c, CalleeF 41] w fun e w' => e = .returned (.int .i64 (-1)) ∧ Below w.heap.size w w' := by
  have HL := Lib.hid h.sl.len
  have F := Lib.hid h
  have HO := Lib.hid hok
  have hmax := h.sl.max
  clear h hok
  unfold CalleeF
  go_enter Try.func59, Try.ntmps59
  go_wp2_with fail
  go_loopw [8] (fun iv wr => ∃ i : Nat, i ≤ n ∧ iv = .int .i64 i ∧ Below w.heap.size w wr) (fun iv _ => n - (intOf iv).toNat)
  case atStart => exact ⟨0, Nat.zero_le _, rfl, Below.refl _ _⟩
  case round =>
    obtain ⟨i, hi, rfl, hb⟩ := hrel
    obtain ⟨w2, rfl⟩ : ∃ w2 : World, w2 = wr := ⟨_, rfl⟩
    by_cases hlt : i < n
    · have hil : ((i : Int) < (n : Int)) = True := by simp; omega
      have hw3 := wrapS hlt hmax
      have hlen : l.length = n := HL.out.symm
      obtain ⟨b0, o0, rfl, hbb, hat⟩ := (F.out.keep hb).sl.at hlt
      have c0 := hat 0 (by decide)
      have c1 := hat 1 (by decide)
      have c2 := hat 2 (by decide)
      have c3 := hat 3 (by decide)
      have c4 := hat 4 (by decide)
      simp only [RIf, Nat.add_zero, List.getElem?_cons_zero, List.getElem?_cons_succ] at c0 c1 c2 c3 c4
      have hox := odd_ok (HO.out _ (getD_mem (i := i) (by omega))) (F.out.ad _ (getD_mem (by omega))) w2
      generalize l.getD i default = x at *
      have HX := Lib.hid hox
      have HB := Lib.hid hb
      clear hox hb hat hlen
      go_wp2_with fail
      refine (HX.out).mono ?_
      rintro e W3 ⟨rfl, hb3⟩
      have HB3 := Lib.hid (bcall HB.out (Nat.le_refl _) hb3)
      clear hb3 HB c0 c1 c2 c3 c4
      go_wp2_with fail
      exact ⟨⟨i + 1, hlt, by first | rw [hw3] | rw [Int.natCast_succ], HB3.out⟩, by first | (rw [hw3]; exact mSucc hlt) | (rw [← Int.natCast_succ]; exact mSucc hlt)⟩
    · obtain rfl : n = i := by omega
      have hil : ((n : Int) < (n : Int)) = False := by simp
      have HB := Lib.hid hb
      clear hb
      go_wp2_with fail
      go_ret
      exact ⟨rfl, HB.out⟩
set_option maxRecDepth 100000 in
theorem contains_ok {w : World} {oa : Option Addr} {n c : Nat} {l : List If} (h : Ifs w oa n c l) (hok : ∀ x ∈ l, okI x = true) : Calls Try.prog 40 #[.slice oa n c, CalleeF 41] w fun e w' => e = .returned (.bool false) ∧ Below w.heap.size w w' := by
  have H := Lib.hid (index_ok h hok)
  clear h hok
  unfold CalleeF at *
  go_enter Try.func40, Try.ntmps40
  go_wp2_with fail
  refine (H.out).mono ?_
  rintro e W1 ⟨rfl, hb1⟩
  have HB := Lib.hid hb1
  clear hb1
  go_wp2_with fail
  go_ret
  exact ⟨rfl, HB.out⟩
end Go.Proofs.Ytlkbaplfffbmkaa
