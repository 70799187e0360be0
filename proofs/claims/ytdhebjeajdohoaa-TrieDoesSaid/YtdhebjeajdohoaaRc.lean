/- Same of two lists of prefixes. -/
import Derived.Test.YtdhebjeajdohoaaTp
import Derived.Test.YtdhebjeajdohoaaRb
namespace Go.Proofs.Ytdhebjeajdohoaa
open Go.RowKit

theorem rp_cells {w : World} {b o : Nat} {x : Nat × Nat} (h : RP.At w b o x) : w.cell? ⟨b, o, none⟩ = some (.int .u32 x.1) ∧ w.cell? ⟨b, o + 1, none⟩ = some (.int .i64 x.2) := ⟨h 0 (by decide), h 1 (by decide)⟩
theorem take_eq_succ {α : Type} [Inhabited α] {L M : List α} {i : Nat} (h : L.take i = M.take i) (hL : i < L.length) (hM : i < M.length) : (L.take (i + 1) = M.take (i + 1)) ↔ L.getD i default = M.getD i default := by
  have h1 : L.take (i + 1) = M.take i ++ [L[i]] := by rw [List.take_succ_eq_append_getElem hL, h]
  have h2 : M.take (i + 1) = M.take i ++ [M[i]] := List.take_succ_eq_append_getElem hM
  have h3 : L.getD i default = L[i] := by simp [List.getD_eq_getElem?_getD, hL]
  have h4 : M.getD i default = M[i] := by simp [List.getD_eq_getElem?_getD, hM]
  rw [h1, h2, h3, h4]
  exact ⟨fun e => List.singleton_inj.1 (List.append_cancel_left e), fun e => by rw [e]⟩
set_option maxHeartbeats 1000000 in
theorem same_any (oa ob : Option Addr) (n m ca cb : Nat) (L M : List (Nat × Nat)) (w : World) (hL : RP.Sl w oa n ca L) (hM : RP.Sl w ob m cb M) : Calls Try.prog 15 #[.slice oa n ca, .slice ob m cb] w fun e w' => e = .returned (.bool (decide (L = M))) ∧ Below w.heap.size w w' := by
  have HS := Lib.hid (And.intro hL hM)
  have hl := hL.len
  have hm := hM.len
  generalize hv : decide (L = M) = v
  have HV := Lib.hid hv
  have hmax : (n : Int) ≤ 9223372036854775807 := by have := hL.max; unfold maxLen at this; omega
  clear hL hM hv
  by_cases hnm : n = m
  · subst hnm
    have HLen := Lib.hid (And.intro hl hm)
    clear hl hm
    go_enter Try.func15, Try.ntmps15
    go_wp2_with fail
    go_loopw [5] (fun iv wr => ∃ i : Nat, i ≤ n ∧ iv = .int .i64 i ∧ Below w.heap.size w wr ∧ L.take i = M.take i) (fun iv _ => n - (intOf iv).toNat)
    case atStart => exact ⟨0, Nat.zero_le _, rfl, Below.refl _ _, by simp⟩
    case round =>
      obtain ⟨i, hi, rfl, hb, ht⟩ := hrel
      by_cases hlt : i < n
      · have hs := take_eq_succ ht (by rw [← HLen.out.1]; exact hlt) (by rw [← HLen.out.2]; exact hlt)
        obtain ⟨b1, o1, rfl, hb1, hA⟩ := HS.out.1.at hlt
        obtain ⟨b2, o2, rfl, hb2, hB⟩ := HS.out.2.at hlt
        obtain ⟨c0, c1⟩ := rp_cells (hA.keep (hb.block b1 hb1))
        obtain ⟨c2, c3⟩ := rp_cells (hB.keep (hb.block b2 hb2))
        simp only [RP] at c0 c1 c2 c3
        have HW := Lib.hid (And.intro hb (And.intro hs ht))
        clear hb hs ht hA hB
        generalize L.getD i default = x at *
        generalize M.getD i default = y at *
        have hcase : (((x.1 : Int) = y.1) = True ∧ ((x.2 : Int) = y.2) = True ∧ x = y) ∨ (((x.1 : Int) = y.1) = True ∧ ((x.2 : Int) = y.2) = False ∧ x ≠ y) ∨ (((x.1 : Int) = y.1) = False ∧ x ≠ y) := by
          obtain ⟨x1, x2⟩ := x
          obtain ⟨y1, y2⟩ := y
          by_cases h1 : x1 = y1 <;> by_cases h2 : x2 = y2 <;> simp [h1, h2]
          all_goals omega
        rcases hcase with ⟨h1, h2, h3⟩ | ⟨h1, h2, h3⟩ | ⟨h1, h3⟩
        · have H3 := Lib.hid h3
          clear h3
          go_wp2_with fail
          refine wp_region_quiet_tail (fun w' => w' = wr.drew) 8 (by kernel_rfl) (by kernel_rfl) rfl ?_
          simp only [List.take_succ_cons, List.take_zero, List.drop_succ_cons, List.drop_zero]
          iterate 8 ((with_reducible refine wpQuiet_step (fun K hK => ?_)); go_simp; (with_reducible refine hK _ ?_); clear hK K)
          refine wpQuiet_nil ?_
          rintro _ rfl
          go_wp2_with fail
          go_roundw
          case rel => exact ⟨i + 1, by omega, by go_num, HW.out.1.drew, HW.out.2.1.2 H3.out⟩
          case measure => simp [intOf]; omega
        · have H3 := Lib.hid h3
          clear h3
          go_wp2_with fail
          refine wp_region_quiet_tail (fun w' => w' = wr.drew) 8 (by kernel_rfl) (by kernel_rfl) rfl ?_
          simp only [List.take_succ_cons, List.take_zero, List.drop_succ_cons, List.drop_zero]
          iterate 8 ((with_reducible refine wpQuiet_step (fun K hK => ?_)); go_simp; (with_reducible refine hK _ ?_); clear hK K)
          refine wpQuiet_nil ?_
          rintro _ rfl
          go_wp2_with fail
          go_ret
          refine ⟨ret_bool ?_, HW.out.1.drew⟩
          have h9 : L ≠ M := fun e => H3.out (HW.out.2.1.1 (by rw [e]))
          rw [← HV.out]; simp [h9]
        · have H3 := Lib.hid h3
          clear h3
          go_wp2_with fail
          refine wp_region_quiet_tail (fun w' => w' = wr.drew) 8 (by kernel_rfl) (by kernel_rfl) rfl ?_
          simp only [List.take_succ_cons, List.take_zero, List.drop_succ_cons, List.drop_zero]
          iterate 8 ((with_reducible refine wpQuiet_step (fun K hK => ?_)); go_simp; (with_reducible refine hK _ ?_); clear hK K)
          refine wpQuiet_nil ?_
          rintro _ rfl
          go_wp2_with fail
          go_ret
          refine ⟨ret_bool ?_, HW.out.1.drew⟩
          have h9 : L ≠ M := fun e => H3.out (HW.out.2.1.1 (by rw [e]))
          rw [← HV.out]; simp [h9]
      · have HW := Lib.hid (And.intro hb ht)
        obtain rfl : i = n := by omega
        have hf : ¬ ((i : Int) < i) := by omega
        clear hb ht
        go_wp2_with fail
        go_ret
        refine ⟨ret_bool ?_, HW.out.1⟩
        have h1 := HW.out.2
        rw [List.take_of_length_le (by rw [← HLen.out.1]; exact Nat.le_refl _), List.take_of_length_le (by rw [← HLen.out.2]; exact Nat.le_refl _)] at h1
        rw [← HV.out]; simp [h1]
  · have hne : ((n : Int) = (m : Int)) = False := by simp; omega
    have hneb : ((n : Int) == (m : Int)) = false := by simp; omega
    go_enter Try.func15, Try.ntmps15
    go_wp2_with fail
    go_ret
    refine ⟨ret_bool ?_, Below.refl _ _⟩
    have h1 : L ≠ M := fun e => hnm (by rw [hl, hm, e])
    rw [← HV.out]; simp [h1]
end Go.Proofs.Ytdhebjeajdohoaa
