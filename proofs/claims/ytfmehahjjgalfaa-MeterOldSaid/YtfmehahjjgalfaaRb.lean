/- The reference's prefixes: Check, Holds, Within, Compare. -/
import Derived.Test.YtfmehahjjgalfaaRa
namespace Go.Proofs.Ytfmehahjjgalfaa
open Go.RowKit

theorem rcheck_any (a : Nat) (n : Int) (ha : a < 4294967296) (w : World) : Calls Try.prog 70 #[pfx a n] w fun e w' => e = .returned (.bool (okP a n)) ∧ Below w.heap.size w w' := by
  have HM := Lib.hid (fun w' => rmake_at a (cl n) n ha rfl w')
  have HK := Lib.hid (okP_cl (a := a) (n := n))
  have HO := Lib.hid (okP_iff (a := a) (n := n))
  have hmn : 0 ≤ n → n ≤ 32 → ((cl n : Nat) : Int) = n := fun h0 h1 => by unfold cl; rw [if_neg (by omega), if_neg (by omega)]; omega
  clear ha
  generalize hv : okP a n = v
  rw [hv] at HK HO
  clear hv
  unfold pfx at HM ⊢
  generalize hx : pcut a (cl n) = x at HM HK
  generalize hm : cl n = m at HM HK hmn
  clear hx hm
  have hcase : ((0 ≤ n) = False ∧ v = false) ∨ ((0 ≤ n) = True ∧ (n ≤ 32) = False ∧ v = false) ∨ ((0 ≤ n) = True ∧ (n ≤ 32) = True ∧ ((m : Int) = n) = True ∧ ((x : Int) = a) = True ∧ v = true) ∨ ((0 ≤ n) = True ∧ (n ≤ 32) = True ∧ ((m : Int) = n) = True ∧ ((x : Int) = a) = False ∧ v = false) := by
    have h3 := HK.out
    have h4 := HO.out
    by_cases h1 : 0 ≤ n <;> by_cases h2 : n ≤ 32 <;> by_cases h5 : (x : Int) = a <;> cases v <;> simp_all
  clear HK HO hmn
  rcases hcase with ⟨h1, rfl⟩ | ⟨h1, h2, rfl⟩ | ⟨h1, h2, h3, h4, rfl⟩ | ⟨h1, h2, h3, h4, rfl⟩
  all_goals
    go_enter Try.func70, Try.ntmps70
    go_wp2_with fail
    refine wp_region_quiet_tail (fun w' => Below (w.heap.size + 1) (w.alloc (.cells #[.int .u32 a, .int .i64 n] 58)) w') 17 (by kernel_rfl) (by kernel_rfl) (Below.drew (Below.refl _ _)) ?_
    simp only [List.take_succ_cons, List.take_zero, List.drop_succ_cons, List.drop_zero]
    iterate 17 ((with_reducible refine wpQuiet_step (fun K hK => ?_)); go_simp; first | ((with_reducible refine hK _ ?_); clear hK K) | (apply Exists.intro; (with_reducible refine ⟨fun w' hw' => ?_, hK _ ?_⟩); first | (go_at_call 91; (with_reducible refine (HM.out w').mono ?_); rintro e w2 ⟨rfl, hb⟩; exact ⟨rfl, hw'.trans (hb.mono (by have := hw'.size; simp at this; omega))⟩) | (have hb := (hw'.block w.heap.size (by simp)).trans (hnew _ _); have c0 : w'.cell? ⟨w.heap.size, 0, none⟩ = some (.int .u32 a) := cell_of hb rfl; have c1 : w'.cell? ⟨w.heap.size, 1, none⟩ = some (.int .i64 n) := cell_of hb rfl; clear hb; go_simp; first | exact rfl | exact ⟨rfl, rfl⟩); clear hK K))
    with_reducible refine wpQuiet_nil ?_
    intro wq hq
    have HQ := Lib.hid (((Below.refl w.heap.size w).alloc (Nat.le_refl _) _).trans (hq.mono (by omega)))
    clear HM hq
    go_wp2_with fail
    go_ret
    exact ⟨rfl, HQ.out⟩
def holdsP (a : Nat) (n : Int) (x : Nat) : Bool := okP a n && decide (pcut x n.toNat = a)
def inP (a : Nat) (n : Int) (b : Nat) (m : Int) : Bool := okP a n && okP b m && decide (n ≤ m) && decide (pcut b n.toNat = a)
def cmpP (a : Nat) (n : Int) (b : Nat) (m : Int) : Int := if a < b ∨ (a = b ∧ n < m) then -1 else if a = b ∧ n = m then 0 else 1
theorem rcompare_any (a : Nat) (n : Int) (b : Nat) (m : Int) (w : World) : Calls Try.prog 84 #[pfx a n, pfx b m] w fun e w' => e = .returned (.int .i64 (cmpP a n b m)) ∧ Below w.heap.size w w' := by
  have hb0 := Lib.hid (((Below.refl w.heap.size w).alloc (Nat.le_refl _) (.cells #[.int .u32 a, .int .i64 n] 58)).alloc (by simp) (.cells #[.int .u32 b, .int .i64 m] 58))
  have hcase : (((a : Int) < b) = True ∧ cmpP a n b m = -1) ∨ (((a : Int) < b) = False ∧ ((a : Int) = b) = False ∧ cmpP a n b m = 1) ∨ (((a : Int) < b) = False ∧ ((a : Int) = b) = True ∧ (n < m) = True ∧ cmpP a n b m = -1) ∨ (((a : Int) < b) = False ∧ ((a : Int) = b) = True ∧ (n < m) = False ∧ (n = m) = True ∧ cmpP a n b m = 0) ∨ (((a : Int) < b) = False ∧ ((a : Int) = b) = True ∧ (n < m) = False ∧ (n = m) = False ∧ cmpP a n b m = 1) := by
    unfold cmpP
    by_cases h1 : a < b
    · exact .inl ⟨by simp; omega, by simp [h1]⟩
    · by_cases h2 : a = b
      · by_cases h3 : n < m
        · exact .inr (.inr (.inl ⟨by simp; omega, by simp [h2], by simp [h3], by simp [h2, h3]⟩))
        · by_cases h4 : n = m
          · exact .inr (.inr (.inr (.inl ⟨by simp; omega, by simp [h2], by simp [h3], by simp [h4], by simp [h2, h4]⟩)))
          · exact .inr (.inr (.inr (.inr ⟨by simp; omega, by simp [h2], by simp [h3], by simp [h4], by simp [h2, h3, h4]⟩)))
      · exact .inr (.inl ⟨by simp; omega, by simp; omega, by simp [h1, h2]⟩)
  unfold pfx
  generalize cmpP a n b m = v at hcase ⊢
  have hbeq : ((a : Int) == (b : Int)) = decide ((a : Int) = b) := by rw [Bool.eq_iff_iff]; simp
  rcases hcase with ⟨h1, rfl⟩ | ⟨h1, h2, rfl⟩ | ⟨h1, h2, h3, rfl⟩ | ⟨h1, h2, h3, h4, rfl⟩ | ⟨h1, h2, h3, h4, rfl⟩
  all_goals
    (try simp only [h2, decide_true, decide_false] at hbeq)
    go_enter Try.func84, Try.ntmps84
    go_wp2_with fail
    go_ret
    exact ⟨rfl, hb0.out⟩
end Go.Proofs.Ytfmehahjjgalfaa
