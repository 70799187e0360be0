/- The reference's prefixes: Check, Holds, Within, Compare. -/
import Derived.Test.YtdhebjeajdohoaaRa
namespace Go.Proofs.Ytdhebjeajdohoaa
open Go.RowKit

theorem rcheck_any (a : Nat) (n : Int) (ha : a < 4294967296) (w : World) : Calls Try.prog 39 #[pfx a n] w fun e w' => e = .returned (.bool (okP a n)) ∧ Below w.heap.size w w' := by
  have HM := Lib.hid (fun w' => rmake_at a (cl n) n ha rfl w')
  have HK := Lib.hid (okP_cl (a := a) (n := n))
  have HO := Lib.hid (okP_iff (a := a) (n := n))
  have hmn : 0 ≤ n → n ≤ 32 → ((cl n : Nat) : Int) = n := fun h0 h1 => by unfold cl; rw [if_neg (by omega), if_neg (by omega)]; omega
  clear ha
  generalize hv : okP a n = v
  rw [hv] at HK HO
  clear hv
  unfold pfx at HM ⊢
  generalize hx : cut a (cl n) = x at HM HK
  generalize hm : cl n = m at HM HK hmn
  clear hx hm
  have hcase : ((0 ≤ n) = False ∧ v = false) ∨ ((0 ≤ n) = True ∧ (n ≤ 32) = False ∧ v = false) ∨ ((0 ≤ n) = True ∧ (n ≤ 32) = True ∧ ((m : Int) = n) = True ∧ ((x : Int) = a) = True ∧ v = true) ∨ ((0 ≤ n) = True ∧ (n ≤ 32) = True ∧ ((m : Int) = n) = True ∧ ((x : Int) = a) = False ∧ v = false) := by
    have h3 := HK.out
    have h4 := HO.out
    by_cases h1 : 0 ≤ n <;> by_cases h2 : n ≤ 32 <;> by_cases h5 : (x : Int) = a <;> cases v <;> simp_all
  clear HK HO hmn
  rcases hcase with ⟨h1, rfl⟩ | ⟨h1, h2, rfl⟩ | ⟨h1, h2, h3, h4, rfl⟩ | ⟨h1, h2, h3, h4, rfl⟩
  all_goals
    go_enter Try.func39, Try.ntmps39
    go_wp2_with fail
    refine wp_region_quiet_tail (fun w' => Below (w.heap.size + 1) (w.alloc (.cells #[.int .u32 a, .int .i64 n] 32)) w') 17 (by kernel_rfl) (by kernel_rfl) (Below.drew (Below.refl _ _)) ?_
    simp only [List.take_succ_cons, List.take_zero, List.drop_succ_cons, List.drop_zero]
    iterate 17 ((with_reducible refine wpQuiet_step (fun K hK => ?_)); go_simp; first | ((with_reducible refine hK _ ?_); clear hK K) | (apply Exists.intro; (with_reducible refine ⟨fun w' hw' => ?_, hK _ ?_⟩); first | (go_at_call 53; (with_reducible refine (HM.out w').mono ?_); rintro e w2 ⟨rfl, hb⟩; exact ⟨rfl, hw'.trans (hb.mono (by have := hw'.size; simp at this; omega))⟩) | (have hb := (hw'.block w.heap.size (by simp)).trans (hnew _ _); have c0 : w'.cell? ⟨w.heap.size, 0, none⟩ = some (.int .u32 a) := cell_of hb rfl; have c1 : w'.cell? ⟨w.heap.size, 1, none⟩ = some (.int .i64 n) := cell_of hb rfl; clear hb; go_simp; first | exact rfl | exact ⟨rfl, rfl⟩); clear hK K))
    with_reducible refine wpQuiet_nil ?_
    intro wq hq
    have HQ := Lib.hid (((Below.refl w.heap.size w).alloc (Nat.le_refl _) _).trans (hq.mono (by omega)))
    clear HM hq
    go_wp2_with fail
    go_ret
    exact ⟨rfl, HQ.out⟩
def holdsP (a : Nat) (n : Int) (x : Nat) : Bool := okP a n && decide (cut x n.toNat = a)
theorem rholds_any (a : Nat) (n : Int) (x : Nat) (ha : a < 4294967296) (hx : x < 4294967296) (w : World) : Calls Try.prog 47 #[pfx a n, .int .u32 x] w fun e w' => e = .returned (.bool (holdsP a n x)) ∧ Below w.heap.size w w' := by
  have HC := Lib.hid (fun w' => rcheck_any a n ha w')
  have HM := Lib.hid (fun w' => rmake_at x (cl n) n hx rfl w')
  clear ha hx
  have hcase : (okP a n = false ∧ holdsP a n x = false) ∨ (okP a n = true ∧ ((cl n : Nat) : Int) = n ∧ (((cut x (cl n) : Nat) : Int) = a) = True ∧ holdsP a n x = true) ∨ (okP a n = true ∧ ((cl n : Nat) : Int) = n ∧ (((cut x (cl n) : Nat) : Int) = a) = False ∧ holdsP a n x = false) := by
    cases h : okP a n with
    | false => exact .inl ⟨rfl, by simp [holdsP, h]⟩
    | true =>
      obtain ⟨h1, h2, -⟩ := okP_iff.1 h
      have hcl : cl n = n.toNat := by unfold cl; rw [if_neg (by omega), if_neg (by omega)]
      by_cases h3 : cut x (cl n) = a
      · exact .inr (.inl ⟨rfl, by rw [hcl]; omega, by simp [h3], by rw [hcl] at h3; simp [holdsP, h, h3]⟩)
      · exact .inr (.inr ⟨rfl, by rw [hcl]; omega, by simp; omega, by rw [hcl] at h3; simp [holdsP, h, h3]⟩)
  unfold pfx at HC HM ⊢
  generalize holdsP a n x = v at hcase ⊢
  generalize okP a n = o at hcase HC
  generalize cut x (cl n) = y at hcase HM
  generalize cl n = k at hcase HM
  rcases hcase with ⟨rfl, rfl⟩ | ⟨rfl, h1, h2, rfl⟩ | ⟨rfl, h1, h2, rfl⟩
  all_goals
    go_enter Try.func47, Try.ntmps47
    go_wp2_with fail
    refine wp_region_quiet_tail (fun w' => Below (w.heap.size + 1) (w.alloc (.cells #[.int .u32 a, .int .i64 n] 32)) w') 10 (by kernel_rfl) (by kernel_rfl) (Below.drew (Below.refl _ _)) ?_
    simp only [List.take_succ_cons, List.take_zero, List.drop_succ_cons, List.drop_zero]
    iterate 10 ((with_reducible refine wpQuiet_step (fun K hK => ?_)); go_simp; first | ((with_reducible refine hK _ ?_); clear hK K) | (apply Exists.intro; (with_reducible refine ⟨fun w' hw' => ?_, hK _ ?_⟩); first | (go_at_call 39; (with_reducible refine (HC.out w').mono ?_); rintro e w2 ⟨rfl, hb⟩; exact ⟨rfl, hw'.trans (hb.mono (by have := hw'.size; simp at this; omega))⟩) | (go_at_call 53; (with_reducible refine (HM.out w').mono ?_); rintro e w2 ⟨rfl, hb⟩; exact ⟨rfl, hw'.trans (hb.mono (by have := hw'.size; simp at this; omega))⟩) | (have hb := (hw'.block w.heap.size (by simp)).trans (hnew _ _); have c0 : w'.cell? ⟨w.heap.size, 0, none⟩ = some (.int .u32 a) := cell_of hb rfl; have c1 : w'.cell? ⟨w.heap.size, 1, none⟩ = some (.int .i64 n) := cell_of hb rfl; clear hb; go_simp; first | exact rfl | exact ⟨rfl, rfl⟩); clear hK K))
    with_reducible refine wpQuiet_nil ?_
    intro wq hq
    have HQ := Lib.hid (((Below.refl w.heap.size w).alloc (Nat.le_refl _) _).trans (hq.mono (by omega)))
    clear hq
    go_wp2_with fail
    go_ret
    exact ⟨rfl, HQ.out⟩
def inP (a : Nat) (n : Int) (b : Nat) (m : Int) : Bool := okP a n && okP b m && decide (n ≤ m) && decide (cut b n.toNat = a)
theorem rwithin_any (a : Nat) (n : Int) (b : Nat) (m : Int) (ha : a < 4294967296) (hb : b < 4294967296) (w : World) : Calls Try.prog 26 #[pfx a n, pfx b m] w fun e w' => e = .returned (.bool (inP a n b m)) ∧ Below w.heap.size w w' := by
  have HC := Lib.hid (fun w' => rcheck_any a n ha w')
  have HD := Lib.hid (fun w' => rcheck_any b m hb w')
  have HH := Lib.hid (fun w' => rholds_any a n b ha hb w')
  clear ha hb
  have hcase : (okP a n = false ∧ inP a n b m = false) ∨ (okP a n = true ∧ okP b m = false ∧ inP a n b m = false) ∨ (okP a n = true ∧ okP b m = true ∧ (n ≤ m) = False ∧ inP a n b m = false) ∨ (okP a n = true ∧ okP b m = true ∧ (n ≤ m) = True ∧ inP a n b m = holdsP a n b) := by
    unfold inP holdsP
    cases h : okP a n <;> cases h2 : okP b m <;> by_cases h3 : n ≤ m <;> simp [h3]
  unfold pfx at HC HD HH ⊢
  generalize inP a n b m = v at hcase ⊢
  generalize holdsP a n b = hh at hcase HH
  generalize okP a n = o at hcase HC
  generalize okP b m = o2 at hcase HD
  rcases hcase with ⟨rfl, rfl⟩ | ⟨rfl, rfl, rfl⟩ | ⟨rfl, rfl, h1, rfl⟩ | ⟨rfl, rfl, h1, rfl⟩
  all_goals
    go_enter Try.func26, Try.ntmps26
    go_wp2_with fail
    have hW2 : w.heap.size + 1 + 1 ≤ ((w.alloc (.cells #[.int .u32 a, .int .i64 n] 32)).alloc (.cells #[.int .u32 b, .int .i64 m] 32)).heap.size := by simp
    have hq : Below (w.heap.size + 1 + 1) ((w.alloc (.cells #[.int .u32 a, .int .i64 n] 32)).alloc (.cells #[.int .u32 b, .int .i64 m] 32)) ((w.alloc (.cells #[.int .u32 a, .int .i64 n] 32)).alloc (.cells #[.int .u32 b, .int .i64 m] 32)) := Below.refl _ _
    go_wp2_with (first | (go_at_call 39; (with_reducible refine (HC.out _).mono ?_); rintro e w1 ⟨rfl, hb⟩; have hq := hq.trans (hb.mono (Nat.le_trans hW2 hq.size)); have hb := (hq.block w.heap.size (by omega)).trans (hold (hnew w _)); have c0 : w1.cell? ⟨w.heap.size, 0, none⟩ = some (.int .u32 a) := cell_of hb rfl; have c1 : w1.cell? ⟨w.heap.size, 1, none⟩ = some (.int .i64 n) := cell_of hb rfl; have hb2 := (hq.block (w.heap.size + 1) (by omega)).trans (hnewAt (by simp)); have c2 : w1.cell? ⟨w.heap.size + 1, 0, none⟩ = some (.int .u32 b) := cell_of hb2 rfl; have c3 : w1.cell? ⟨w.heap.size + 1, 1, none⟩ = some (.int .i64 m) := cell_of hb2 rfl; clear hb hb2; clear hb) | (go_at_call 39; (with_reducible refine (HD.out _).mono ?_); rintro e w1 ⟨rfl, hb⟩; have hq := hq.trans (hb.mono (Nat.le_trans hW2 hq.size)); have hb := (hq.block w.heap.size (by omega)).trans (hold (hnew w _)); have c0 : w1.cell? ⟨w.heap.size, 0, none⟩ = some (.int .u32 a) := cell_of hb rfl; have c1 : w1.cell? ⟨w.heap.size, 1, none⟩ = some (.int .i64 n) := cell_of hb rfl; have hb2 := (hq.block (w.heap.size + 1) (by omega)).trans (hnewAt (by simp)); have c2 : w1.cell? ⟨w.heap.size + 1, 0, none⟩ = some (.int .u32 b) := cell_of hb2 rfl; have c3 : w1.cell? ⟨w.heap.size + 1, 1, none⟩ = some (.int .i64 m) := cell_of hb2 rfl; clear hb hb2; clear hb) | (go_at_call 47; (with_reducible refine (HH.out _).mono ?_); rintro e w1 ⟨rfl, hb⟩; have hq := hq.trans (hb.mono (Nat.le_trans hW2 hq.size)); have hb := (hq.block w.heap.size (by omega)).trans (hold (hnew w _)); have c0 : w1.cell? ⟨w.heap.size, 0, none⟩ = some (.int .u32 a) := cell_of hb rfl; have c1 : w1.cell? ⟨w.heap.size, 1, none⟩ = some (.int .i64 n) := cell_of hb rfl; have hb2 := (hq.block (w.heap.size + 1) (by omega)).trans (hnewAt (by simp)); have c2 : w1.cell? ⟨w.heap.size + 1, 0, none⟩ = some (.int .u32 b) := cell_of hb2 rfl; have c3 : w1.cell? ⟨w.heap.size + 1, 1, none⟩ = some (.int .i64 m) := cell_of hb2 rfl; clear hb hb2; clear hb))
    have HQ := (((Below.refl w.heap.size w).alloc (Nat.le_refl _) _).alloc (by simp) _).trans (hq.mono (by omega))
    go_ret
    exact ⟨rfl, HQ⟩
def cmpP (a : Nat) (n : Int) (b : Nat) (m : Int) : Int := if a < b ∨ (a = b ∧ n < m) then -1 else if a = b ∧ n = m then 0 else 1
theorem rcompare_any (a : Nat) (n : Int) (b : Nat) (m : Int) (w : World) : Calls Try.prog 54 #[pfx a n, pfx b m] w fun e w' => e = .returned (.int .i64 (cmpP a n b m)) ∧ Below w.heap.size w w' := by
  have hb0 := Lib.hid (((Below.refl w.heap.size w).alloc (Nat.le_refl _) (.cells #[.int .u32 a, .int .i64 n] 32)).alloc (by simp) (.cells #[.int .u32 b, .int .i64 m] 32))
  have hcase : (((a : Int) < b) = True ∧ cmpP a n b m = -1) ∨ (((a : Int) < b) = False ∧ ((a : Int) = b) = False ∧ cmpP a n b m = 1) ∨ (((a : Int) < b) = False ∧ ((a : Int) = b) = True ∧ (n < m) = True ∧ cmpP a n b m = -1) ∨ (((a : Int) < b) = False ∧ ((a : Int) = b) = True ∧ (n < m) = False ∧ (n = m) = True ∧ cmpP a n b m = 0) ∨ (((a : Int) < b) = False ∧ ((a : Int) = b) = True ∧ (n < m) = False ∧ (n = m) = False ∧ cmpP a n b m = 1) := by
    unfold cmpP
    by_cases h1 : a < b
    · exact .inl ⟨by simp; omega, by simp [h1]⟩
    · by_cases h2 : a = b
      · by_cases h3 : n < m
        · exact .inr (.inr (.inl ⟨by simp; omega, by simp [h2], by simp [h3], by simp [h2, h3]⟩))
        · by_cases h4 : n = m
          · exact .inr (.inr (.inr (.inl ⟨by simp; omega, by simp [h2], by simp [h3], by simp [h4], by simp [h2, h4]⟩)))
          · exact .inr (.inr (.inr (.inr ⟨by simp; omega, by simp [h2], by simp [h3], by simp [h4], by simp [h2, h3, h4]⟩)))
      · exact .inr (.inl ⟨by simp; omega, by simp; omega, by simp [h1, h2]⟩)
  unfold pfx
  generalize cmpP a n b m = v at hcase ⊢
  have hbeq : ((a : Int) == (b : Int)) = decide ((a : Int) = b) := by rw [Bool.eq_iff_iff]; simp
  rcases hcase with ⟨h1, rfl⟩ | ⟨h1, h2, rfl⟩ | ⟨h1, h2, h3, rfl⟩ | ⟨h1, h2, h3, h4, rfl⟩ | ⟨h1, h2, h3, h4, rfl⟩
  all_goals
    (try simp only [h2, decide_true, decide_false] at hbeq)
    go_enter Try.func54, Try.ntmps54
    go_wp2_with fail
    go_ret
    exact ⟨rfl, hb0.out⟩
end Go.Proofs.Ytdhebjeajdohoaa
