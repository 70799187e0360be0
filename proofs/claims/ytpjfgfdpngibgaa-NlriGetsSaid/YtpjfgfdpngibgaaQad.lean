/- The order of prefixes that are told, as the program and the reference tell it. -/
import Derived.Test.YtpjfgfdpngibgaaQac
import Derived.DeepKeys4
import Derived.Test.YtpjfgfdpngibgaaQab
import Derived.Test.YtpjfgfdpngibgaaQaa
import Derived.Lib.AppendZerosOnto
import Derived.Lib.SliceRun
namespace Go.Proofs.Ytpjfgfdpngibgaa
open Go.RowKit
open Go.ChangeMaps (setBlock)

/-- w' is w with new blocks and draws -/
def Grows (w w' : World) : Prop := ∃ (q : Nat) (os : Array Obj), w' = Go.Sort.grow (w.drewN q) os
theorem drewN_add (w : World) (a b : Nat) : (w.drewN a).drewN b = w.drewN (a + b) := by
  simp [World.drewN, Nat.add_assoc]
theorem grow_drewN (w : World) (os : Array Obj) (b : Nat) : (Go.Sort.grow w os).drewN b = Go.Sort.grow (w.drewN b) os := rfl
theorem Grows.refl (w : World) : Grows w w := ⟨0, #[], by
  show w = Go.Sort.grow (w.drewN 0) #[]
  simp [Go.Sort.grow, World.drewN]⟩
theorem Grows.drewN {w w' : World} (h : Grows w w') (n : Nat) : Grows w (w'.drewN n) := by
  obtain ⟨q, os, rfl⟩ := h
  exact ⟨q + n, os, by rw [grow_drewN, drewN_add]⟩
theorem Grows.drew {w w' : World} (h : Grows w w') : Grows w w'.drew := h.drewN 1
theorem Grows.alloc {w w' : World} (h : Grows w w') (o : Obj) : Grows w (w'.alloc o) := by
  obtain ⟨q, os, rfl⟩ := h
  exact ⟨q, os ++ #[o], by rw [Go.Sort.alloc_eq_grow, Go.Sort.grow_grow]⟩
theorem Grows.trans {a b c : World} (h : Grows a b) (k : Grows b c) : Grows a c := by
  obtain ⟨q, os, rfl⟩ := h
  obtain ⟨q2, os2, rfl⟩ := k
  exact ⟨q + q2, os ++ os2, by rw [grow_drewN, drewN_add, Go.Sort.grow_grow]⟩
theorem Grows.below {w w' : World} (h : Grows w w') : Below w.heap.size w w' := by
  obtain ⟨q, os, rfl⟩ := h
  refine ⟨rfl, rfl, rfl, ?_, fun k hk => ?_⟩
  · show w.heap.size ≤ (w.heap ++ os).size
    simp
  · show (w.heap ++ os)[k]? = _
    rw [Array.getElem?_append_left hk]

theorem nani_any (a : Int) (w : World) : Calls Try.prog 77 #[.int .i64 a] w fun e w' => e = .returned (.bool false) ∧ w' = w := by
  have h : (a == a) = true := by simp
  go_enter Try.func77, Try.ntmps77
  go_wp2_with fail
  go_ret
  exact ⟨rfl, rfl⟩
theorem nanu_any (a : Int) (w : World) : Calls Try.prog 102 #[.int .u32 a] w fun e w' => e = .returned (.bool false) ∧ w' = w := by
  have h : (a == a) = true := by simp
  go_enter Try.func102, Try.ntmps102
  go_wp2_with fail
  go_ret
  exact ⟨rfl, rfl⟩
theorem cmpi_any (a b : Int) (w : World) : Calls Try.prog 47 #[.int .i64 a, .int .i64 b] w fun e w' => e = .returned (.int .i64 (cmpI a b)) ∧ w' = w := by
  have HA := Lib.hid (fun W => nani_any a W)
  have HB := Lib.hid (fun W => nani_any b W)
  obtain ⟨c, hc⟩ : ∃ c, cmpI a b = c := ⟨_, rfl⟩
  rw [hc]
  unfold cmpI at hc
  have HC := Lib.hid hc
  clear hc
  by_cases h1 : a < b
  · have e1 : (a < b) = True := eq_true h1
    clear h1
    go_enter Try.func47, Try.ntmps47
    go_wp2_with fail
    refine (HA.out _).mono ?_
    rintro e w1 ⟨rfl, hw1⟩
    subst w1
    go_wp2_with fail
    refine (HB.out _).mono ?_
    rintro e w1 ⟨rfl, hw1⟩
    subst w1
    go_wp2_with fail
    go_ret
    exact ⟨ret_int (by rw [← HC.out, if_pos (of_eq_true e1)]), rfl⟩
  · have e1 : (a < b) = False := eq_false h1
    by_cases h2 : b < a
    · have e2 : (b < a) = True := eq_true h2
      clear h1 h2
      go_enter Try.func47, Try.ntmps47
      go_wp2_with fail
      refine (HA.out _).mono ?_
      rintro e w1 ⟨rfl, hw1⟩
      subst w1
      go_wp2_with fail
      refine (HB.out _).mono ?_
      rintro e w1 ⟨rfl, hw1⟩
      subst w1
      go_wp2_with fail
      go_ret
      exact ⟨ret_int (by rw [← HC.out, if_neg (of_eq_false e1), if_pos (of_eq_true e2)]), rfl⟩
    · have e2 : (b < a) = False := eq_false h2
      clear h1 h2
      go_enter Try.func47, Try.ntmps47
      go_wp2_with fail
      refine (HA.out _).mono ?_
      rintro e w1 ⟨rfl, hw1⟩
      subst w1
      go_wp2_with fail
      refine (HB.out _).mono ?_
      rintro e w1 ⟨rfl, hw1⟩
      subst w1
      go_wp2_with fail
      go_ret
      exact ⟨ret_int (by rw [← HC.out, if_neg (of_eq_false e1), if_neg (of_eq_false e2)]), rfl⟩
theorem cmpu_any (a b : Int) (w : World) : Calls Try.prog 76 #[.int .u32 a, .int .u32 b] w fun e w' => e = .returned (.int .i64 (cmpI a b)) ∧ w' = w := by
  have HA := Lib.hid (fun W => nanu_any a W)
  have HB := Lib.hid (fun W => nanu_any b W)
  obtain ⟨c, hc⟩ : ∃ c, cmpI a b = c := ⟨_, rfl⟩
  rw [hc]
  unfold cmpI at hc
  have HC := Lib.hid hc
  clear hc
  by_cases h1 : a < b
  · have e1 : (a < b) = True := eq_true h1
    clear h1
    go_enter Try.func76, Try.ntmps76
    go_wp2_with fail
    refine (HA.out _).mono ?_
    rintro e w1 ⟨rfl, hw1⟩
    subst w1
    go_wp2_with fail
    refine (HB.out _).mono ?_
    rintro e w1 ⟨rfl, hw1⟩
    subst w1
    go_wp2_with fail
    go_ret
    exact ⟨ret_int (by rw [← HC.out, if_pos (of_eq_true e1)]), rfl⟩
  · have e1 : (a < b) = False := eq_false h1
    by_cases h2 : b < a
    · have e2 : (b < a) = True := eq_true h2
      clear h1 h2
      go_enter Try.func76, Try.ntmps76
      go_wp2_with fail
      refine (HA.out _).mono ?_
      rintro e w1 ⟨rfl, hw1⟩
      subst w1
      go_wp2_with fail
      refine (HB.out _).mono ?_
      rintro e w1 ⟨rfl, hw1⟩
      subst w1
      go_wp2_with fail
      go_ret
      exact ⟨ret_int (by rw [← HC.out, if_neg (of_eq_false e1), if_pos (of_eq_true e2)]), rfl⟩
    · have e2 : (b < a) = False := eq_false h2
      clear h1 h2
      go_enter Try.func76, Try.ntmps76
      go_wp2_with fail
      refine (HA.out _).mono ?_
      rintro e w1 ⟨rfl, hw1⟩
      subst w1
      go_wp2_with fail
      refine (HB.out _).mono ?_
      rintro e w1 ⟨rfl, hw1⟩
      subst w1
      go_wp2_with fail
      go_ret
      exact ⟨ret_int (by rw [← HC.out, if_neg (of_eq_false e1), if_neg (of_eq_false e2)]), rfl⟩

theorem or_any {w : World} {b c : Nat} {x y : Int} (h : w.cell? ⟨b, 0, none⟩ = some (.int .i64 x) ∧ w.cell? ⟨b, 1, none⟩ = some (.int .i64 y)) : Calls Try.prog 45 #[.slice (some ⟨b, 0, none⟩) 2 c] w fun e w' => e = .returned (.int .i64 (or2 x y)) ∧ w' = w := by
  obtain ⟨c0, c1⟩ := h
  have HO := Lib.hid (show (x ≠ 0 → or2 x y = x) ∧ (x = 0 → or2 x y = y) from ⟨fun h => if_neg h, fun h => if_pos h⟩)
  generalize or2 x y = v at *
  go_enter Try.func45, Try.ntmps45
  go_wp2_with fail
  go_loopw [8] (fun kv wr => ∃ k : Nat, k ≤ 2 ∧ kv = .int .i64 k ∧ (0 < k → x = 0) ∧ (1 < k → y = 0) ∧ wr = w) (fun kv _ => 2 - (intOf kv).toNat)
  case atStart => exact ⟨0, by omega, rfl, fun h => by omega, fun h => by omega, rfl⟩
  case round =>
    obtain ⟨k, hk, rfl, h0, h1, rfl⟩ := hrel
    have hk3 : k = 0 ∨ k = 1 ∨ k = 2 := by omega
    rcases hk3 with rfl | rfl | rfl
    · clear h0 h1
      by_cases hx : x = 0
      · have hxt : (x == 0) = true := by simp [hx]
        have HX := Lib.hid hx
        clear hx
        go_wp2_with fail
        exact ⟨⟨1, by omega, rfl, fun _ => HX.out, fun h => by omega, trivial⟩, by decide⟩
      · have hxt : (x == 0) = false := by simpa using hx
        have HX := Lib.hid hx
        clear hx
        go_wp2_with fail
        go_ret
        exact ⟨ret_int (HO.out.1 HX.out).symm, rfl⟩
    · have HX := Lib.hid (h0 (by omega))
      clear h0 h1
      by_cases hy : y = 0
      · have hyt : (y == 0) = true := by simp [hy]
        have HY := Lib.hid hy
        clear hy
        go_wp2_with fail
        exact ⟨⟨2, by omega, rfl, fun _ => HX.out, fun _ => HY.out, trivial⟩, by decide⟩
      · have hyt : (y == 0) = false := by simpa using hy
        clear hy
        go_wp2_with fail
        go_ret
        exact ⟨ret_int (HO.out.2 HX.out).symm, rfl⟩
    · have HX := Lib.hid (h0 (by omega))
      have HY := Lib.hid (h1 (by omega))
      clear h0 h1
      go_wp2_with fail
      go_ret
      exact ⟨ret_int (by rw [HO.out.2 HX.out, HY.out]), rfl⟩
theorem or_cmp (a b : PK) : or2 (cmpI (a.1 : Int) (b.1 : Int)) (cmpI a.2 b.2) = cmpK a b := by
  unfold or2 cmpI cmpK cmpP
  (repeat' split) <;> omega
def TwoS (q0 q1 : Nat) (a b : PK) (w : World) : Prop := w.heap[q0]? = some (.cells #[.int .u32 (a.1 : Int), .int .i64 a.2] 39) ∧ w.heap[q1]? = some (.cells #[.int .u32 (b.1 : Int), .int .i64 b.2] 39)
theorem TwoS.cells {q0 q1 : Nat} {a b : PK} {w : World} (h : TwoS q0 q1 a b w) : (w.cell? ⟨q0, 0, none⟩ = some (.int .u32 (a.1 : Int)) ∧ w.cell? ⟨q0, 1, none⟩ = some (.int .i64 a.2)) ∧ w.cell? ⟨q1, 0, none⟩ = some (.int .u32 (b.1 : Int)) ∧ w.cell? ⟨q1, 1, none⟩ = some (.int .i64 b.2) := ⟨⟨cell_of h.1 rfl, cell_of h.1 rfl⟩, cell_of h.2 rfl, cell_of h.2 rfl⟩
theorem TwoS.on {q0 q1 : Nat} {a b : PK} {w w' : World} (h : TwoS q0 q1 a b w) (hb : Below w.heap.size w w') : TwoS q0 q1 a b w' := ⟨(hb.block _ (lt_of_blk h.1)).trans h.1, (hb.block _ (lt_of_blk h.2)).trans h.2⟩
set_option maxRecDepth 100000 in
theorem acompare_any (a b : PK) (w : World) : Calls Try.prog 46 #[pfx a.1 a.2, pfx b.1 b.2] w fun e w' => e = .returned (.int .i64 (cmpK a b)) ∧ Grows w w' := by
  have hg := ((Grows.refl w).alloc (.cells #[.int .u32 (a.1 : Int), .int .i64 a.2] 39)).alloc (.cells #[.int .u32 (b.1 : Int), .int .i64 b.2] 39)
  have ht : TwoS w.heap.size (w.heap.size + 1) a b ((w.alloc (.cells #[.int .u32 (a.1 : Int), .int .i64 a.2] 39)).alloc (.cells #[.int .u32 (b.1 : Int), .int .i64 b.2] 39)) := ⟨hold (hnew _ _), hnewAt (by simp)⟩
  have F0 := Lib.hid (And.intro hg.drew (show TwoS w.heap.size (w.heap.size + 1) a b ((w.alloc (.cells #[.int .u32 (a.1 : Int), .int .i64 a.2] 39)).alloc (.cells #[.int .u32 (b.1 : Int), .int .i64 b.2] 39)).drew from ht))
  have HV := Lib.hid (or_cmp a b)
  unfold pfx
  clear hg ht
  generalize cmpK a b = v at *
  go_enter Try.func46, Try.ntmps46
  go_wp2_with fail
  refine wp_region_heldP (TwoS w.heap.size (w.heap.size + 1) a b) (by kernel_rfl) ?_
  generalize ((w.alloc (.cells #[.int .u32 (a.1 : Int), .int .i64 a.2] 39)).alloc (.cells #[.int .u32 (b.1 : Int), .int .i64 b.2] 39)).drew = W1 at *
  generalize w.heap.size = q at *
  refine held_reads [0, 1, 2, 3, 5, 6, 7, 8] (g := 5) rfl (by kernel_rfl) F0.out.2 (fun _ _ d _ _ h => by cases d <;> exact h) ?_
  simp only [pick, List.getD_cons_zero, List.getD_cons_succ]
  ((with_reducible refine wpRead_step (fun K hK => ?_)); go_simp; first | ((with_reducible refine hK _ ?_); clear hK K) | (apply Exists.intro; (with_reducible refine ⟨fun w' hw' => ?_, hK _ ?_⟩); (first | exact rfl | exact ⟨rfl, rfl⟩); clear hK K))
  ((with_reducible refine wpRead_step (fun K hK => ?_)); go_simp; first | ((with_reducible refine hK _ ?_); clear hK K) | (apply Exists.intro; (with_reducible refine ⟨fun w' hw' => ?_, hK _ ?_⟩); (obtain ⟨⟨f0, f1⟩, f2, f3⟩ := TwoS.cells hw'; go_simp; first | exact rfl | exact ⟨rfl, rfl⟩); clear hK K))
  ((with_reducible refine wpRead_step (fun K hK => ?_)); go_simp; first | ((with_reducible refine hK _ ?_); clear hK K) | (apply Exists.intro; (with_reducible refine ⟨fun w' hw' => ?_, hK _ ?_⟩); (first | exact rfl | exact ⟨rfl, rfl⟩); clear hK K))
  ((with_reducible refine wpRead_step (fun K hK => ?_)); go_simp; first | ((with_reducible refine hK _ ?_); clear hK K) | (apply Exists.intro; (with_reducible refine ⟨fun w' hw' => ?_, hK _ ?_⟩); (obtain ⟨⟨f0, f1⟩, f2, f3⟩ := TwoS.cells hw'; go_simp; first | exact rfl | exact ⟨rfl, rfl⟩); clear hK K))
  ((with_reducible refine wpRead_step (fun K hK => ?_)); go_simp; first | ((with_reducible refine hK _ ?_); clear hK K) | (apply Exists.intro; (with_reducible refine ⟨fun w' hw' => ?_, hK _ ?_⟩); (first | exact rfl | exact ⟨rfl, rfl⟩); clear hK K))
  ((with_reducible refine wpRead_step (fun K hK => ?_)); go_simp; first | ((with_reducible refine hK _ ?_); clear hK K) | (apply Exists.intro; (with_reducible refine ⟨fun w' hw' => ?_, hK _ ?_⟩); (obtain ⟨⟨f0, f1⟩, f2, f3⟩ := TwoS.cells hw'; go_simp; first | exact rfl | exact ⟨rfl, rfl⟩); clear hK K))
  ((with_reducible refine wpRead_step (fun K hK => ?_)); go_simp; first | ((with_reducible refine hK _ ?_); clear hK K) | (apply Exists.intro; (with_reducible refine ⟨fun w' hw' => ?_, hK _ ?_⟩); (first | exact rfl | exact ⟨rfl, rfl⟩); clear hK K))
  ((with_reducible refine wpRead_step (fun K hK => ?_)); go_simp; first | ((with_reducible refine hK _ ?_); clear hK K) | (apply Exists.intro; (with_reducible refine ⟨fun w' hw' => ?_, hK _ ?_⟩); (obtain ⟨⟨f0, f1⟩, f2, f3⟩ := TwoS.cells hw'; go_simp; first | exact rfl | exact ⟨rfl, rfl⟩); clear hK K))
  with_reducible refine wpRead_nil ?_
  refine held_one 4 (by kernel_rfl) ?_
  simp only [pick, List.getD_cons_zero, List.getD_cons_succ]
  go_wp2_with fail
  refine (cmpu_any _ _ _).mono ?_
  rintro e W2 ⟨rfl, hw⟩
  subst hw
  go_wp2_with fail
  refine ⟨F0.out.2, ?_⟩
  refine held_one 9 (by kernel_rfl) ?_
  simp only [pick, List.getD_cons_zero, List.getD_cons_succ]
  go_wp2_with fail
  refine (cmpi_any _ _ _).mono ?_
  rintro e W2 ⟨rfl, hw⟩
  subst hw
  go_wp2_with fail
  refine ⟨F0.out.2, ?_⟩
  have hal := (Below.refl W2.heap.size W2).alloc (Nat.le_refl _) (.cells #[.int .i64 (cmpI (a.1 : Int) (b.1 : Int)), .int .i64 (cmpI a.2 b.2)] 3)
  have hnb : (W2.alloc (.cells #[.int .i64 (cmpI (a.1 : Int) (b.1 : Int)), .int .i64 (cmpI a.2 b.2)] 3)).heap[W2.heap.size]? = some (.cells #[.int .i64 (cmpI (a.1 : Int) (b.1 : Int)), .int .i64 (cmpI a.2 b.2)] 3) := hnew _ _
  have F1 := Lib.hid (And.intro (F0.out.1.alloc (.cells #[.int .i64 (cmpI (a.1 : Int) (b.1 : Int)), .int .i64 (cmpI a.2 b.2)] 3)) (And.intro (F0.out.2.on hal) (show (W2.alloc (.cells #[.int .i64 (cmpI (a.1 : Int) (b.1 : Int)), .int .i64 (cmpI a.2 b.2)] 3)).cell? ⟨W2.heap.size, 0, none⟩ = some (.int .i64 (cmpI (a.1 : Int) (b.1 : Int))) ∧ (W2.alloc (.cells #[.int .i64 (cmpI (a.1 : Int) (b.1 : Int)), .int .i64 (cmpI a.2 b.2)] 3)).cell? ⟨W2.heap.size, 1, none⟩ = some (.int .i64 (cmpI a.2 b.2)) from ⟨cell_of hnb rfl, cell_of hnb rfl⟩)))
  clear hal hnb F0
  refine held_one 10 (by kernel_rfl) ?_
  simp only [pick, List.getD_cons_zero, List.getD_cons_succ]
  go_wp2_with fail
  generalize W2.alloc (.cells #[.int .i64 (cmpI (a.1 : Int) (b.1 : Int)), .int .i64 (cmpI a.2 b.2)] 3) = W3 at *
  generalize W2.heap.size = q2 at *
  refine ⟨F1.out.2.1, ?_⟩
  refine held_one 11 (by kernel_rfl) ?_
  simp only [pick, List.getD_cons_zero, List.getD_cons_succ]
  go_wp2_with fail
  refine (or_any F1.out.2.2).mono ?_
  rintro e W4 ⟨rfl, hw⟩
  subst hw
  rw [HV.out]
  go_wp2_with fail
  refine ⟨F1.out.2.1, ?_⟩
  refine held_one 12 (by kernel_rfl) ?_
  simp only [pick, List.getD_cons_zero, List.getD_cons_succ]
  go_wp2_with fail
  refine ⟨F1.out.2.1, ?_⟩
  refine wpAnyH_done (by kernel_rfl) ?_ _
  go_wp2_with fail
  go_ret
  exact ⟨rfl, F1.out.1⟩

def TwoN (q0 q1 : Nat) (a b : Nl) (w : World) : Prop := w.heap[q0]? = some (.cells #[.int .i64 a.id, .int .u32 (a.a : Int), .int .i64 a.ln] 41) ∧ w.heap[q1]? = some (.cells #[.int .i64 b.id, .int .u32 (b.a : Int), .int .i64 b.ln] 41)
theorem TwoN.cells {q0 q1 : Nat} {a b : Nl} {w : World} (h : TwoN q0 q1 a b w) : (w.cell? ⟨q0, 0, none⟩ = some (.int .i64 a.id) ∧ w.cell? ⟨q0, 1, none⟩ = some (.int .u32 (a.a : Int)) ∧ w.cell? ⟨q0, 2, none⟩ = some (.int .i64 a.ln)) ∧ w.cell? ⟨q1, 0, none⟩ = some (.int .i64 b.id) ∧ w.cell? ⟨q1, 1, none⟩ = some (.int .u32 (b.a : Int)) ∧ w.cell? ⟨q1, 2, none⟩ = some (.int .i64 b.ln) := ⟨⟨cell_of h.1 rfl, cell_of h.1 rfl, cell_of h.1 rfl⟩, cell_of h.2 rfl, cell_of h.2 rfl, cell_of h.2 rfl⟩
theorem TwoN.on {q0 q1 : Nat} {a b : Nl} {w w' : World} (h : TwoN q0 q1 a b w) (hb : Below w.heap.size w w') : TwoN q0 q1 a b w' := ⟨(hb.block _ (lt_of_blk h.1)).trans h.1, (hb.block _ (lt_of_blk h.2)).trans h.2⟩
set_option maxRecDepth 100000 in
theorem ncompare_any (a b : Nl) (w : World) : Calls Try.prog 20 #[a.v, b.v] w fun e w' => e = .returned (.int .i64 (cmpN a b)) ∧ Grows w w' := by
  have hg := ((Grows.refl w).alloc (.cells #[.int .i64 a.id, .int .u32 (a.a : Int), .int .i64 a.ln] 41)).alloc (.cells #[.int .i64 b.id, .int .u32 (b.a : Int), .int .i64 b.ln] 41)
  have ht : TwoN w.heap.size (w.heap.size + 1) a b ((w.alloc (.cells #[.int .i64 a.id, .int .u32 (a.a : Int), .int .i64 a.ln] 41)).alloc (.cells #[.int .i64 b.id, .int .u32 (b.a : Int), .int .i64 b.ln] 41)) := ⟨hold (hnew _ _), hnewAt (by simp)⟩
  have F0 := Lib.hid (And.intro hg.drew (show TwoN w.heap.size (w.heap.size + 1) a b ((w.alloc (.cells #[.int .i64 a.id, .int .u32 (a.a : Int), .int .i64 a.ln] 41)).alloc (.cells #[.int .i64 b.id, .int .u32 (b.a : Int), .int .i64 b.ln] 41)).drew from ht))
  have HV := Lib.hid (show or2 (cmpK a.key b.key) (cmpI a.id b.id) = cmpN a b from rfl)
  have HC := Lib.hid (fun W => acompare_any a.key b.key W)
  clear hg ht
  generalize cmpN a b = v at *
  generalize cmpK a.key b.key = kv at *
  unfold pfx Nl.key at HC
  unfold Nl.v
  go_enter Try.func20, Try.ntmps20
  go_wp2_with fail
  refine wp_region_heldP (TwoN w.heap.size (w.heap.size + 1) a b) (by kernel_rfl) ?_
  generalize ((w.alloc (.cells #[.int .i64 a.id, .int .u32 (a.a : Int), .int .i64 a.ln] 41)).alloc (.cells #[.int .i64 b.id, .int .u32 (b.a : Int), .int .i64 b.ln] 41)).drew = W1 at *
  generalize w.heap.size = q at *
  refine held_reads [0, 1, 2, 3, 5, 6, 7, 8] (g := 5) rfl (by kernel_rfl) F0.out.2 (fun _ _ d _ _ h => by cases d <;> exact h) ?_
  simp only [pick, List.getD_cons_zero, List.getD_cons_succ]
  ((with_reducible refine wpRead_step (fun K hK => ?_)); go_simp; first | ((with_reducible refine hK _ ?_); clear hK K) | (apply Exists.intro; (with_reducible refine ⟨fun w' hw' => ?_, hK _ ?_⟩); (first | exact rfl | exact ⟨rfl, rfl⟩); clear hK K))
  ((with_reducible refine wpRead_step (fun K hK => ?_)); go_simp; first | ((with_reducible refine hK _ ?_); clear hK K) | (apply Exists.intro; (with_reducible refine ⟨fun w' hw' => ?_, hK _ ?_⟩); (obtain ⟨⟨f0, f1, f2⟩, f3, f4, f5⟩ := TwoN.cells hw'; go_simp; first | exact rfl | exact ⟨rfl, rfl⟩); clear hK K))
  ((with_reducible refine wpRead_step (fun K hK => ?_)); go_simp; first | ((with_reducible refine hK _ ?_); clear hK K) | (apply Exists.intro; (with_reducible refine ⟨fun w' hw' => ?_, hK _ ?_⟩); (first | exact rfl | exact ⟨rfl, rfl⟩); clear hK K))
  ((with_reducible refine wpRead_step (fun K hK => ?_)); go_simp; first | ((with_reducible refine hK _ ?_); clear hK K) | (apply Exists.intro; (with_reducible refine ⟨fun w' hw' => ?_, hK _ ?_⟩); (obtain ⟨⟨f0, f1, f2⟩, f3, f4, f5⟩ := TwoN.cells hw'; go_simp; first | exact rfl | exact ⟨rfl, rfl⟩); clear hK K))
  ((with_reducible refine wpRead_step (fun K hK => ?_)); go_simp; first | ((with_reducible refine hK _ ?_); clear hK K) | (apply Exists.intro; (with_reducible refine ⟨fun w' hw' => ?_, hK _ ?_⟩); (first | exact rfl | exact ⟨rfl, rfl⟩); clear hK K))
  ((with_reducible refine wpRead_step (fun K hK => ?_)); go_simp; first | ((with_reducible refine hK _ ?_); clear hK K) | (apply Exists.intro; (with_reducible refine ⟨fun w' hw' => ?_, hK _ ?_⟩); (obtain ⟨⟨f0, f1, f2⟩, f3, f4, f5⟩ := TwoN.cells hw'; go_simp; first | exact rfl | exact ⟨rfl, rfl⟩); clear hK K))
  ((with_reducible refine wpRead_step (fun K hK => ?_)); go_simp; first | ((with_reducible refine hK _ ?_); clear hK K) | (apply Exists.intro; (with_reducible refine ⟨fun w' hw' => ?_, hK _ ?_⟩); (first | exact rfl | exact ⟨rfl, rfl⟩); clear hK K))
  ((with_reducible refine wpRead_step (fun K hK => ?_)); go_simp; first | ((with_reducible refine hK _ ?_); clear hK K) | (apply Exists.intro; (with_reducible refine ⟨fun w' hw' => ?_, hK _ ?_⟩); (obtain ⟨⟨f0, f1, f2⟩, f3, f4, f5⟩ := TwoN.cells hw'; go_simp; first | exact rfl | exact ⟨rfl, rfl⟩); clear hK K))
  with_reducible refine wpRead_nil ?_
  refine held_one 4 (by kernel_rfl) ?_
  simp only [pick, List.getD_cons_zero, List.getD_cons_succ]
  go_wp2_with fail
  refine (HC.out _).mono ?_
  rintro e W2 ⟨rfl, hg⟩
  have F9 := Lib.hid (And.intro (F0.out.1.trans hg) (F0.out.2.on hg.below))
  clear hg F0
  go_wp2_with fail
  refine ⟨F9.out.2, ?_⟩
  refine held_one 9 (by kernel_rfl) ?_
  simp only [pick, List.getD_cons_zero, List.getD_cons_succ]
  go_wp2_with fail
  refine (cmpi_any _ _ _).mono ?_
  rintro e W3 ⟨rfl, hw⟩
  subst hw
  go_wp2_with fail
  refine ⟨F9.out.2, ?_⟩
  have hal := (Below.refl W3.heap.size W3).alloc (Nat.le_refl _) (.cells #[.int .i64 kv, .int .i64 (cmpI a.id b.id)] 3)
  have hnb : (W3.alloc (.cells #[.int .i64 kv, .int .i64 (cmpI a.id b.id)] 3)).heap[W3.heap.size]? = some (.cells #[.int .i64 kv, .int .i64 (cmpI a.id b.id)] 3) := hnew _ _
  have F1 := Lib.hid (And.intro (F9.out.1.alloc (.cells #[.int .i64 kv, .int .i64 (cmpI a.id b.id)] 3)) (And.intro (F9.out.2.on hal) (show (W3.alloc (.cells #[.int .i64 kv, .int .i64 (cmpI a.id b.id)] 3)).cell? ⟨W3.heap.size, 0, none⟩ = some (.int .i64 kv) ∧ (W3.alloc (.cells #[.int .i64 kv, .int .i64 (cmpI a.id b.id)] 3)).cell? ⟨W3.heap.size, 1, none⟩ = some (.int .i64 (cmpI a.id b.id)) from ⟨cell_of hnb rfl, cell_of hnb rfl⟩)))
  clear hal hnb F9
  refine held_one 10 (by kernel_rfl) ?_
  simp only [pick, List.getD_cons_zero, List.getD_cons_succ]
  go_wp2_with fail
  generalize W3.alloc (.cells #[.int .i64 kv, .int .i64 (cmpI a.id b.id)] 3) = W4 at *
  generalize W3.heap.size = q2 at *
  refine ⟨F1.out.2.1, ?_⟩
  refine held_one 11 (by kernel_rfl) ?_
  simp only [pick, List.getD_cons_zero, List.getD_cons_succ]
  go_wp2_with fail
  refine (or_any F1.out.2.2).mono ?_
  rintro e W5 ⟨rfl, hw⟩
  subst hw
  rw [HV.out]
  go_wp2_with fail
  refine ⟨F1.out.2.1, ?_⟩
  refine held_one 12 (by kernel_rfl) ?_
  simp only [pick, List.getD_cons_zero, List.getD_cons_succ]
  go_wp2_with fail
  refine ⟨F1.out.2.1, ?_⟩
  refine wpAnyH_done (by kernel_rfl) ?_ _
  go_wp2_with fail
  go_ret
  exact ⟨rfl, F1.out.1⟩
theorem rncompare_any (a b : Nl) (w : World) : Calls Try.prog 21 #[a.v, b.v] w fun e w' => e = .returned (.int .i64 (cmpN a b)) ∧ Below w.heap.size w w' := by
  have hb0 := ((Below.refl w.heap.size w).alloc (Nat.le_refl _) (.cells #[.int .i64 a.id, .int .u32 (a.a : Int), .int .i64 a.ln] 41)).alloc (by simp) (.cells #[.int .i64 b.id, .int .u32 (b.a : Int), .int .i64 b.ln] 41)
  have ht : TwoN w.heap.size (w.heap.size + 1) a b ((w.alloc (.cells #[.int .i64 a.id, .int .u32 (a.a : Int), .int .i64 a.ln] 41)).alloc (.cells #[.int .i64 b.id, .int .u32 (b.a : Int), .int .i64 b.ln] 41)) := ⟨hold (hnew _ _), hnewAt (by simp)⟩
  have F0 := Lib.hid (And.intro hb0 ht)
  have HC := Lib.hid (fun W => rcompare_any a.a a.ln b.a b.ln W)
  have hcase : (cmpP a.a a.ln b.a b.ln = 0) ∨ ((cmpP a.a a.ln b.a b.ln == 0) = false ∧ cmpN a b = cmpP a.a a.ln b.a b.ln) := by
    by_cases h : cmpP a.a a.ln b.a b.ln = 0
    · exact .inl h
    · refine .inr ⟨by simpa using h, ?_⟩
      show or2 (cmpP a.a a.ln b.a b.ln) _ = _
      exact if_neg h
  have HV := Lib.hid (show cmpP a.a a.ln b.a b.ln = 0 → cmpN a b = cmpI a.id b.id from fun h => by
    show or2 (cmpP a.a a.ln b.a b.ln) _ = _
    exact if_pos h)
  obtain ⟨v, hv⟩ : ∃ v, cmpN a b = v := ⟨_, rfl⟩
  obtain ⟨kv, hkv⟩ : ∃ v, cmpP a.a a.ln b.a b.ln = v := ⟨_, rfl⟩
  rw [hv, hkv] at hcase
  rw [hv, hkv] at HV
  rw [hkv] at HC
  rw [hv]
  unfold pfx at HC
  unfold Nl.v
  clear hb0 ht hv hkv
  have f := TwoN.cells F0.out.2
  obtain ⟨⟨c0, c1, c2⟩, d0, d1, d2⟩ := f
  go_enter Try.func21, Try.ntmps21
  go_wp2_with fail
  refine (HC.out _).mono ?_
  rintro e w1 ⟨rfl, hb⟩
  have F1 := Lib.hid (And.intro (bcall F0.out.1 (by simp) hb) (F0.out.2.on hb))
  clear hb c0 c1 c2 d0 d1 d2 F0
  have f := TwoN.cells F1.out.2
  obtain ⟨⟨c0, c1, c2⟩, d0, d1, d2⟩ := f
  rcases hcase with rfl | ⟨h1, rfl⟩
  · have HW := Lib.hid (HV.out rfl)
    clear HV
    rcases Decidable.em (a.id < b.id) with h1 | h1
    · have e1 : (a.id < b.id) = True := eq_true h1
      have HI := Lib.hid (show cmpI a.id b.id = -1 from if_pos h1)
      clear h1
      go_wp2_with fail
      go_ret
      exact ⟨ret_int (by rw [HW.out, HI.out]), F1.out.1⟩
    · have e1 : (a.id < b.id) = False := eq_false h1
      rcases Decidable.em (b.id < a.id) with h2 | h2
      · have e2 : (b.id < a.id) = True := eq_true h2
        have HI := Lib.hid (show cmpI a.id b.id = 1 from (if_neg h1).trans (if_pos h2))
        clear h1 h2
        go_wp2_with fail
        go_ret
        exact ⟨ret_int (by rw [HW.out, HI.out]), F1.out.1⟩
      · have e2 : (b.id < a.id) = False := eq_false h2
        have HI := Lib.hid (show cmpI a.id b.id = 0 from (if_neg h1).trans (if_neg h2))
        clear h1 h2
        go_wp2_with fail
        go_ret
        exact ⟨ret_int (by rw [HW.out, HI.out]), F1.out.1⟩
  · go_wp2_with fail
    go_ret
    exact ⟨rfl, F1.out.1⟩
end Go.Proofs.Ytpjfgfdpngibgaa
/- Numbers of bytes. -/
namespace Go.Proofs.Ytpjfgfdpngibgaa
open Go.RowKit

/-- bytes in memory -/
def RB : Rep Nat := ⟨5, 1, by decide, fun b => [.int .u8 (b : Int)], fun _ => rfl, fun _ => rfl⟩
theorem T27 : Rep.Ty Try.prog 24 RB 1 := Rep.Ty.mk' Try.underlying24 (z := .int .u8 0) (by kernel_rfl) rfl
def Bytes (l : List Nat) : Prop := ∀ b ∈ l, b < 256
def getN (l : List Nat) : Nat := l.foldl (fun a b => 256 * a + b) 0
theorem getN_snoc (l : List Nat) (b : Nat) : getN (l ++ [b]) = 256 * getN l + b := by simp [getN, List.foldl_append]
theorem foldl_lt (l : List Nat) : ∀ a, Bytes l → l.foldl (fun a b => 256 * a + b) a < (a + 1) * 256 ^ l.length := by
  induction l with
  | nil => intro a _; simp
  | cons b r ih =>
    intro a h
    have h1 := ih (256 * a + b) (fun x hx => h x (by simp [hx]))
    have h2 := h b (by simp)
    simp only [List.foldl_cons, List.length_cons]
    refine Nat.lt_of_lt_of_le h1 ?_
    rw [Nat.pow_succ, ← Nat.mul_assoc, Nat.mul_right_comm]
    exact Nat.mul_le_mul_right _ (by omega)
theorem getN_lt (l : List Nat) (h : Bytes l) : getN l < 256 ^ l.length := by
  have := foldl_lt l 0 h
  simpa [getN] using this
theorem take_snoc {α : Type} [Inhabited α] (l : List α) (k : Nat) (h : k < l.length) : l.take (k + 1) = l.take k ++ [l.getD k default] := by
  rw [List.take_succ_eq_append_getElem h]; simp [List.getD_eq_getElem?_getD, h]
set_option maxHeartbeats 400000 in
theorem rget_any (oa : Option Addr) (n c : Nat) (l : List Nat) (w : World) (hs : RB.Sl w oa n c l) (hb : Bytes l) (h4 : n ≤ 4) : Calls Try.prog 40 #[.slice oa n c] w fun e w' => e = .returned (.int .i64 (getN l : Nat)) ∧ w' = w := by
  have HS := Lib.hid (And.intro hs hb)
  have hlen := hs.len
  have HL := Lib.hid hlen
  clear hs hb hlen
  go_enter Try.func40, Try.ntmps40
  go_wp2_with fail
  go_loop [3, 4] (fun nv iv => ∃ k : Nat, k ≤ n ∧ iv = .int .i64 k ∧ nv = .int .i64 (getN (l.take k) : Nat)) (fun _ iv => n - (intOf iv).toNat)
  case atStart => exact ⟨0, Nat.zero_le _, rfl, rfl⟩
  case round =>
    obtain ⟨k, hk, rfl, rfl⟩ := hrel
    by_cases hlt : k < n
    · obtain ⟨b, o, rfl, hbl, hat⟩ := HS.out.1.at hlt
      have hc := hat 0 (by decide)
      have hg : getN (l.take (k + 1)) = 256 * getN (l.take k) + l.getD k default := by rw [take_snoc l k (by rw [← HL.out]; exact hlt), getN_snoc]
      have hby : l.getD k default < 256 := HS.out.2 _ (getD_mem (by rw [← HL.out]; exact hlt))
      have hlt2 : getN (l.take k) < 4294967296 := by
        have h1 := getN_lt (l.take k) (fun x hx => HS.out.2 x (List.mem_of_mem_take hx))
        have h2 : (l.take k).length ≤ 4 := by rw [List.length_take]; omega
        have h3 : 256 ^ (l.take k).length ≤ 256 ^ 4 := Nat.pow_le_pow_right (by omega) h2
        omega
      generalize l.getD k default = z at *
      generalize getN (l.take k) = m at *
      simp only [RB, Nat.mul_one, Nat.add_zero, List.getElem?_cons_zero] at hc
      have HG := Lib.hid hg
      clear hg hat
      go_wp2_with fail
      go_round
      case rel => exact ⟨k + 1, by omega, by go_num, by rw [HG.out]; go_num⟩
      case measure => simp [intOf]; omega
    · have hf : ¬ ((k : Int) < n) := by omega
      have hkn : l.take k = l := List.take_of_length_le (by have := HL.out; omega)
      rw [hkn]
      clear hkn
      go_wp2_with fail
      go_ret
      exact ⟨rfl, rfl⟩
end Go.Proofs.Ytpjfgfdpngibgaa
/- A number's bytes. -/
namespace Go.Proofs.Ytpjfgfdpngibgaa
open Go.RowKit

/-- a number's bytes, the great one first -/
def be : Nat → Nat → List Nat
  | 0, _ => []
  | k + 1, n => be k (n / 256) ++ [n % 256]
theorem be_length (k n : Nat) : (be k n).length = k := by
  induction k generalizing n with
  | zero => rfl
  | succ k ih => simp [be, ih]
theorem be_bytes (k n : Nat) : Bytes (be k n) := by
  induction k generalizing n with
  | zero => intro b hb; cases hb
  | succ k ih =>
    intro b hb
    rcases List.mem_append.1 hb with h | h
    · exact ih _ b h
    · rw [List.mem_singleton.1 h]; omega
theorem getN_be (k n : Nat) (h : n < 256 ^ k) : getN (be k n) = n := by
  induction k generalizing n with
  | zero => simp only [Nat.pow_zero] at h; simp [be, getN]; omega
  | succ k ih =>
    rw [be, getN_snoc, ih]
    · omega
    · rw [Nat.pow_succ] at h; omega
theorem own2 {w : World} {base g n : Nat} (hb : base ≤ g) (h : w.heap[g]? = some (.cells #[.int .u8 ((n / 256 % 256 : Nat) : Int), .int .u8 ((n % 256 : Nat) : Int)] 5)) : RB.Own w base (.slice (some ⟨g, 0, none⟩) 2 2) (be 2 n) := by
  have hl : (be 2 n).length = 2 := be_length _ _
  have hf : RB.flat (be 2 n) = (#[.int .u8 ((n / 256 % 256 : Nat) : Int), .int .u8 ((n % 256 : Nat) : Int)] : Array Value).toList := by
    simp only [be, List.nil_append, List.cons_append, RB, Rep.flat, List.flatMap_cons, List.flatMap_nil, List.append_nil]
  unfold Rep.Own
  rw [hl, hf]
  refine ⟨rfl, .inr ⟨g, 2, _, rfl, hb, h, Nat.le_refl _, by unfold maxLen; omega, rfl, rfl⟩⟩
theorem own4 {w : World} {base g n : Nat} (hb : base ≤ g) (h : w.heap[g]? = some (.cells #[.int .u8 ((n / 16777216 % 256 : Nat) : Int), .int .u8 ((n / 65536 % 256 : Nat) : Int), .int .u8 ((n / 256 % 256 : Nat) : Int), .int .u8 ((n % 256 : Nat) : Int)] 5)) : RB.Own w base (.slice (some ⟨g, 0, none⟩) 4 4) (be 4 n) := by
  have hl : (be 4 n).length = 4 := be_length _ _
  have hf : RB.flat (be 4 n) = (#[.int .u8 ((n / 16777216 % 256 : Nat) : Int), .int .u8 ((n / 65536 % 256 : Nat) : Int), .int .u8 ((n / 256 % 256 : Nat) : Int), .int .u8 ((n % 256 : Nat) : Int)] : Array Value).toList := by
    simp only [be, List.nil_append, List.cons_append, RB, Rep.flat, List.flatMap_cons, List.flatMap_nil, List.append_nil, Nat.div_div_eq_div_mul]
  unfold Rep.Own
  rw [hl, hf]
  refine ⟨rfl, .inr ⟨g, 4, _, rfl, hb, h, Nat.le_refl _, by unfold maxLen; omega, rfl, rfl⟩⟩
set_option maxRecDepth 100000 in
set_option maxHeartbeats 400000 in
theorem put2_any (n : Nat) (hn : n < 65536) (w : World) : Calls Try.prog 65 #[.int .i64 n, .int .i64 2] w fun e w' => ∃ v, e = .returned (.tuple #[v, .int .i64 0]) ∧ RB.Own w' w.heap.size v (be 2 n) ∧ Below w.heap.size w w' := by
  have hmk : ∀ w : World, (Instr.makeSlice 24 (.int .i64 2) (.int .i64 2)).run Try.prog w = .ok (.slice (some ⟨w.heap.size, 0, none⟩) 2 2) (w.alloc (.cells #[.int .u8 0, .int .u8 0] 5)) := fun _ => by kernel_rfl
  have hq : (n : Int) / 65536 = 0 := by omega
  have hq0 : ((n : Int) < 0) = False := by simp only [eq_iff_iff, iff_false]; omega
  go_enter Try.func65, Try.ntmps65
  go_wp2_with fail
  clear hq hq0
  have hw1 : ∃ w1, w1 = w.alloc (.cells #[.int .u8 0, .int .u8 0] 5) := ⟨_, rfl⟩
  obtain ⟨w1, hw1⟩ := hw1
  have hb1 : Below w.heap.size w w1 := by rw [hw1]; exact (Below.refl w.heap.size w).alloc (Nat.le_refl _) _
  have hc1 : w1.heap[w.heap.size]? = some (.cells #[.int .u8 0, .int .u8 0] 5) := by rw [hw1]; exact hnew _ _
  rw [← hw1]
  clear hw1 hmk
  go_loopw [27] (fun iv wr => Below w.heap.size w wr ∧ ((iv = .int .i64 0 ∧ wr.heap[w.heap.size]? = some (.cells #[.int .u8 0, .int .u8 0] 5)) ∨ (iv = .int .i64 1 ∧ wr.heap[w.heap.size]? = some (.cells #[.int .u8 ((n / 256 % 256 : Nat) : Int), .int .u8 0] 5)) ∨ (iv = .int .i64 2 ∧ wr.heap[w.heap.size]? = some (.cells #[.int .u8 ((n / 256 % 256 : Nat) : Int), .int .u8 ((n % 256 : Nat) : Int)] 5)))) (fun iv _ => 2 - (intOf iv).toNat)
  case atStart => exact ⟨hb1, .inl ⟨rfl, hc1⟩⟩
  case round =>
    obtain ⟨hbr, hrel⟩ := hrel
    rcases hrel with ⟨rfl, hcr⟩ | ⟨rfl, hcr⟩ | ⟨rfl, hcr⟩
    · have e0 : ∀ o, wr.frozen? ⟨w.heap.size, o, none⟩ = false := fun o => free_of hcr
      have c0 : wr.cell? ⟨w.heap.size, 0, none⟩ = some ((.int .u8 0)) := cell_of hcr rfl
      have c1 : wr.cell? ⟨w.heap.size, 1, none⟩ = some ((.int .u8 0)) := cell_of hcr rfl
      go_wp2_with fail
      go_roundw
      case rel =>
        refine ⟨hbr.trans (((SetB.self hcr).store (o := 0) (lt_of_blk hcr) _).below (Nat.le_refl _)), .inr (.inl ⟨rfl, (((SetB.self hcr).store (o := 0) (lt_of_blk hcr) _).at (lt_of_blk hcr)).trans ?_⟩)⟩
        simp only [List.setIfInBounds_toArray, List.set_cons_zero, Option.some.injEq, Obj.cells.injEq, and_true, true_and, Array.mk.injEq, List.cons.injEq, Value.int.injEq]
        omega
      case measure => simp [intOf]
    · have e0 : ∀ o, wr.frozen? ⟨w.heap.size, o, none⟩ = false := fun o => free_of hcr
      have c0 : wr.cell? ⟨w.heap.size, 0, none⟩ = some ((.int .u8 ((n / 256 % 256 : Nat) : Int))) := cell_of hcr rfl
      have c1 : wr.cell? ⟨w.heap.size, 1, none⟩ = some ((.int .u8 0)) := cell_of hcr rfl
      go_wp2_with fail
      go_roundw
      case rel =>
        refine ⟨hbr.trans (((SetB.self hcr).store (o := 1) (lt_of_blk hcr) _).below (Nat.le_refl _)), .inr (.inr (⟨rfl, (((SetB.self hcr).store (o := 1) (lt_of_blk hcr) _).at (lt_of_blk hcr)).trans ?_⟩))⟩
        simp only [List.setIfInBounds_toArray, List.set_cons_zero, List.set_cons_succ, Option.some.injEq, Obj.cells.injEq, and_true, true_and, Array.mk.injEq, List.cons.injEq, Value.int.injEq]
        omega
      case measure => simp [intOf]
    · go_wp2_with fail
      go_ret2
      exact ⟨_, rfl, own2 (Nat.le_refl _) hcr, hbr⟩
set_option maxRecDepth 100000 in
set_option maxHeartbeats 400000 in
theorem put4_any (n : Nat) (hn : n < 4294967296) (w : World) : Calls Try.prog 65 #[.int .i64 n, .int .i64 4] w fun e w' => ∃ v, e = .returned (.tuple #[v, .int .i64 0]) ∧ RB.Own w' w.heap.size v (be 4 n) ∧ Below w.heap.size w w' := by
  have hmk : ∀ w : World, (Instr.makeSlice 24 (.int .i64 4) (.int .i64 4)).run Try.prog w = .ok (.slice (some ⟨w.heap.size, 0, none⟩) 4 4) (w.alloc (.cells #[.int .u8 0, .int .u8 0, .int .u8 0, .int .u8 0] 5)) := fun _ => by kernel_rfl
  have hq : (n : Int) / 4294967296 = 0 := by omega
  have hq0 : ((n : Int) < 0) = False := by simp only [eq_iff_iff, iff_false]; omega
  go_enter Try.func65, Try.ntmps65
  go_wp2_with fail
  clear hq hq0
  have hw1 : ∃ w1, w1 = w.alloc (.cells #[.int .u8 0, .int .u8 0, .int .u8 0, .int .u8 0] 5) := ⟨_, rfl⟩
  obtain ⟨w1, hw1⟩ := hw1
  have hb1 : Below w.heap.size w w1 := by rw [hw1]; exact (Below.refl w.heap.size w).alloc (Nat.le_refl _) _
  have hc1 : w1.heap[w.heap.size]? = some (.cells #[.int .u8 0, .int .u8 0, .int .u8 0, .int .u8 0] 5) := by rw [hw1]; exact hnew _ _
  rw [← hw1]
  clear hw1 hmk
  go_loopw [27] (fun iv wr => Below w.heap.size w wr ∧ ((iv = .int .i64 0 ∧ wr.heap[w.heap.size]? = some (.cells #[.int .u8 0, .int .u8 0, .int .u8 0, .int .u8 0] 5)) ∨ (iv = .int .i64 1 ∧ wr.heap[w.heap.size]? = some (.cells #[.int .u8 ((n / 16777216 % 256 : Nat) : Int), .int .u8 0, .int .u8 0, .int .u8 0] 5)) ∨ (iv = .int .i64 2 ∧ wr.heap[w.heap.size]? = some (.cells #[.int .u8 ((n / 16777216 % 256 : Nat) : Int), .int .u8 ((n / 65536 % 256 : Nat) : Int), .int .u8 0, .int .u8 0] 5)) ∨ (iv = .int .i64 3 ∧ wr.heap[w.heap.size]? = some (.cells #[.int .u8 ((n / 16777216 % 256 : Nat) : Int), .int .u8 ((n / 65536 % 256 : Nat) : Int), .int .u8 ((n / 256 % 256 : Nat) : Int), .int .u8 0] 5)) ∨ (iv = .int .i64 4 ∧ wr.heap[w.heap.size]? = some (.cells #[.int .u8 ((n / 16777216 % 256 : Nat) : Int), .int .u8 ((n / 65536 % 256 : Nat) : Int), .int .u8 ((n / 256 % 256 : Nat) : Int), .int .u8 ((n % 256 : Nat) : Int)] 5)))) (fun iv _ => 4 - (intOf iv).toNat)
  case atStart => exact ⟨hb1, .inl ⟨rfl, hc1⟩⟩
  case round =>
    obtain ⟨hbr, hrel⟩ := hrel
    rcases hrel with ⟨rfl, hcr⟩ | ⟨rfl, hcr⟩ | ⟨rfl, hcr⟩ | ⟨rfl, hcr⟩ | ⟨rfl, hcr⟩
    · have e0 : ∀ o, wr.frozen? ⟨w.heap.size, o, none⟩ = false := fun o => free_of hcr
      have c0 : wr.cell? ⟨w.heap.size, 0, none⟩ = some ((.int .u8 0)) := cell_of hcr rfl
      have c1 : wr.cell? ⟨w.heap.size, 1, none⟩ = some ((.int .u8 0)) := cell_of hcr rfl
      have c2 : wr.cell? ⟨w.heap.size, 2, none⟩ = some ((.int .u8 0)) := cell_of hcr rfl
      have c3 : wr.cell? ⟨w.heap.size, 3, none⟩ = some ((.int .u8 0)) := cell_of hcr rfl
      go_wp2_with fail
      go_roundw
      case rel =>
        refine ⟨hbr.trans (((SetB.self hcr).store (o := 0) (lt_of_blk hcr) _).below (Nat.le_refl _)), .inr (.inl ⟨rfl, (((SetB.self hcr).store (o := 0) (lt_of_blk hcr) _).at (lt_of_blk hcr)).trans ?_⟩)⟩
        simp only [List.setIfInBounds_toArray, List.set_cons_zero, Option.some.injEq, Obj.cells.injEq, and_true, true_and, Array.mk.injEq, List.cons.injEq, Value.int.injEq]
        omega
      case measure => simp [intOf]
    · have e0 : ∀ o, wr.frozen? ⟨w.heap.size, o, none⟩ = false := fun o => free_of hcr
      have c0 : wr.cell? ⟨w.heap.size, 0, none⟩ = some ((.int .u8 ((n / 16777216 % 256 : Nat) : Int))) := cell_of hcr rfl
      have c1 : wr.cell? ⟨w.heap.size, 1, none⟩ = some ((.int .u8 0)) := cell_of hcr rfl
      have c2 : wr.cell? ⟨w.heap.size, 2, none⟩ = some ((.int .u8 0)) := cell_of hcr rfl
      have c3 : wr.cell? ⟨w.heap.size, 3, none⟩ = some ((.int .u8 0)) := cell_of hcr rfl
      go_wp2_with fail
      go_roundw
      case rel =>
        refine ⟨hbr.trans (((SetB.self hcr).store (o := 1) (lt_of_blk hcr) _).below (Nat.le_refl _)), .inr (.inr (.inl ⟨rfl, (((SetB.self hcr).store (o := 1) (lt_of_blk hcr) _).at (lt_of_blk hcr)).trans ?_⟩))⟩
        simp only [List.setIfInBounds_toArray, List.set_cons_zero, List.set_cons_succ, Option.some.injEq, Obj.cells.injEq, and_true, true_and, Array.mk.injEq, List.cons.injEq, Value.int.injEq]
        omega
      case measure => simp [intOf]
    · have e0 : ∀ o, wr.frozen? ⟨w.heap.size, o, none⟩ = false := fun o => free_of hcr
      have c0 : wr.cell? ⟨w.heap.size, 0, none⟩ = some ((.int .u8 ((n / 16777216 % 256 : Nat) : Int))) := cell_of hcr rfl
      have c1 : wr.cell? ⟨w.heap.size, 1, none⟩ = some ((.int .u8 ((n / 65536 % 256 : Nat) : Int))) := cell_of hcr rfl
      have c2 : wr.cell? ⟨w.heap.size, 2, none⟩ = some ((.int .u8 0)) := cell_of hcr rfl
      have c3 : wr.cell? ⟨w.heap.size, 3, none⟩ = some ((.int .u8 0)) := cell_of hcr rfl
      go_wp2_with fail
      go_roundw
      case rel =>
        refine ⟨hbr.trans (((SetB.self hcr).store (o := 2) (lt_of_blk hcr) _).below (Nat.le_refl _)), .inr (.inr (.inr (.inl ⟨rfl, (((SetB.self hcr).store (o := 2) (lt_of_blk hcr) _).at (lt_of_blk hcr)).trans ?_⟩)))⟩
        simp only [List.setIfInBounds_toArray, List.set_cons_zero, List.set_cons_succ, Option.some.injEq, Obj.cells.injEq, and_true, true_and, Array.mk.injEq, List.cons.injEq, Value.int.injEq]
        omega
      case measure => simp [intOf]
    · have e0 : ∀ o, wr.frozen? ⟨w.heap.size, o, none⟩ = false := fun o => free_of hcr
      have c0 : wr.cell? ⟨w.heap.size, 0, none⟩ = some ((.int .u8 ((n / 16777216 % 256 : Nat) : Int))) := cell_of hcr rfl
      have c1 : wr.cell? ⟨w.heap.size, 1, none⟩ = some ((.int .u8 ((n / 65536 % 256 : Nat) : Int))) := cell_of hcr rfl
      have c2 : wr.cell? ⟨w.heap.size, 2, none⟩ = some ((.int .u8 ((n / 256 % 256 : Nat) : Int))) := cell_of hcr rfl
      have c3 : wr.cell? ⟨w.heap.size, 3, none⟩ = some ((.int .u8 0)) := cell_of hcr rfl
      go_wp2_with fail
      go_roundw
      case rel =>
        refine ⟨hbr.trans (((SetB.self hcr).store (o := 3) (lt_of_blk hcr) _).below (Nat.le_refl _)), .inr (.inr (.inr (.inr (⟨rfl, (((SetB.self hcr).store (o := 3) (lt_of_blk hcr) _).at (lt_of_blk hcr)).trans ?_⟩))))⟩
        simp only [List.setIfInBounds_toArray, List.set_cons_zero, List.set_cons_succ, Option.some.injEq, Obj.cells.injEq, and_true, true_and, Array.mk.injEq, List.cons.injEq, Value.int.injEq]
        omega
      case measure => simp [intOf]
    · go_wp2_with fail
      go_ret2
      exact ⟨_, rfl, own4 (Nat.le_refl _) hcr, hbr⟩
set_option maxRecDepth 100000 in
set_option maxHeartbeats 400000 in
theorem rput2_any (n : Nat) (hn : n < 65536) (w : World) : Calls Try.prog 43 #[.int .i64 n, .int .i64 2] w fun e w' => ∃ v, e = .returned v ∧ RB.Own w' w.heap.size v (be 2 n) ∧ Below w.heap.size w w' := by
  have hmk : ∀ w : World, (Instr.makeSlice 24 (.int .i64 2) (.int .i64 2)).run Try.prog w = .ok (.slice (some ⟨w.heap.size, 0, none⟩) 2 2) (w.alloc (.cells #[.int .u8 0, .int .u8 0] 5)) := fun _ => by kernel_rfl
  go_enter Try.func43, Try.ntmps43
  go_wp2_with fail
  have hw1 : ∃ w1, w1 = w.alloc (.cells #[.int .u8 0, .int .u8 0] 5) := ⟨_, rfl⟩
  obtain ⟨w1, hw1⟩ := hw1
  have hb1 : Below w.heap.size w w1 := by rw [hw1]; exact (Below.refl w.heap.size w).alloc (Nat.le_refl _) _
  have hc1 : w1.heap[w.heap.size]? = some (.cells #[.int .u8 0, .int .u8 0] 5) := by rw [hw1]; exact hnew _ _
  rw [← hw1]
  clear hw1 hmk
  go_loopw [0, 6] (fun nv iv wr => Below w.heap.size w wr ∧ ((nv = .int .i64 ((n / 1 : Nat) : Int) ∧ iv = .int .i64 (1) ∧ wr.heap[w.heap.size]? = some (.cells #[.int .u8 0, .int .u8 0] 5)) ∨ (nv = .int .i64 ((n / 256 : Nat) : Int) ∧ iv = .int .i64 (0) ∧ wr.heap[w.heap.size]? = some (.cells #[.int .u8 0, .int .u8 ((n % 256 : Nat) : Int)] 5)) ∨ (nv = .int .i64 ((n / 65536 : Nat) : Int) ∧ iv = .int .i64 (-1) ∧ wr.heap[w.heap.size]? = some (.cells #[.int .u8 ((n / 256 % 256 : Nat) : Int), .int .u8 ((n % 256 : Nat) : Int)] 5)))) (fun _ iv _ => (intOf iv + 1).toNat)
  case atStart => exact ⟨hb1, .inl ⟨by simp, rfl, hc1⟩⟩
  case round =>
    obtain ⟨hbr, hrel⟩ := hrel
    rcases hrel with ⟨rfl, rfl, hcr⟩ | ⟨rfl, rfl, hcr⟩ | ⟨rfl, rfl, hcr⟩
    · have e0 : ∀ o, wr.frozen? ⟨w.heap.size, o, none⟩ = false := fun o => free_of hcr
      have c0 : wr.cell? ⟨w.heap.size, 0, none⟩ = some ((.int .u8 0)) := cell_of hcr rfl
      have c1 : wr.cell? ⟨w.heap.size, 1, none⟩ = some ((.int .u8 0)) := cell_of hcr rfl
      go_wp2_with fail
      go_roundw
      case rel =>
        refine ⟨hbr.trans (((SetB.self hcr).store (o := 1) (lt_of_blk hcr) _).below (Nat.le_refl _)), .inr (.inl ⟨by simp only [Value.int.injEq, true_and]; omega, rfl, (((SetB.self hcr).store (o := 1) (lt_of_blk hcr) _).at (lt_of_blk hcr)).trans ?_⟩)⟩
        simp only [List.setIfInBounds_toArray, List.set_cons_zero, List.set_cons_succ, Option.some.injEq, Obj.cells.injEq, and_true, true_and, Array.mk.injEq, List.cons.injEq, Value.int.injEq]
        omega
      case measure => simp [intOf]
    · have e0 : ∀ o, wr.frozen? ⟨w.heap.size, o, none⟩ = false := fun o => free_of hcr
      have c0 : wr.cell? ⟨w.heap.size, 0, none⟩ = some ((.int .u8 0)) := cell_of hcr rfl
      have c1 : wr.cell? ⟨w.heap.size, 1, none⟩ = some ((.int .u8 ((n % 256 : Nat) : Int))) := cell_of hcr rfl
      go_wp2_with fail
      go_roundw
      case rel =>
        refine ⟨hbr.trans (((SetB.self hcr).store (o := 0) (lt_of_blk hcr) _).below (Nat.le_refl _)), .inr (.inr (⟨by simp only [Value.int.injEq, true_and]; omega, rfl, (((SetB.self hcr).store (o := 0) (lt_of_blk hcr) _).at (lt_of_blk hcr)).trans ?_⟩))⟩
        simp only [List.setIfInBounds_toArray, List.set_cons_zero, Option.some.injEq, Obj.cells.injEq, and_true, true_and, Array.mk.injEq, List.cons.injEq, Value.int.injEq]
        omega
      case measure => simp [intOf]
    · go_wp2_with fail
      go_ret
      exact ⟨_, rfl, own2 (Nat.le_refl _) hcr, hbr⟩
set_option maxRecDepth 100000 in
set_option maxHeartbeats 400000 in
theorem rput4_any (n : Nat) (hn : n < 4294967296) (w : World) : Calls Try.prog 43 #[.int .i64 n, .int .i64 4] w fun e w' => ∃ v, e = .returned v ∧ RB.Own w' w.heap.size v (be 4 n) ∧ Below w.heap.size w w' := by
  have hmk : ∀ w : World, (Instr.makeSlice 24 (.int .i64 4) (.int .i64 4)).run Try.prog w = .ok (.slice (some ⟨w.heap.size, 0, none⟩) 4 4) (w.alloc (.cells #[.int .u8 0, .int .u8 0, .int .u8 0, .int .u8 0] 5)) := fun _ => by kernel_rfl
  go_enter Try.func43, Try.ntmps43
  go_wp2_with fail
  have hw1 : ∃ w1, w1 = w.alloc (.cells #[.int .u8 0, .int .u8 0, .int .u8 0, .int .u8 0] 5) := ⟨_, rfl⟩
  obtain ⟨w1, hw1⟩ := hw1
  have hb1 : Below w.heap.size w w1 := by rw [hw1]; exact (Below.refl w.heap.size w).alloc (Nat.le_refl _) _
  have hc1 : w1.heap[w.heap.size]? = some (.cells #[.int .u8 0, .int .u8 0, .int .u8 0, .int .u8 0] 5) := by rw [hw1]; exact hnew _ _
  rw [← hw1]
  clear hw1 hmk
  go_loopw [0, 6] (fun nv iv wr => Below w.heap.size w wr ∧ ((nv = .int .i64 ((n / 1 : Nat) : Int) ∧ iv = .int .i64 (3) ∧ wr.heap[w.heap.size]? = some (.cells #[.int .u8 0, .int .u8 0, .int .u8 0, .int .u8 0] 5)) ∨ (nv = .int .i64 ((n / 256 : Nat) : Int) ∧ iv = .int .i64 (2) ∧ wr.heap[w.heap.size]? = some (.cells #[.int .u8 0, .int .u8 0, .int .u8 0, .int .u8 ((n % 256 : Nat) : Int)] 5)) ∨ (nv = .int .i64 ((n / 65536 : Nat) : Int) ∧ iv = .int .i64 (1) ∧ wr.heap[w.heap.size]? = some (.cells #[.int .u8 0, .int .u8 0, .int .u8 ((n / 256 % 256 : Nat) : Int), .int .u8 ((n % 256 : Nat) : Int)] 5)) ∨ (nv = .int .i64 ((n / 16777216 : Nat) : Int) ∧ iv = .int .i64 (0) ∧ wr.heap[w.heap.size]? = some (.cells #[.int .u8 0, .int .u8 ((n / 65536 % 256 : Nat) : Int), .int .u8 ((n / 256 % 256 : Nat) : Int), .int .u8 ((n % 256 : Nat) : Int)] 5)) ∨ (nv = .int .i64 ((n / 4294967296 : Nat) : Int) ∧ iv = .int .i64 (-1) ∧ wr.heap[w.heap.size]? = some (.cells #[.int .u8 ((n / 16777216 % 256 : Nat) : Int), .int .u8 ((n / 65536 % 256 : Nat) : Int), .int .u8 ((n / 256 % 256 : Nat) : Int), .int .u8 ((n % 256 : Nat) : Int)] 5)))) (fun _ iv _ => (intOf iv + 1).toNat)
  case atStart => exact ⟨hb1, .inl ⟨by simp, rfl, hc1⟩⟩
  case round =>
    obtain ⟨hbr, hrel⟩ := hrel
    rcases hrel with ⟨rfl, rfl, hcr⟩ | ⟨rfl, rfl, hcr⟩ | ⟨rfl, rfl, hcr⟩ | ⟨rfl, rfl, hcr⟩ | ⟨rfl, rfl, hcr⟩
    · have e0 : ∀ o, wr.frozen? ⟨w.heap.size, o, none⟩ = false := fun o => free_of hcr
      have c0 : wr.cell? ⟨w.heap.size, 0, none⟩ = some ((.int .u8 0)) := cell_of hcr rfl
      have c1 : wr.cell? ⟨w.heap.size, 1, none⟩ = some ((.int .u8 0)) := cell_of hcr rfl
      have c2 : wr.cell? ⟨w.heap.size, 2, none⟩ = some ((.int .u8 0)) := cell_of hcr rfl
      have c3 : wr.cell? ⟨w.heap.size, 3, none⟩ = some ((.int .u8 0)) := cell_of hcr rfl
      go_wp2_with fail
      go_roundw
      case rel =>
        refine ⟨hbr.trans (((SetB.self hcr).store (o := 3) (lt_of_blk hcr) _).below (Nat.le_refl _)), .inr (.inl ⟨by simp only [Value.int.injEq, true_and]; omega, rfl, (((SetB.self hcr).store (o := 3) (lt_of_blk hcr) _).at (lt_of_blk hcr)).trans ?_⟩)⟩
        simp only [List.setIfInBounds_toArray, List.set_cons_zero, List.set_cons_succ, Option.some.injEq, Obj.cells.injEq, and_true, true_and, Array.mk.injEq, List.cons.injEq, Value.int.injEq]
        omega
      case measure => simp [intOf]
    · have e0 : ∀ o, wr.frozen? ⟨w.heap.size, o, none⟩ = false := fun o => free_of hcr
      have c0 : wr.cell? ⟨w.heap.size, 0, none⟩ = some ((.int .u8 0)) := cell_of hcr rfl
      have c1 : wr.cell? ⟨w.heap.size, 1, none⟩ = some ((.int .u8 0)) := cell_of hcr rfl
      have c2 : wr.cell? ⟨w.heap.size, 2, none⟩ = some ((.int .u8 0)) := cell_of hcr rfl
      have c3 : wr.cell? ⟨w.heap.size, 3, none⟩ = some ((.int .u8 ((n % 256 : Nat) : Int))) := cell_of hcr rfl
      go_wp2_with fail
      go_roundw
      case rel =>
        refine ⟨hbr.trans (((SetB.self hcr).store (o := 2) (lt_of_blk hcr) _).below (Nat.le_refl _)), .inr (.inr (.inl ⟨by simp only [Value.int.injEq, true_and]; omega, rfl, (((SetB.self hcr).store (o := 2) (lt_of_blk hcr) _).at (lt_of_blk hcr)).trans ?_⟩))⟩
        simp only [List.setIfInBounds_toArray, List.set_cons_zero, List.set_cons_succ, Option.some.injEq, Obj.cells.injEq, and_true, true_and, Array.mk.injEq, List.cons.injEq, Value.int.injEq]
        omega
      case measure => simp [intOf]
    · have e0 : ∀ o, wr.frozen? ⟨w.heap.size, o, none⟩ = false := fun o => free_of hcr
      have c0 : wr.cell? ⟨w.heap.size, 0, none⟩ = some ((.int .u8 0)) := cell_of hcr rfl
      have c1 : wr.cell? ⟨w.heap.size, 1, none⟩ = some ((.int .u8 0)) := cell_of hcr rfl
      have c2 : wr.cell? ⟨w.heap.size, 2, none⟩ = some ((.int .u8 ((n / 256 % 256 : Nat) : Int))) := cell_of hcr rfl
      have c3 : wr.cell? ⟨w.heap.size, 3, none⟩ = some ((.int .u8 ((n % 256 : Nat) : Int))) := cell_of hcr rfl
      go_wp2_with fail
      go_roundw
      case rel =>
        refine ⟨hbr.trans (((SetB.self hcr).store (o := 1) (lt_of_blk hcr) _).below (Nat.le_refl _)), .inr (.inr (.inr (.inl ⟨by simp only [Value.int.injEq, true_and]; omega, rfl, (((SetB.self hcr).store (o := 1) (lt_of_blk hcr) _).at (lt_of_blk hcr)).trans ?_⟩)))⟩
        simp only [List.setIfInBounds_toArray, List.set_cons_zero, List.set_cons_succ, Option.some.injEq, Obj.cells.injEq, and_true, true_and, Array.mk.injEq, List.cons.injEq, Value.int.injEq]
        omega
      case measure => simp [intOf]
    · have e0 : ∀ o, wr.frozen? ⟨w.heap.size, o, none⟩ = false := fun o => free_of hcr
      have c0 : wr.cell? ⟨w.heap.size, 0, none⟩ = some ((.int .u8 0)) := cell_of hcr rfl
      have c1 : wr.cell? ⟨w.heap.size, 1, none⟩ = some ((.int .u8 ((n / 65536 % 256 : Nat) : Int))) := cell_of hcr rfl
      have c2 : wr.cell? ⟨w.heap.size, 2, none⟩ = some ((.int .u8 ((n / 256 % 256 : Nat) : Int))) := cell_of hcr rfl
      have c3 : wr.cell? ⟨w.heap.size, 3, none⟩ = some ((.int .u8 ((n % 256 : Nat) : Int))) := cell_of hcr rfl
      go_wp2_with fail
      go_roundw
      case rel =>
        refine ⟨hbr.trans (((SetB.self hcr).store (o := 0) (lt_of_blk hcr) _).below (Nat.le_refl _)), .inr (.inr (.inr (.inr (⟨by simp only [Value.int.injEq, true_and]; omega, rfl, (((SetB.self hcr).store (o := 0) (lt_of_blk hcr) _).at (lt_of_blk hcr)).trans ?_⟩))))⟩
        simp only [List.setIfInBounds_toArray, List.set_cons_zero, Option.some.injEq, Obj.cells.injEq, and_true, true_and, Array.mk.injEq, List.cons.injEq, Value.int.injEq]
        omega
      case measure => simp [intOf]
    · go_wp2_with fail
      go_ret
      exact ⟨_, rfl, own4 (Nat.le_refl _) hcr, hbr⟩
end Go.Proofs.Ytpjfgfdpngibgaa
/- Slices of bytes: Clone, Grow. -/
namespace Go.Proofs.Ytpjfgfdpngibgaa
open Go.RowKit

/-- a slice that reads as bytes -/
structure BS (w : World) (oa : Option Addr) (n c : Nat) (l : List Nat) : Prop where
  sl : RB.Sl w oa n c l
  nil : oa = none → c = 0
  le : n ≤ c
  cap : c ≤ maxLen
  ad : oa = none ∨ ∃ b o, oa = some ⟨b, o, none⟩
theorem BS.below {w w' : World} {oa : Option Addr} {n c : Nat} {l : List Nat} (h : BS w oa n c l) (hb : Below w.heap.size w w') : BS w' oa n c l := ⟨h.sl.keep hb, h.nil, h.le, h.cap, h.ad⟩
theorem bs_own {w : World} {base : Nat} {v : Value} {l : List Nat} (h : RB.Own w base v l) : ∃ oa c, v = .slice oa l.length c ∧ BS w oa l.length c l := by
  obtain ⟨oa, c, rfl, hlc, hcm, hsl, -⟩ := h.sl
  refine ⟨oa, c, rfl, hsl, ?_, hlc, hcm, ?_⟩
  · rintro rfl
    rcases h.cases with ⟨hv, _⟩ | ⟨g, cap, hv, _⟩
    · injection hv
    · cases hv
  · rcases h.cases with ⟨hv, _⟩ | ⟨g, cap, hv, _⟩
    · injection hv; exact .inl ‹_›
    · injection hv; exact .inr ⟨g, 0, ‹_›⟩
theorem rb_empty (w : World) : RB.Own (w.alloc (.cells #[] 5)) w.heap.size (.slice (some ⟨w.heap.size, 0, none⟩) 0 0) [] :=
  ⟨rfl, .inr ⟨w.heap.size, 0, #[], rfl, Nat.le_refl _, hnew _ _, Nat.le_refl _, by unfold maxLen; omega, rfl, rfl⟩⟩
theorem step_append2 {P : Program} {ops : Array Oper} {Q : Exit → Act → World → Prop} {rest : List Oper} {o : Oper} {a : Act} {w : World} {t t2 : TypeId} {v u v' : Value} {w' : World} (hgd : o.guard = none) (s x : Operand) (ho : o.op = .call { callee := .builtin .append, args := #[s, x], argTypes := #[t, t2] }) (hs : a.eval s = v) (hx : a.eval x = u)
    (hrun : (Builtin.append_ #[t, t2] o.type #[v, u]).run P w = .ok v' w') (h : wpList P ops Q rest (a.put o.dst v') w') : wpList P ops Q (o :: rest) a w :=
  wpList_plain hgd fun K hK => by
    have hk := hK _ _ h
    unfold Oper.wp execOp
    simp only [ho, resolve, invoke, builtin, Sem.run_bind, Sem.run_pure, Result.andThen_ok, List.map_toArray, List.map_cons, List.map_nil, hs, hx, hrun]
    exact hk
set_option maxRecDepth 100000 in
set_option maxHeartbeats 400000 in
theorem clone_any {w : World} {oa : Option Addr} {n c : Nat} {l : List Nat} (h : RB.Sl w oa n c l) (hnil : oa = none → c = 0) (hn : n ≤ 1000000000) : Calls Try.prog 99 #[.slice oa n c] w fun e w' => ∃ v, e = .returned v ∧ RB.Own w' w.heap.size v l ∧ Below w.heap.size w w' := by
  cases oa with
  | none =>
    have hc := hnil rfl
    subst hc
    have hl : l = [] := by
      rcases Nat.eq_zero_or_pos n with h0 | h0
      · have := h.len; rw [h0] at this; exact List.length_eq_zero_iff.1 this.symm
      · obtain ⟨b, o, h1, _⟩ := h.row h0; cases h1
    subst hl
    obtain rfl : n = 0 := h.len
    have heq : ∀ w, (binOp .eql 24 (.slice none 0 0) (.slice none 0 0)).run Try.prog w = .ok (.bool true) w := fun w => by kernel_rfl
    go_enter Try.func99, Try.ntmps99
    go_wp2_with fail
    go_ret
    exact ⟨_, rfl, Rep.Own.nil _ _, Below.refl _ _⟩
  | some ad =>
    have H := Lib.hid (And.intro h hnil)
    clear h hnil
    have heq : ∀ w, (binOp .eql 24 (.slice (some ad) n c) (.slice none 0 0)).run Try.prog w = .ok (.bool false) w := fun w => by kernel_rfl
    go_enter Try.func99, Try.ntmps99
    go_wp2_with (at_builtin; refine halt ?_)
    refine Halted.go ?_
    have hal := (Below.refl w.heap.size w).alloc (Nat.le_refl _) (.cells #[] 5)
    refine Rep.append_list T27 rfl _ _ rfl (base := w.heap.size) (L := []) (M := l) rfl (rb_empty w) rfl (H.out.1.keep hal) (fun h => (by cases h)) (by unfold maxLen; simp; omega) (by simp; omega) (by simp) ?_
    intro v3 w3 hown3 hb3 _
    have HF := Lib.hid (And.intro hown3 (hal.trans hb3))
    clear hown3 hb3 hal
    go_wp2_with fail
    go_ret
    exact ⟨_, rfl, HF.out.1, HF.out.2⟩
theorem info5 : (Try.prog.info? 5).map (fun i => (i.zero, i.size, i.bytes)) = some (some (.int .u8 0), 1, 1) := by kernel_rfl
set_option maxRecDepth 100000 in
set_option maxHeartbeats 400000 in
theorem grow_nil (n : Nat) (hn : n ≤ 1000000000) (w : World) : Calls Try.prog 117 #[.slice none 0 0, .int .i64 n] w fun e w' => ∃ v, e = .returned v ∧ RB.Own w' w.heap.size v [] ∧ Below w.heap.size w w' := by
  have h0 : ((n : Int) < 0) = False := by simp only [eq_iff_iff, iff_false]; omega
  by_cases hz : n = 0
  · subst hz
    go_enter Try.func117, Try.ntmps117
    go_wp2_with fail
    go_ret
    exact ⟨_, rfl, Rep.Own.nil _ _, Below.refl _ _⟩
  · have h1 : (0 < n) = True := by simp only [eq_iff_iff, iff_true]; omega
    have h3 : ((0 : Int) < n) = True := by simp only [eq_iff_iff, iff_true]; omega
    have h2 : wrap64 (n : Int) = n := by unfold wrap64; omega
    obtain ⟨i, hi, hiz, his, hib⟩ := info_parts info5
    have hrun : ∀ ty, (Builtin.append_ #[24, 3] ty #[.slice none 0 0, .int .i64 n]).run Try.prog w = _ := fun ty => Lib.run_append_grow_zeros w 24 3 ty 5 i (.int .u8 0) .i64 .i64 Try.underlying24 Try.underlying3 hi hiz none 0 0 [] (by rw [his]; simp [Builtin.firstCells]) n (by omega) (by omega) (by omega) (by omega) (by rw [hib]; omega) (growslice_fits (by omega) (by rw [hib]; omega))
    have H := Lib.hid hrun
    clear hrun hz
    go_enter Try.func117, Try.ntmps117
    go_wp2_with (refine step_append2 rfl (.tmp 20) (.tmp 21) rfl rfl rfl (H.out _) ?_)
    have hcap := grownCap_le_maxLen w n 0 5 (by unfold maxLen; omega)
    have hge := grownCap_ge w n 0 5
    go_ret
    refine ⟨_, rfl, ⟨rfl, .inr ⟨w.heap.size, _, _, rfl, Nat.le_refl _, hnew _ _, Nat.zero_le _, hcap, ?_, rfl⟩⟩, ((Below.refl w.heap.size w).alloc (Nat.le_refl _) _).drew⟩
    rw [Array.size_append, size_zeroCells, size_zeroCells]
    show n * 1 + (grownCap w n 0 5 - n) * 1 = grownCap w n 0 5 * 1
    omega
end Go.Proofs.Ytpjfgfdpngibgaa
/- Concat. -/
namespace Go.Proofs.Ytpjfgfdpngibgaa
open Go.RowKit

/-- a slice's header -/
def RH : Rep (Option Addr × Nat × Nat) := ⟨24, 1, by decide, fun x => [.slice x.1 x.2.1 x.2.2], fun _ => rfl, fun _ => rfl⟩
/-- slices that read as lists of bytes -/
structure BSS (w : World) (vs : List (Option Addr × Nat × Nat)) (ls : List (List Nat)) : Prop where
  len : vs.length = ls.length
  all : ∀ j, j < ls.length → RB.Sl w (vs.getD j default).1 (vs.getD j default).2.1 (vs.getD j default).2.2 (ls.getD j []) ∧ ((vs.getD j default).1 = none → (vs.getD j default).2.2 = 0)
theorem BSS.keep {w w' : World} {vs : List (Option Addr × Nat × Nat)} {ls : List (List Nat)} (h : BSS w vs ls) (hb : Below w.heap.size w w') : BSS w' vs ls := ⟨h.len, fun j hj => ⟨(h.all j hj).1.keep hb, (h.all j hj).2⟩⟩
def lsum (ls : List (List Nat)) : Nat := ls.flatten.length
theorem lsum_take {ls : List (List Nat)} {i : Nat} (h : i < ls.length) : lsum (ls.take (i + 1)) = lsum (ls.take i) + (ls.getD i []).length ∧ (ls.take (i + 1)).flatten = (ls.take i).flatten ++ ls.getD i [] := by
  have h1 : ls.take (i + 1) = ls.take i ++ [ls.getD i []] := by rw [List.take_succ_eq_append_getElem h]; simp [List.getD_eq_getElem?_getD, h]
  unfold lsum
  rw [h1, List.flatten_append, List.length_append]
  simp
theorem lsum_le (ls : List (List Nat)) (i : Nat) : lsum (ls.take i) ≤ lsum ls := by
  unfold lsum
  have h : ls.flatten = (ls.take i).flatten ++ (ls.drop i).flatten := by rw [← List.flatten_append, List.take_append_drop]
  rw [h, List.length_append]; omega
set_option maxRecDepth 100000 in
set_option maxHeartbeats 1000000 in
theorem concat_any {w : World} {oa : Option Addr} {n c : Nat} {vs : List (Option Addr × Nat × Nat)} {ls : List (List Nat)} (h : RH.Sl w oa n c vs) (hs : BSS w vs ls) (hn : n ≤ 1000) (hl : lsum ls ≤ 1000000) : Calls Try.prog 96 #[.slice oa n c] w fun e w' => ∃ v, e = .returned v ∧ RB.Own w' w.heap.size v ls.flatten ∧ Below w.heap.size w w' := by
  have hnl : n = ls.length := h.len.trans hs.len
  have H := Lib.hid (And.intro h hs)
  clear h hs
  go_enter Try.func96, Try.ntmps96
  go_wp2_with fail
  go_loopw [3, 11] (fun sv iv wr => ∃ i : Nat, i ≤ n ∧ iv = .int .i64 i ∧ sv = .int .i64 (lsum (ls.take i) : Nat) ∧ wr = w) (fun _ iv _ => n - (intOf iv).toNat)
  case atStart => exact ⟨0, Nat.zero_le _, rfl, rfl, rfl⟩
  case round =>
    obtain ⟨i, hi, rfl, rfl, rfl⟩ := hrel
    by_cases hlt : i < n
    · obtain ⟨bb, oo, rfl, hbb, hat⟩ := H.out.1.at hlt
      have c0 := hat 0 (by decide)
      simp only [RH, Nat.mul_one, Nat.add_zero, List.getElem?_cons_zero] at c0
      have hall := H.out.2.all i (by omega)
      have hlen := hall.1.len
      obtain ⟨h1, -⟩ := lsum_take (ls := ls) (i := i) (by omega)
      have h2 := lsum_le ls i
      have h3 := lsum_le ls (i + 1)
      have hil : ((i : Int) < (n : Int)) = True := by simp; omega
      generalize vs.getD i default = x at *
      generalize ls.getD i [] = y at *
      generalize hA : lsum (ls.take i) = A at *
      generalize hB : lsum (ls.take (i + 1)) = B at *
      have hw : IntKind.i64.wrap ((A : Int) + (x.2.1 : Int)) = (B : Int) := by rw [IntWalk.i64_in _ (by omega)]; omega
      have hw0 : ((B : Int) < 0) = False := by simp only [eq_iff_iff, iff_false]; omega
      have HB := Lib.hid hB
      clear hall hat hA hB
      go_wp2_with fail
      exact ⟨⟨i + 1, by omega, by rw [Int.natCast_succ], by rw [HB.out, ← hw, IntWalk.i64_in _ (by omega), hlen], trivial⟩, by show n - ((i : Int) + 1).toNat < n - (i : Int).toNat; omega⟩
    · obtain rfl : n = i := by omega
      have hil : ((n : Int) < (n : Int)) = False := by simp
      have hs : lsum (ls.take n) = lsum ls := by rw [hnl, List.take_length]
      rw [hs]
      clear hs
      go_wp2_with fail
      obtain ⟨w0, rfl⟩ : ∃ w0 : World, w0 = wr := ⟨_, rfl⟩
      refine (grow_nil (lsum ls) (by omega) _).mono ?_
      rintro e w1 ⟨v1, rfl, ho1, hb1⟩
      have HF := Lib.hid (And.intro ho1 hb1)
      clear ho1 hb1
      go_wp2_with fail
      go_loopw [6, 27] (fun sv iv wr2 => ∃ i : Nat, i ≤ n ∧ iv = .int .i64 i ∧ RB.Own wr2 w0.heap.size sv (ls.take i).flatten ∧ Below w0.heap.size w0 wr2) (fun _ iv _ => n - (intOf iv).toNat)
      case atStart => exact ⟨0, Nat.zero_le _, rfl, HF.out.1, HF.out.2⟩
      case round =>
        obtain ⟨i, hi2, rfl, hown, hbl⟩ := hrel
        by_cases hlt2 : i < n
        · obtain ⟨w2, rfl⟩ : ∃ w2 : World, w2 = wr := ⟨_, rfl⟩
          obtain ⟨bb, oo, rfl, hbb, hat⟩ := (H.out.1.keep hbl).at hlt2
          have c0 := hat 0 (by decide)
          simp only [RH, Nat.mul_one, Nat.add_zero, List.getElem?_cons_zero] at c0
          have hall := (H.out.2.keep hbl).all i (by omega)
          have hlen := hall.1.len
          obtain ⟨h1, h2⟩ := lsum_take (ls := ls) (i := i) (by omega)
          have h3 := lsum_le ls (i + 1)
          have hil2 : ((i : Int) < (n : Int)) = True := by simp; omega
          generalize vs.getD i default = x at *
          generalize ls.getD i [] = y at *
          unfold lsum at h1 h3 hl
          have HB := Lib.hid (And.intro hown (And.intro hbl (And.intro hall h2)))
          clear hall hat h2 hown hbl
          go_wp2_with (at_builtin; refine halt ?_)
          refine Halted.go ?_
          refine Rep.append_list T27 rfl _ _ rfl (base := w0.heap.size) rfl HB.out.1 rfl (hlen ▸ HB.out.2.2.1.1) HB.out.2.2.1.2 (by unfold maxLen; omega) (by omega) HB.out.2.1.size ?_
          intro v3 w3 hown3 hb3 _
          have HG := Lib.hid (And.intro hown3 (HB.out.2.1.trans hb3))
          clear hown3 hb3
          go_wp2_with fail
          exact ⟨⟨i + 1, by omega, by rw [Int.natCast_succ], by rw [HB.out.2.2.2]; exact HG.out.1, HG.out.2⟩, by show n - ((i : Int) + 1).toNat < n - (i : Int).toNat; omega⟩
        · obtain rfl : n = i := by omega
          have HB := Lib.hid (And.intro hown hbl)
          clear hown hbl
          go_wp2_with fail
          go_ret
          refine ⟨_, rfl, ?_, HB.out.2⟩
          have := HB.out.1
          rwa [hnl, List.take_length] at this
end Go.Proofs.Ytpjfgfdpngibgaa
