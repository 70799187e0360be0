/- The order of prefixes, as the program tells it; maps by prefixes. -/
import Derived.Test.YtfmehahjjgalfaaDa
import Derived.Test.YtfmehahjjgalfaaPc
import Derived.Test.YtfmehahjjgalfaaSo
import Derived.DeepKeys4
namespace Go.Proofs.Ytfmehahjjgalfaa
open Go.RowKit
open Go.ChangeMaps (setBlock)

/-- w' is w with new blocks and draws -/
def Grows (w w' : World) : Prop := ∃ (q : Nat) (os : Array Obj), w' = Go.Sort.grow (w.drewN q) os
theorem drewN_add (w : World) (a b : Nat) : (w.drewN a).drewN b = w.drewN (a + b) := by
  simp [World.drewN, Nat.add_assoc]
theorem grow_drewN (w : World) (os : Array Obj) (b : Nat) : (Go.Sort.grow w os).drewN b = Go.Sort.grow (w.drewN b) os := rfl
theorem Grows.refl (w : World) : Grows w w := ⟨0, #[], by
  show w = Go.Sort.grow (w.drewN 0) #[]
  simp [Go.Sort.grow, World.drewN]⟩
theorem Grows.drewN {w w' : World} (h : Grows w w') (n : Nat) : Grows w (w'.drewN n) := by
  obtain ⟨q, os, rfl⟩ := h
  exact ⟨q + n, os, by rw [grow_drewN, drewN_add]⟩
theorem Grows.drew {w w' : World} (h : Grows w w') : Grows w w'.drew := h.drewN 1
theorem Grows.alloc {w w' : World} (h : Grows w w') (o : Obj) : Grows w (w'.alloc o) := by
  obtain ⟨q, os, rfl⟩ := h
  exact ⟨q, os ++ #[o], by rw [Go.Sort.alloc_eq_grow, Go.Sort.grow_grow]⟩
theorem Grows.trans {a b c : World} (h : Grows a b) (k : Grows b c) : Grows a c := by
  obtain ⟨q, os, rfl⟩ := h
  obtain ⟨q2, os2, rfl⟩ := k
  exact ⟨q + q2, os ++ os2, by rw [grow_drewN, drewN_add, Go.Sort.grow_grow]⟩
theorem Grows.below {w w' : World} (h : Grows w w') : Below w.heap.size w w' := by
  obtain ⟨q, os, rfl⟩ := h
  refine ⟨rfl, rfl, rfl, ?_, fun k hk => ?_⟩
  · show w.heap.size ≤ (w.heap ++ os).size
    simp
  · show (w.heap ++ os)[k]? = _
    rw [Array.getElem?_append_left hk]

def cmpI (a b : Int) : Int := if a < b then -1 else if b < a then 1 else 0
theorem nani_any (a : Int) (w : World) : Calls Try.prog 109 #[.int .i64 a] w fun e w' => e = .returned (.bool false) ∧ w' = w := by
  have h : (a == a) = true := by simp
  go_enter Try.func109, Try.ntmps109
  go_wp2_with fail
  go_ret
  exact ⟨rfl, rfl⟩
theorem nanu_any (a : Int) (w : World) : Calls Try.prog 121 #[.int .u32 a] w fun e w' => e = .returned (.bool false) ∧ w' = w := by
  have h : (a == a) = true := by simp
  go_enter Try.func121, Try.ntmps121
  go_wp2_with fail
  go_ret
  exact ⟨rfl, rfl⟩
theorem cmpi_any (a b : Int) (w : World) : Calls Try.prog 88 #[.int .i64 a, .int .i64 b] w fun e w' => e = .returned (.int .i64 (cmpI a b)) ∧ w' = w := by
  have HA := Lib.hid (fun W => nani_any a W)
  have HB := Lib.hid (fun W => nani_any b W)
  obtain ⟨c, hc⟩ : ∃ c, cmpI a b = c := ⟨_, rfl⟩
  rw [hc]
  unfold cmpI at hc
  have HC := Lib.hid hc
  clear hc
  by_cases h1 : a < b
  · have e1 : (a < b) = True := eq_true h1
    clear h1
    go_enter Try.func88, Try.ntmps88
    go_wp2_with fail
    refine (HA.out _).mono ?_
    rintro e w1 ⟨rfl, hw1⟩
    subst w1
    go_wp2_with fail
    refine (HB.out _).mono ?_
    rintro e w1 ⟨rfl, hw1⟩
    subst w1
    go_wp2_with fail
    go_ret
    exact ⟨ret_int (by rw [← HC.out, if_pos (of_eq_true e1)]), rfl⟩
  · have e1 : (a < b) = False := eq_false h1
    by_cases h2 : b < a
    · have e2 : (b < a) = True := eq_true h2
      clear h1 h2
      go_enter Try.func88, Try.ntmps88
      go_wp2_with fail
      refine (HA.out _).mono ?_
      rintro e w1 ⟨rfl, hw1⟩
      subst w1
      go_wp2_with fail
      refine (HB.out _).mono ?_
      rintro e w1 ⟨rfl, hw1⟩
      subst w1
      go_wp2_with fail
      go_ret
      exact ⟨ret_int (by rw [← HC.out, if_neg (of_eq_false e1), if_pos (of_eq_true e2)]), rfl⟩
    · have e2 : (b < a) = False := eq_false h2
      clear h1 h2
      go_enter Try.func88, Try.ntmps88
      go_wp2_with fail
      refine (HA.out _).mono ?_
      rintro e w1 ⟨rfl, hw1⟩
      subst w1
      go_wp2_with fail
      refine (HB.out _).mono ?_
      rintro e w1 ⟨rfl, hw1⟩
      subst w1
      go_wp2_with fail
      go_ret
      exact ⟨ret_int (by rw [← HC.out, if_neg (of_eq_false e1), if_neg (of_eq_false e2)]), rfl⟩
theorem cmpu_any (a b : Int) (w : World) : Calls Try.prog 98 #[.int .u32 a, .int .u32 b] w fun e w' => e = .returned (.int .i64 (cmpI a b)) ∧ w' = w := by
  have HA := Lib.hid (fun W => nanu_any a W)
  have HB := Lib.hid (fun W => nanu_any b W)
  obtain ⟨c, hc⟩ : ∃ c, cmpI a b = c := ⟨_, rfl⟩
  rw [hc]
  unfold cmpI at hc
  have HC := Lib.hid hc
  clear hc
  by_cases h1 : a < b
  · have e1 : (a < b) = True := eq_true h1
    clear h1
    go_enter Try.func98, Try.ntmps98
    go_wp2_with fail
    refine (HA.out _).mono ?_
    rintro e w1 ⟨rfl, hw1⟩
    subst w1
    go_wp2_with fail
    refine (HB.out _).mono ?_
    rintro e w1 ⟨rfl, hw1⟩
    subst w1
    go_wp2_with fail
    go_ret
    exact ⟨ret_int (by rw [← HC.out, if_pos (of_eq_true e1)]), rfl⟩
  · have e1 : (a < b) = False := eq_false h1
    by_cases h2 : b < a
    · have e2 : (b < a) = True := eq_true h2
      clear h1 h2
      go_enter Try.func98, Try.ntmps98
      go_wp2_with fail
      refine (HA.out _).mono ?_
      rintro e w1 ⟨rfl, hw1⟩
      subst w1
      go_wp2_with fail
      refine (HB.out _).mono ?_
      rintro e w1 ⟨rfl, hw1⟩
      subst w1
      go_wp2_with fail
      go_ret
      exact ⟨ret_int (by rw [← HC.out, if_neg (of_eq_false e1), if_pos (of_eq_true e2)]), rfl⟩
    · have e2 : (b < a) = False := eq_false h2
      clear h1 h2
      go_enter Try.func98, Try.ntmps98
      go_wp2_with fail
      refine (HA.out _).mono ?_
      rintro e w1 ⟨rfl, hw1⟩
      subst w1
      go_wp2_with fail
      refine (HB.out _).mono ?_
      rintro e w1 ⟨rfl, hw1⟩
      subst w1
      go_wp2_with fail
      go_ret
      exact ⟨ret_int (by rw [← HC.out, if_neg (of_eq_false e1), if_neg (of_eq_false e2)]), rfl⟩

/-- cmp.Or of two -/
def or2 (x y : Int) : Int := if x = 0 then y else x
theorem or_any {w : World} {b c : Nat} {x y : Int} (h : w.cell? ⟨b, 0, none⟩ = some (.int .i64 x) ∧ w.cell? ⟨b, 1, none⟩ = some (.int .i64 y)) : Calls Try.prog 87 #[.slice (some ⟨b, 0, none⟩) 2 c] w fun e w' => e = .returned (.int .i64 (or2 x y)) ∧ w' = w := by
  obtain ⟨c0, c1⟩ := h
  have HO := Lib.hid (show (x ≠ 0 → or2 x y = x) ∧ (x = 0 → or2 x y = y) from ⟨fun h => if_neg h, fun h => if_pos h⟩)
  generalize or2 x y = v at *
  go_enter Try.func87, Try.ntmps87
  go_wp2_with fail
  go_loopw [8] (fun kv wr => ∃ k : Nat, k ≤ 2 ∧ kv = .int .i64 k ∧ (0 < k → x = 0) ∧ (1 < k → y = 0) ∧ wr = w) (fun kv _ => 2 - (intOf kv).toNat)
  case atStart => exact ⟨0, by omega, rfl, fun h => by omega, fun h => by omega, rfl⟩
  case round =>
    obtain ⟨k, hk, rfl, h0, h1, rfl⟩ := hrel
    have hk3 : k = 0 ∨ k = 1 ∨ k = 2 := by omega
    rcases hk3 with rfl | rfl | rfl
    · clear h0 h1
      by_cases hx : x = 0
      · have hxt : (x == 0) = true := by simp [hx]
        have HX := Lib.hid hx
        clear hx
        go_wp2_with fail
        exact ⟨⟨1, by omega, rfl, fun _ => HX.out, fun h => by omega, trivial⟩, by decide⟩
      · have hxt : (x == 0) = false := by simpa using hx
        have HX := Lib.hid hx
        clear hx
        go_wp2_with fail
        go_ret
        exact ⟨ret_int (HO.out.1 HX.out).symm, rfl⟩
    · have HX := Lib.hid (h0 (by omega))
      clear h0 h1
      by_cases hy : y = 0
      · have hyt : (y == 0) = true := by simp [hy]
        have HY := Lib.hid hy
        clear hy
        go_wp2_with fail
        exact ⟨⟨2, by omega, rfl, fun _ => HX.out, fun _ => HY.out, trivial⟩, by decide⟩
      · have hyt : (y == 0) = false := by simpa using hy
        clear hy
        go_wp2_with fail
        go_ret
        exact ⟨ret_int (HO.out.2 HX.out).symm, rfl⟩
    · have HX := Lib.hid (h0 (by omega))
      have HY := Lib.hid (h1 (by omega))
      clear h0 h1
      go_wp2_with fail
      go_ret
      exact ⟨ret_int (by rw [HO.out.2 HX.out, HY.out]), rfl⟩
theorem or_cmp (a b : PK) : or2 (cmpI (a.1 : Int) (b.1 : Int)) (cmpI a.2 b.2) = cmpK a b := by
  unfold or2 cmpI cmpK cmpP
  (repeat' split) <;> omega
def TwoS (q0 q1 : Nat) (a b : PK) (w : World) : Prop := w.heap[q0]? = some (.cells #[.int .u32 (a.1 : Int), .int .i64 a.2] 58) ∧ w.heap[q1]? = some (.cells #[.int .u32 (b.1 : Int), .int .i64 b.2] 58)
theorem TwoS.cells {q0 q1 : Nat} {a b : PK} {w : World} (h : TwoS q0 q1 a b w) : (w.cell? ⟨q0, 0, none⟩ = some (.int .u32 (a.1 : Int)) ∧ w.cell? ⟨q0, 1, none⟩ = some (.int .i64 a.2)) ∧ w.cell? ⟨q1, 0, none⟩ = some (.int .u32 (b.1 : Int)) ∧ w.cell? ⟨q1, 1, none⟩ = some (.int .i64 b.2) := ⟨⟨cell_of h.1 rfl, cell_of h.1 rfl⟩, cell_of h.2 rfl, cell_of h.2 rfl⟩
theorem TwoS.on {q0 q1 : Nat} {a b : PK} {w w' : World} (h : TwoS q0 q1 a b w) (hb : Below w.heap.size w w') : TwoS q0 q1 a b w' := ⟨(hb.block _ (lt_of_blk h.1)).trans h.1, (hb.block _ (lt_of_blk h.2)).trans h.2⟩
set_option maxRecDepth 100000 in
theorem acompare_any (a b : PK) (w : World) : Calls Try.prog 83 #[pfx a.1 a.2, pfx b.1 b.2] w fun e w' => e = .returned (.int .i64 (cmpK a b)) ∧ Grows w w' := by
  have hg := ((Grows.refl w).alloc (.cells #[.int .u32 (a.1 : Int), .int .i64 a.2] 58)).alloc (.cells #[.int .u32 (b.1 : Int), .int .i64 b.2] 58)
  have ht : TwoS w.heap.size (w.heap.size + 1) a b ((w.alloc (.cells #[.int .u32 (a.1 : Int), .int .i64 a.2] 58)).alloc (.cells #[.int .u32 (b.1 : Int), .int .i64 b.2] 58)) := ⟨hold (hnew _ _), hnewAt (by simp)⟩
  have F0 := Lib.hid (And.intro hg.drew (show TwoS w.heap.size (w.heap.size + 1) a b ((w.alloc (.cells #[.int .u32 (a.1 : Int), .int .i64 a.2] 58)).alloc (.cells #[.int .u32 (b.1 : Int), .int .i64 b.2] 58)).drew from ht))
  have HV := Lib.hid (or_cmp a b)
  unfold pfx
  clear hg ht
  generalize cmpK a b = v at *
  go_enter Try.func83, Try.ntmps83
  go_wp2_with fail
  refine wp_region_heldP (TwoS w.heap.size (w.heap.size + 1) a b) (by kernel_rfl) ?_
  generalize ((w.alloc (.cells #[.int .u32 (a.1 : Int), .int .i64 a.2] 58)).alloc (.cells #[.int .u32 (b.1 : Int), .int .i64 b.2] 58)).drew = W1 at *
  generalize w.heap.size = q at *
  refine held_reads [0, 1, 2, 3, 5, 6, 7, 8] (g := 5) rfl (by kernel_rfl) F0.out.2 (fun _ _ d _ _ h => by cases d <;> exact h) ?_
  simp only [pick, List.getD_cons_zero, List.getD_cons_succ]
  ((with_reducible refine wpRead_step (fun K hK => ?_)); go_simp; first | ((with_reducible refine hK _ ?_); clear hK K) | (apply Exists.intro; (with_reducible refine ⟨fun w' hw' => ?_, hK _ ?_⟩); (first | exact rfl | exact ⟨rfl, rfl⟩); clear hK K))
  ((with_reducible refine wpRead_step (fun K hK => ?_)); go_simp; first | ((with_reducible refine hK _ ?_); clear hK K) | (apply Exists.intro; (with_reducible refine ⟨fun w' hw' => ?_, hK _ ?_⟩); (obtain ⟨⟨f0, f1⟩, f2, f3⟩ := TwoS.cells hw'; go_simp; first | exact rfl | exact ⟨rfl, rfl⟩); clear hK K))
  ((with_reducible refine wpRead_step (fun K hK => ?_)); go_simp; first | ((with_reducible refine hK _ ?_); clear hK K) | (apply Exists.intro; (with_reducible refine ⟨fun w' hw' => ?_, hK _ ?_⟩); (first | exact rfl | exact ⟨rfl, rfl⟩); clear hK K))
  ((with_reducible refine wpRead_step (fun K hK => ?_)); go_simp; first | ((with_reducible refine hK _ ?_); clear hK K) | (apply Exists.intro; (with_reducible refine ⟨fun w' hw' => ?_, hK _ ?_⟩); (obtain ⟨⟨f0, f1⟩, f2, f3⟩ := TwoS.cells hw'; go_simp; first | exact rfl | exact ⟨rfl, rfl⟩); clear hK K))
  ((with_reducible refine wpRead_step (fun K hK => ?_)); go_simp; first | ((with_reducible refine hK _ ?_); clear hK K) | (apply Exists.intro; (with_reducible refine ⟨fun w' hw' => ?_, hK _ ?_⟩); (first | exact rfl | exact ⟨rfl, rfl⟩); clear hK K))
  ((with_reducible refine wpRead_step (fun K hK => ?_)); go_simp; first | ((with_reducible refine hK _ ?_); clear hK K) | (apply Exists.intro; (with_reducible refine ⟨fun w' hw' => ?_, hK _ ?_⟩); (obtain ⟨⟨f0, f1⟩, f2, f3⟩ := TwoS.cells hw'; go_simp; first | exact rfl | exact ⟨rfl, rfl⟩); clear hK K))
  ((with_reducible refine wpRead_step (fun K hK => ?_)); go_simp; first | ((with_reducible refine hK _ ?_); clear hK K) | (apply Exists.intro; (with_reducible refine ⟨fun w' hw' => ?_, hK _ ?_⟩); (first | exact rfl | exact ⟨rfl, rfl⟩); clear hK K))
  ((with_reducible refine wpRead_step (fun K hK => ?_)); go_simp; first | ((with_reducible refine hK _ ?_); clear hK K) | (apply Exists.intro; (with_reducible refine ⟨fun w' hw' => ?_, hK _ ?_⟩); (obtain ⟨⟨f0, f1⟩, f2, f3⟩ := TwoS.cells hw'; go_simp; first | exact rfl | exact ⟨rfl, rfl⟩); clear hK K))
  with_reducible refine wpRead_nil ?_
  refine held_one 4 (by kernel_rfl) ?_
  simp only [pick, List.getD_cons_zero, List.getD_cons_succ]
  go_wp2_with fail
  refine (cmpu_any _ _ _).mono ?_
  rintro e W2 ⟨rfl, hw⟩
  subst hw
  go_wp2_with fail
  refine ⟨F0.out.2, ?_⟩
  refine held_one 9 (by kernel_rfl) ?_
  simp only [pick, List.getD_cons_zero, List.getD_cons_succ]
  go_wp2_with fail
  refine (cmpi_any _ _ _).mono ?_
  rintro e W2 ⟨rfl, hw⟩
  subst hw
  go_wp2_with fail
  refine ⟨F0.out.2, ?_⟩
  have hal := (Below.refl W2.heap.size W2).alloc (Nat.le_refl _) (.cells #[.int .i64 (cmpI (a.1 : Int) (b.1 : Int)), .int .i64 (cmpI a.2 b.2)] 3)
  have hnb : (W2.alloc (.cells #[.int .i64 (cmpI (a.1 : Int) (b.1 : Int)), .int .i64 (cmpI a.2 b.2)] 3)).heap[W2.heap.size]? = some (.cells #[.int .i64 (cmpI (a.1 : Int) (b.1 : Int)), .int .i64 (cmpI a.2 b.2)] 3) := hnew _ _
  have F1 := Lib.hid (And.intro (F0.out.1.alloc (.cells #[.int .i64 (cmpI (a.1 : Int) (b.1 : Int)), .int .i64 (cmpI a.2 b.2)] 3)) (And.intro (F0.out.2.on hal) (show (W2.alloc (.cells #[.int .i64 (cmpI (a.1 : Int) (b.1 : Int)), .int .i64 (cmpI a.2 b.2)] 3)).cell? ⟨W2.heap.size, 0, none⟩ = some (.int .i64 (cmpI (a.1 : Int) (b.1 : Int))) ∧ (W2.alloc (.cells #[.int .i64 (cmpI (a.1 : Int) (b.1 : Int)), .int .i64 (cmpI a.2 b.2)] 3)).cell? ⟨W2.heap.size, 1, none⟩ = some (.int .i64 (cmpI a.2 b.2)) from ⟨cell_of hnb rfl, cell_of hnb rfl⟩)))
  clear hal hnb F0
  refine held_one 10 (by kernel_rfl) ?_
  simp only [pick, List.getD_cons_zero, List.getD_cons_succ]
  go_wp2_with fail
  generalize W2.alloc (.cells #[.int .i64 (cmpI (a.1 : Int) (b.1 : Int)), .int .i64 (cmpI a.2 b.2)] 3) = W3 at *
  generalize W2.heap.size = q2 at *
  refine ⟨F1.out.2.1, ?_⟩
  refine held_one 11 (by kernel_rfl) ?_
  simp only [pick, List.getD_cons_zero, List.getD_cons_succ]
  go_wp2_with fail
  refine (or_any F1.out.2.2).mono ?_
  rintro e W4 ⟨rfl, hw⟩
  subst hw
  rw [HV.out]
  go_wp2_with fail
  refine ⟨F1.out.2.1, ?_⟩
  refine held_one 12 (by kernel_rfl) ?_
  simp only [pick, List.getD_cons_zero, List.getD_cons_succ]
  go_wp2_with fail
  refine ⟨F1.out.2.1, ?_⟩
  refine wpAnyH_done (by kernel_rfl) ?_ _
  go_wp2_with fail
  go_ret
  exact ⟨rfl, F1.out.1⟩
end Go.Proofs.Ytfmehahjjgalfaa
