/- The order of prefixes that are told, as the program and the reference tell it. -/
import Derived.Test.YtadoflcomienoaaGreatZac
import Derived.Sort.Grow
import Derived.DeepKeys4
import Derived.Test.YtadoflcomienoaaGreatZab
import Derived.Test.YtadoflcomienoaaGreatZaa
import Derived.Lib.AppendZerosOnto
import Derived.Lib.SliceRun
namespace Go.Proofs.YtadoflcomienoaaGreat
open Go.RowKit
open Go.ChangeMaps (setBlock)

/-- w' is w with new blocks and draws -/
def Grows (w w' : World) : Prop := ∃ (q : Nat) (os : Array Obj), w' = Go.Sort.grow (w.drewN q) os
theorem drewN_add (w : World) (a b : Nat) : (w.drewN a).drewN b = w.drewN (a + b) := by
  simp [World.drewN, Nat.add_assoc]
theorem grow_drewN (w : World) (os : Array Obj) (b : Nat) : (Go.Sort.grow w os).drewN b = Go.Sort.grow (w.drewN b) os := rfl
theorem Grows.refl (w : World) : Grows w w := ⟨0, #[], by
  show w = Go.Sort.grow (w.drewN 0) #[]
  simp [Go.Sort.grow, World.drewN]⟩
theorem Grows.drewN {w w' : World} (h : Grows w w') (n : Nat) : Grows w (w'.drewN n) := by
  obtain ⟨q, os, rfl⟩ := h
  exact ⟨q + n, os, by rw [grow_drewN, drewN_add]⟩
theorem Grows.drew {w w' : World} (h : Grows w w') : Grows w w'.drew := h.drewN 1
theorem Grows.alloc {w w' : World} (h : Grows w w') (o : Obj) : Grows w (w'.alloc o) := by
  obtain ⟨q, os, rfl⟩ := h
  exact ⟨q, os ++ #[o], by rw [Go.Sort.alloc_eq_grow, Go.Sort.grow_grow]⟩
theorem Grows.trans {a b c : World} (h : Grows a b) (k : Grows b c) : Grows a c := by
  obtain ⟨q, os, rfl⟩ := h
  obtain ⟨q2, os2, rfl⟩ := k
  exact ⟨q + q2, os ++ os2, by rw [grow_drewN, drewN_add, Go.Sort.grow_grow]⟩
theorem Grows.below {w w' : World} (h : Grows w w') : Below w.heap.size w w' := by
  obtain ⟨q, os, rfl⟩ := h
  refine ⟨rfl, rfl, rfl, ?_, fun k hk => ?_⟩
  · show w.heap.size ≤ (w.heap ++ os).size
    simp
  · show (w.heap ++ os)[k]? = _
    rw [Array.getElem?_append_left hk]

theorem nani_any (a : Int) (w : World) : Calls Tryz.prog 134 #[.int .i64 a] w fun e w' => e = .returned (.bool false) ∧ w' = w := by
  have h : (a == a) = true := by simp
  go_enter Tryz.func134, Tryz.ntmps134
  go_wp2_with fail
  go_ret
  exact ⟨rfl, rfl⟩
theorem nanu_any (a : Int) (w : World) : Calls Tryz.prog 177 #[.int .u32 a] w fun e w' => e = .returned (.bool false) ∧ w' = w := by
  have h : (a == a) = true := by simp
  go_enter Tryz.func177, Tryz.ntmps177
  go_wp2_with fail
  go_ret
  exact ⟨rfl, rfl⟩
theorem cmpi_any (a b : Int) (w : World) : Calls Tryz.prog 89 #[.int .i64 a, .int .i64 b] w fun e w' => e = .returned (.int .i64 (cmpI a b)) ∧ w' = w := by
  have HA := Lib.hid (fun W => nani_any a W)
  have HB := Lib.hid (fun W => nani_any b W)
  obtain ⟨c, hc⟩ : ∃ c, cmpI a b = c := ⟨_, rfl⟩
  rw [hc]
  unfold cmpI at hc
  have HC := Lib.hid hc
  clear hc
  by_cases h1 : a < b
  · have e1 : (a < b) = True := eq_true h1
    clear h1
    go_enter Tryz.func89, Tryz.ntmps89
    go_wp2_with fail
    refine (HA.out _).mono ?_
    rintro e w1 ⟨rfl, hw1⟩
    subst w1
    go_wp2_with fail
    refine (HB.out _).mono ?_
    rintro e w1 ⟨rfl, hw1⟩
    subst w1
    go_wp2_with fail
    go_ret
    exact ⟨ret_int (by rw [← HC.out, if_pos (of_eq_true e1)]), rfl⟩
  · have e1 : (a < b) = False := eq_false h1
    by_cases h2 : b < a
    · have e2 : (b < a) = True := eq_true h2
      clear h1 h2
      go_enter Tryz.func89, Tryz.ntmps89
      go_wp2_with fail
      refine (HA.out _).mono ?_
      rintro e w1 ⟨rfl, hw1⟩
      subst w1
      go_wp2_with fail
      refine (HB.out _).mono ?_
      rintro e w1 ⟨rfl, hw1⟩
      subst w1
      go_wp2_with fail
      go_ret
      exact ⟨ret_int (by rw [← HC.out, if_neg (of_eq_false e1), if_pos (of_eq_true e2)]), rfl⟩
    · have e2 : (b < a) = False := eq_false h2
      clear h1 h2
      go_enter Tryz.func89, Tryz.ntmps89
      go_wp2_with fail
      refine (HA.out _).mono ?_
      rintro e w1 ⟨rfl, hw1⟩
      subst w1
      go_wp2_with fail
      refine (HB.out _).mono ?_
      rintro e w1 ⟨rfl, hw1⟩
      subst w1
      go_wp2_with fail
      go_ret
      exact ⟨ret_int (by rw [← HC.out, if_neg (of_eq_false e1), if_neg (of_eq_false e2)]), rfl⟩
theorem cmpu_any (a b : Int) (w : World) : Calls Tryz.prog 136 #[.int .u32 a, .int .u32 b] w fun e w' => e = .returned (.int .i64 (cmpI a b)) ∧ w' = w := by
  have HA := Lib.hid (fun W => nanu_any a W)
  have HB := Lib.hid (fun W => nanu_any b W)
  obtain ⟨c, hc⟩ : ∃ c, cmpI a b = c := ⟨_, rfl⟩
  rw [hc]
  unfold cmpI at hc
  have HC := Lib.hid hc
  clear hc
  by_cases h1 : a < b
  · have e1 : (a < b) = True := eq_true h1
    clear h1
    go_enter Tryz.func136, Tryz.ntmps136
    go_wp2_with fail
    refine (HA.out _).mono ?_
    rintro e w1 ⟨rfl, hw1⟩
    subst w1
    go_wp2_with fail
    refine (HB.out _).mono ?_
    rintro e w1 ⟨rfl, hw1⟩
    subst w1
    go_wp2_with fail
    go_ret
    exact ⟨ret_int (by rw [← HC.out, if_pos (of_eq_true e1)]), rfl⟩
  · have e1 : (a < b) = False := eq_false h1
    by_cases h2 : b < a
    · have e2 : (b < a) = True := eq_true h2
      clear h1 h2
      go_enter Tryz.func136, Tryz.ntmps136
      go_wp2_with fail
      refine (HA.out _).mono ?_
      rintro e w1 ⟨rfl, hw1⟩
      subst w1
      go_wp2_with fail
      refine (HB.out _).mono ?_
      rintro e w1 ⟨rfl, hw1⟩
      subst w1
      go_wp2_with fail
      go_ret
      exact ⟨ret_int (by rw [← HC.out, if_neg (of_eq_false e1), if_pos (of_eq_true e2)]), rfl⟩
    · have e2 : (b < a) = False := eq_false h2
      clear h1 h2
      go_enter Tryz.func136, Tryz.ntmps136
      go_wp2_with fail
      refine (HA.out _).mono ?_
      rintro e w1 ⟨rfl, hw1⟩
      subst w1
      go_wp2_with fail
      refine (HB.out _).mono ?_
      rintro e w1 ⟨rfl, hw1⟩
      subst w1
      go_wp2_with fail
      go_ret
      exact ⟨ret_int (by rw [← HC.out, if_neg (of_eq_false e1), if_neg (of_eq_false e2)]), rfl⟩

theorem or_any {w : World} {b c : Nat} {x y : Int} (h : w.cell? ⟨b, 0, none⟩ = some (.int .i64 x) ∧ w.cell? ⟨b, 1, none⟩ = some (.int .i64 y)) : Calls Tryz.prog 88 #[.slice (some ⟨b, 0, none⟩) 2 c] w fun e w' => e = .returned (.int .i64 (or2 x y)) ∧ w' = w := by
  obtain ⟨c0, c1⟩ := h
  have HO := Lib.hid (show (x ≠ 0 → or2 x y = x) ∧ (x = 0 → or2 x y = y) from ⟨fun h => if_neg h, fun h => if_pos h⟩)
  generalize or2 x y = v at *
  go_enter Tryz.func88, Tryz.ntmps88
  go_wp2_with fail
  go_loopw [8] (fun kv wr => ∃ k : Nat, k ≤ 2 ∧ kv = .int .i64 k ∧ (0 < k → x = 0) ∧ (1 < k → y = 0) ∧ wr = w) (fun kv _ => 2 - (intOf kv).toNat)
  case atStart => exact ⟨0, by omega, rfl, fun h => by omega, fun h => by omega, rfl⟩
  case round =>
    obtain ⟨k, hk, rfl, h0, h1, rfl⟩ := hrel
    have hk3 : k = 0 ∨ k = 1 ∨ k = 2 := by omega
    rcases hk3 with rfl | rfl | rfl
    · clear h0 h1
      by_cases hx : x = 0
      · have hxt : (x == 0) = true := by simp [hx]
        have HX := Lib.hid hx
        clear hx
        go_wp2_with fail
        exact ⟨⟨1, by omega, rfl, fun _ => HX.out, fun h => by omega, trivial⟩, by decide⟩
      · have hxt : (x == 0) = false := by simpa using hx
        have HX := Lib.hid hx
        clear hx
        go_wp2_with fail
        go_ret
        exact ⟨ret_int (HO.out.1 HX.out).symm, rfl⟩
    · have HX := Lib.hid (h0 (by omega))
      clear h0 h1
      by_cases hy : y = 0
      · have hyt : (y == 0) = true := by simp [hy]
        have HY := Lib.hid hy
        clear hy
        go_wp2_with fail
        exact ⟨⟨2, by omega, rfl, fun _ => HX.out, fun _ => HY.out, trivial⟩, by decide⟩
      · have hyt : (y == 0) = false := by simpa using hy
        clear hy
        go_wp2_with fail
        go_ret
        exact ⟨ret_int (HO.out.2 HX.out).symm, rfl⟩
    · have HX := Lib.hid (h0 (by omega))
      have HY := Lib.hid (h1 (by omega))
      clear h0 h1
      go_wp2_with fail
      go_ret
      exact ⟨ret_int (by rw [HO.out.2 HX.out, HY.out]), rfl⟩
theorem or_cmp (a b : PK) : or2 (cmpI (a.1 : Int) (b.1 : Int)) (cmpI a.2 b.2) = cmpK a b := by
  unfold or2 cmpI cmpK cmpP
  (repeat' split) <;> omega
def TwoS (q0 q1 : Nat) (a b : PK) (w : World) : Prop := w.heap[q0]? = some (.cells #[.int .u32 (a.1 : Int), .int .i64 a.2] 58) ∧ w.heap[q1]? = some (.cells #[.int .u32 (b.1 : Int), .int .i64 b.2] 58)
theorem TwoS.cells {q0 q1 : Nat} {a b : PK} {w : World} (h : TwoS q0 q1 a b w) : (w.cell? ⟨q0, 0, none⟩ = some (.int .u32 (a.1 : Int)) ∧ w.cell? ⟨q0, 1, none⟩ = some (.int .i64 a.2)) ∧ w.cell? ⟨q1, 0, none⟩ = some (.int .u32 (b.1 : Int)) ∧ w.cell? ⟨q1, 1, none⟩ = some (.int .i64 b.2) := ⟨⟨cell_of h.1 rfl, cell_of h.1 rfl⟩, cell_of h.2 rfl, cell_of h.2 rfl⟩
theorem TwoS.on {q0 q1 : Nat} {a b : PK} {w w' : World} (h : TwoS q0 q1 a b w) (hb : Below w.heap.size w w') : TwoS q0 q1 a b w' := ⟨(hb.block _ (lt_of_blk h.1)).trans h.1, (hb.block _ (lt_of_blk h.2)).trans h.2⟩
set_option maxRecDepth 100000 in
theorem acompare_any (a b : PK) (w : World) : Calls Tryz.prog 93 #[pfx a.1 a.2, pfx b.1 b.2] w fun e w' => e = .returned (.int .i64 (cmpK a b)) ∧ Grows w w' := by
  have hg := ((Grows.refl w).alloc (.cells #[.int .u32 (a.1 : Int), .int .i64 a.2] 58)).alloc (.cells #[.int .u32 (b.1 : Int), .int .i64 b.2] 58)
  have ht : TwoS w.heap.size (w.heap.size + 1) a b ((w.alloc (.cells #[.int .u32 (a.1 : Int), .int .i64 a.2] 58)).alloc (.cells #[.int .u32 (b.1 : Int), .int .i64 b.2] 58)) := ⟨hold (hnew _ _), hnewAt (by simp)⟩
  have F0 := Lib.hid (And.intro hg.drew (show TwoS w.heap.size (w.heap.size + 1) a b ((w.alloc (.cells #[.int .u32 (a.1 : Int), .int .i64 a.2] 58)).alloc (.cells #[.int .u32 (b.1 : Int), .int .i64 b.2] 58)).drew from ht))
  have HV := Lib.hid (or_cmp a b)
  unfold pfx
  clear hg ht
  generalize cmpK a b = v at *
  go_enter Tryz.func93, Tryz.ntmps93
  go_wp2_with fail
  refine wp_region_heldP (TwoS w.heap.size (w.heap.size + 1) a b) (by kernel_rfl) ?_
  generalize ((w.alloc (.cells #[.int .u32 (a.1 : Int), .int .i64 a.2] 58)).alloc (.cells #[.int .u32 (b.1 : Int), .int .i64 b.2] 58)).drew = W1 at *
  generalize w.heap.size = q at *
  refine held_reads [0, 1, 2, 3, 5, 6, 7, 8] (g := 5) rfl (by kernel_rfl) F0.out.2 (fun _ _ d _ _ h => by cases d <;> exact h) ?_
  simp only [pick, List.getD_cons_zero, List.getD_cons_succ]
  iterate 4
    ((with_reducible refine wpRead_step (fun K hK => ?_)); go_simp; first | ((with_reducible refine hK _ ?_); clear hK K) | (apply Exists.intro; (with_reducible refine ⟨fun w' hw' => ?_, hK _ ?_⟩); (first | exact rfl | exact ⟨rfl, rfl⟩); clear hK K))
    ((with_reducible refine wpRead_step (fun K hK => ?_)); go_simp; first | ((with_reducible refine hK _ ?_); clear hK K) | (apply Exists.intro; (with_reducible refine ⟨fun w' hw' => ?_, hK _ ?_⟩); (obtain ⟨⟨f0, f1⟩, f2, f3⟩ := TwoS.cells hw'; go_simp; first | exact rfl | exact ⟨rfl, rfl⟩); clear hK K))
  with_reducible refine wpRead_nil ?_
  refine held_one 4 (by kernel_rfl) ?_
  simp only [pick, List.getD_cons_zero, List.getD_cons_succ]
  go_wp2_with fail
  refine (cmpu_any _ _ _).mono ?_
  rintro e W2 ⟨rfl, hw⟩
  subst hw
  go_wp2_with fail
  refine ⟨F0.out.2, ?_⟩
  refine held_one 9 (by kernel_rfl) ?_
  simp only [pick, List.getD_cons_zero, List.getD_cons_succ]
  go_wp2_with fail
  refine (cmpi_any _ _ _).mono ?_
  rintro e W2 ⟨rfl, hw⟩
  subst hw
  go_wp2_with fail
  refine ⟨F0.out.2, ?_⟩
  have hal := (Below.refl W2.heap.size W2).alloc (Nat.le_refl _) (.cells #[.int .i64 (cmpI (a.1 : Int) (b.1 : Int)), .int .i64 (cmpI a.2 b.2)] 3)
  have hnb : (W2.alloc (.cells #[.int .i64 (cmpI (a.1 : Int) (b.1 : Int)), .int .i64 (cmpI a.2 b.2)] 3)).heap[W2.heap.size]? = some (.cells #[.int .i64 (cmpI (a.1 : Int) (b.1 : Int)), .int .i64 (cmpI a.2 b.2)] 3) := hnew _ _
  have F1 := Lib.hid (And.intro (F0.out.1.alloc (.cells #[.int .i64 (cmpI (a.1 : Int) (b.1 : Int)), .int .i64 (cmpI a.2 b.2)] 3)) (And.intro (F0.out.2.on hal) (show (W2.alloc (.cells #[.int .i64 (cmpI (a.1 : Int) (b.1 : Int)), .int .i64 (cmpI a.2 b.2)] 3)).cell? ⟨W2.heap.size, 0, none⟩ = some (.int .i64 (cmpI (a.1 : Int) (b.1 : Int))) ∧ (W2.alloc (.cells #[.int .i64 (cmpI (a.1 : Int) (b.1 : Int)), .int .i64 (cmpI a.2 b.2)] 3)).cell? ⟨W2.heap.size, 1, none⟩ = some (.int .i64 (cmpI a.2 b.2)) from ⟨cell_of hnb rfl, cell_of hnb rfl⟩)))
  clear hal hnb F0
  refine held_one 10 (by kernel_rfl) ?_
  simp only [pick, List.getD_cons_zero, List.getD_cons_succ]
  go_wp2_with fail
  generalize W2.alloc (.cells #[.int .i64 (cmpI (a.1 : Int) (b.1 : Int)), .int .i64 (cmpI a.2 b.2)] 3) = W3 at *
  generalize W2.heap.size = q2 at *
  refine ⟨F1.out.2.1, ?_⟩
  refine held_one 11 (by kernel_rfl) ?_
  simp only [pick, List.getD_cons_zero, List.getD_cons_succ]
  go_wp2_with fail
  refine (or_any F1.out.2.2).mono ?_
  rintro e W4 ⟨rfl, hw⟩
  subst hw
  rw [HV.out]
  go_wp2_with fail
  refine ⟨F1.out.2.1, ?_⟩
  refine held_one 12 (by kernel_rfl) ?_
  simp only [pick, List.getD_cons_zero, List.getD_cons_succ]
  go_wp2_with fail
  refine ⟨F1.out.2.1, ?_⟩
  refine wpAnyH_done (by kernel_rfl) ?_ _
  go_wp2_with fail
  go_ret
  exact ⟨rfl, F1.out.1⟩

def TwoN (q0 q1 : Nat) (a b : Nl) (w : World) : Prop := w.heap[q0]? = some (.cells #[.int .i64 a.id, .int .u32 (a.a : Int), .int .i64 a.ln] 60) ∧ w.heap[q1]? = some (.cells #[.int .i64 b.id, .int .u32 (b.a : Int), .int .i64 b.ln] 60)
theorem TwoN.cells {q0 q1 : Nat} {a b : Nl} {w : World} (h : TwoN q0 q1 a b w) : (w.cell? ⟨q0, 0, none⟩ = some (.int .i64 a.id) ∧ w.cell? ⟨q0, 1, none⟩ = some (.int .u32 (a.a : Int)) ∧ w.cell? ⟨q0, 2, none⟩ = some (.int .i64 a.ln)) ∧ w.cell? ⟨q1, 0, none⟩ = some (.int .i64 b.id) ∧ w.cell? ⟨q1, 1, none⟩ = some (.int .u32 (b.a : Int)) ∧ w.cell? ⟨q1, 2, none⟩ = some (.int .i64 b.ln) := ⟨⟨cell_of h.1 rfl, cell_of h.1 rfl, cell_of h.1 rfl⟩, cell_of h.2 rfl, cell_of h.2 rfl, cell_of h.2 rfl⟩
theorem TwoN.on {q0 q1 : Nat} {a b : Nl} {w w' : World} (h : TwoN q0 q1 a b w) (hb : Below w.heap.size w w') : TwoN q0 q1 a b w' := ⟨(hb.block _ (lt_of_blk h.1)).trans h.1, (hb.block _ (lt_of_blk h.2)).trans h.2⟩
theorem rncompare_any (a b : Nl) (w : World) : Calls Tryz.prog 186 #[a.v, b.v] w fun e w' => e = .returned (.int .i64 (cmpN a b)) ∧ Below w.heap.size w w' := by
  have hb0 := ((Below.refl w.heap.size w).alloc (Nat.le_refl _) (.cells #[.int .i64 a.id, .int .u32 (a.a : Int), .int .i64 a.ln] 60)).alloc (by simp) (.cells #[.int .i64 b.id, .int .u32 (b.a : Int), .int .i64 b.ln] 60)
  have ht : TwoN w.heap.size (w.heap.size + 1) a b ((w.alloc (.cells #[.int .i64 a.id, .int .u32 (a.a : Int), .int .i64 a.ln] 60)).alloc (.cells #[.int .i64 b.id, .int .u32 (b.a : Int), .int .i64 b.ln] 60)) := ⟨hold (hnew _ _), hnewAt (by simp)⟩
  have F0 := Lib.hid (And.intro hb0 ht)
  have HC := Lib.hid (fun W => rcompare_any a.a a.ln b.a b.ln W)
  have hcase : (cmpP a.a a.ln b.a b.ln = 0) ∨ ((cmpP a.a a.ln b.a b.ln == 0) = false ∧ cmpN a b = cmpP a.a a.ln b.a b.ln) := by
    by_cases h : cmpP a.a a.ln b.a b.ln = 0
    · exact .inl h
    · refine .inr ⟨by simpa using h, ?_⟩
      show or2 (cmpP a.a a.ln b.a b.ln) _ = _
      exact if_neg h
  have HV := Lib.hid (show cmpP a.a a.ln b.a b.ln = 0 → cmpN a b = cmpI a.id b.id from fun h => by
    show or2 (cmpP a.a a.ln b.a b.ln) _ = _
    exact if_pos h)
  obtain ⟨v, hv⟩ : ∃ v, cmpN a b = v := ⟨_, rfl⟩
  obtain ⟨kv, hkv⟩ : ∃ v, cmpP a.a a.ln b.a b.ln = v := ⟨_, rfl⟩
  rw [hv, hkv] at hcase
  rw [hv, hkv] at HV
  rw [hkv] at HC
  rw [hv]
  unfold pfx at HC
  unfold Nl.v
  clear hb0 ht hv hkv
  have f := TwoN.cells F0.out.2
  obtain ⟨⟨c0, c1, c2⟩, d0, d1, d2⟩ := f
  go_enter Tryz.func186, Tryz.ntmps186
  go_wp2_with fail
  refine (HC.out _).mono ?_
  rintro e w1 ⟨rfl, hb⟩
  have F1 := Lib.hid (And.intro (bcall F0.out.1 (by simp) hb) (F0.out.2.on hb))
  clear hb c0 c1 c2 d0 d1 d2 F0
  have f := TwoN.cells F1.out.2
  obtain ⟨⟨c0, c1, c2⟩, d0, d1, d2⟩ := f
  rcases hcase with rfl | ⟨h1, rfl⟩
  · have HW := Lib.hid (HV.out rfl)
    clear HV
    rcases Decidable.em (a.id < b.id) with h1 | h1
    · have e1 : (a.id < b.id) = True := eq_true h1
      have HI := Lib.hid (show cmpI a.id b.id = -1 from if_pos h1)
      clear h1
      go_wp2_with fail
      go_ret
      exact ⟨ret_int (by rw [HW.out, HI.out]), F1.out.1⟩
    · have e1 : (a.id < b.id) = False := eq_false h1
      rcases Decidable.em (b.id < a.id) with h2 | h2
      · have e2 : (b.id < a.id) = True := eq_true h2
        have HI := Lib.hid (show cmpI a.id b.id = 1 from (if_neg h1).trans (if_pos h2))
        clear h1 h2
        go_wp2_with fail
        go_ret
        exact ⟨ret_int (by rw [HW.out, HI.out]), F1.out.1⟩
      · have e2 : (b.id < a.id) = False := eq_false h2
        have HI := Lib.hid (show cmpI a.id b.id = 0 from (if_neg h1).trans (if_neg h2))
        clear h1 h2
        go_wp2_with fail
        go_ret
        exact ⟨ret_int (by rw [HW.out, HI.out]), F1.out.1⟩
  · go_wp2_with fail
    go_ret
    exact ⟨rfl, F1.out.1⟩
end Go.Proofs.YtadoflcomienoaaGreat
/- Numbers of bytes. -/
namespace Go.Proofs.YtadoflcomienoaaGreat
open Go.RowKit

/-- bytes in memory -/
def RB : Rep Nat := ⟨5, 1, by decide, fun b => [.int .u8 (b : Int)], fun _ => rfl, fun _ => rfl⟩
theorem T27 : Rep.Ty Tryz.prog 110 RB 1 := Rep.Ty.mk' Tryz.underlying110 (z := .int .u8 0) (by kernel_rfl) rfl
def Bytes (l : List Nat) : Prop := ∀ b ∈ l, b < 256
theorem take_snoc {α : Type} [Inhabited α] (l : List α) (k : Nat) (h : k < l.length) : l.take (k + 1) = l.take k ++ [l.getD k default] := by
  rw [List.take_succ_eq_append_getElem h]; simp [List.getD_eq_getElem?_getD, h]
end Go.Proofs.YtadoflcomienoaaGreat
/- A number's bytes. -/
namespace Go.Proofs.YtadoflcomienoaaGreat
open Go.RowKit

/-- a number's bytes, the great one first -/
def be : Nat → Nat → List Nat
  | 0, _ => []
  | k + 1, n => be k (n / 256) ++ [n % 256]
theorem be_length (k n : Nat) : (be k n).length = k := by
  induction k generalizing n with
  | zero => rfl
  | succ k ih => simp [be, ih]
theorem own4 {w : World} {base g n : Nat} (hb : base ≤ g) (h : w.heap[g]? = some (.cells #[.int .u8 ((n / 16777216 % 256 : Nat) : Int), .int .u8 ((n / 65536 % 256 : Nat) : Int), .int .u8 ((n / 256 % 256 : Nat) : Int), .int .u8 ((n % 256 : Nat) : Int)] 5)) : RB.Own w base (.slice (some ⟨g, 0, none⟩) 4 4) (be 4 n) := by
  have hl : (be 4 n).length = 4 := be_length _ _
  have hf : RB.flat (be 4 n) = (#[.int .u8 ((n / 16777216 % 256 : Nat) : Int), .int .u8 ((n / 65536 % 256 : Nat) : Int), .int .u8 ((n / 256 % 256 : Nat) : Int), .int .u8 ((n % 256 : Nat) : Int)] : Array Value).toList := by
    simp only [be, List.nil_append, List.cons_append, RB, Rep.flat, List.flatMap_cons, List.flatMap_nil, List.append_nil, Nat.div_div_eq_div_mul]
  unfold Rep.Own
  rw [hl, hf]
  refine ⟨rfl, .inr ⟨g, 4, _, rfl, hb, h, Nat.le_refl _, by unfold maxLen; omega, rfl, rfl⟩⟩
set_option maxRecDepth 100000 in
set_option maxHeartbeats 400000 in
theorem put4_any (n : Nat) (hn : n < 4294967296) (w : World) : Calls Tryz.prog 184 #[.int .i64 n, .int .i64 4] w fun e w' => ∃ v, e = .returned (.tuple #[v, .int .i64 0]) ∧ RB.Own w' w.heap.size v (be 4 n) ∧ Below w.heap.size w w' := by
  have hmk : ∀ w : World, (Instr.makeSlice 110 (.int .i64 4) (.int .i64 4)).run Tryz.prog w = .ok (.slice (some ⟨w.heap.size, 0, none⟩) 4 4) (w.alloc (.cells #[.int .u8 0, .int .u8 0, .int .u8 0, .int .u8 0] 5)) := fun _ => by kernel_rfl
  have hq : (n : Int) / 4294967296 = 0 := by omega
  have hq0 : ((n : Int) < 0) = False := by simp only [eq_iff_iff, iff_false]; omega
  go_enter Tryz.func184, Tryz.ntmps184
  go_wp2_with fail
  clear hq hq0
  have hw1 : ∃ w1, w1 = w.alloc (.cells #[.int .u8 0, .int .u8 0, .int .u8 0, .int .u8 0] 5) := ⟨_, rfl⟩
  obtain ⟨w1, hw1⟩ := hw1
  have hb1 : Below w.heap.size w w1 := by rw [hw1]; exact (Below.refl w.heap.size w).alloc (Nat.le_refl _) _
  have hc1 : w1.heap[w.heap.size]? = some (.cells #[.int .u8 0, .int .u8 0, .int .u8 0, .int .u8 0] 5) := by rw [hw1]; exact hnew _ _
  rw [← hw1]
  clear hw1 hmk
  go_loopw [27] (fun iv wr => Below w.heap.size w wr ∧ ((iv = .int .i64 0 ∧ wr.heap[w.heap.size]? = some (.cells #[.int .u8 0, .int .u8 0, .int .u8 0, .int .u8 0] 5)) ∨ (iv = .int .i64 1 ∧ wr.heap[w.heap.size]? = some (.cells #[.int .u8 ((n / 16777216 % 256 : Nat) : Int), .int .u8 0, .int .u8 0, .int .u8 0] 5)) ∨ (iv = .int .i64 2 ∧ wr.heap[w.heap.size]? = some (.cells #[.int .u8 ((n / 16777216 % 256 : Nat) : Int), .int .u8 ((n / 65536 % 256 : Nat) : Int), .int .u8 0, .int .u8 0] 5)) ∨ (iv = .int .i64 3 ∧ wr.heap[w.heap.size]? = some (.cells #[.int .u8 ((n / 16777216 % 256 : Nat) : Int), .int .u8 ((n / 65536 % 256 : Nat) : Int), .int .u8 ((n / 256 % 256 : Nat) : Int), .int .u8 0] 5)) ∨ (iv = .int .i64 4 ∧ wr.heap[w.heap.size]? = some (.cells #[.int .u8 ((n / 16777216 % 256 : Nat) : Int), .int .u8 ((n / 65536 % 256 : Nat) : Int), .int .u8 ((n / 256 % 256 : Nat) : Int), .int .u8 ((n % 256 : Nat) : Int)] 5)))) (fun iv _ => 4 - (intOf iv).toNat)
  case atStart => exact ⟨hb1, .inl ⟨rfl, hc1⟩⟩
  case round =>
    obtain ⟨hbr, hrel⟩ := hrel
    rcases hrel with ⟨rfl, hcr⟩ | ⟨rfl, hcr⟩ | ⟨rfl, hcr⟩ | ⟨rfl, hcr⟩ | ⟨rfl, hcr⟩
    · have e0 : ∀ o, wr.frozen? ⟨w.heap.size, o, none⟩ = false := fun o => free_of hcr
      have c0 : wr.cell? ⟨w.heap.size, 0, none⟩ = some ((.int .u8 0)) := cell_of hcr rfl
      have c1 : wr.cell? ⟨w.heap.size, 1, none⟩ = some ((.int .u8 0)) := cell_of hcr rfl
      have c2 : wr.cell? ⟨w.heap.size, 2, none⟩ = some ((.int .u8 0)) := cell_of hcr rfl
      have c3 : wr.cell? ⟨w.heap.size, 3, none⟩ = some ((.int .u8 0)) := cell_of hcr rfl
      go_wp2_with fail
      go_roundw
      case rel =>
        refine ⟨hbr.trans (((SetB.self hcr).store (o := 0) (lt_of_blk hcr) _).below (Nat.le_refl _)), .inr (.inl ⟨rfl, (((SetB.self hcr).store (o := 0) (lt_of_blk hcr) _).at (lt_of_blk hcr)).trans ?_⟩)⟩
        simp only [List.setIfInBounds_toArray, List.set_cons_zero, Option.some.injEq, Obj.cells.injEq, and_true, true_and, Array.mk.injEq, List.cons.injEq, Value.int.injEq]
        omega
      case measure => simp [intOf]
    · have e0 : ∀ o, wr.frozen? ⟨w.heap.size, o, none⟩ = false := fun o => free_of hcr
      have c0 : wr.cell? ⟨w.heap.size, 0, none⟩ = some ((.int .u8 ((n / 16777216 % 256 : Nat) : Int))) := cell_of hcr rfl
      have c1 : wr.cell? ⟨w.heap.size, 1, none⟩ = some ((.int .u8 0)) := cell_of hcr rfl
      have c2 : wr.cell? ⟨w.heap.size, 2, none⟩ = some ((.int .u8 0)) := cell_of hcr rfl
      have c3 : wr.cell? ⟨w.heap.size, 3, none⟩ = some ((.int .u8 0)) := cell_of hcr rfl
      go_wp2_with fail
      go_roundw
      case rel =>
        refine ⟨hbr.trans (((SetB.self hcr).store (o := 1) (lt_of_blk hcr) _).below (Nat.le_refl _)), .inr (.inr (.inl ⟨rfl, (((SetB.self hcr).store (o := 1) (lt_of_blk hcr) _).at (lt_of_blk hcr)).trans ?_⟩))⟩
        simp only [List.setIfInBounds_toArray, List.set_cons_zero, List.set_cons_succ, Option.some.injEq, Obj.cells.injEq, and_true, true_and, Array.mk.injEq, List.cons.injEq, Value.int.injEq]
        omega
      case measure => simp [intOf]
    · have e0 : ∀ o, wr.frozen? ⟨w.heap.size, o, none⟩ = false := fun o => free_of hcr
      have c0 : wr.cell? ⟨w.heap.size, 0, none⟩ = some ((.int .u8 ((n / 16777216 % 256 : Nat) : Int))) := cell_of hcr rfl
      have c1 : wr.cell? ⟨w.heap.size, 1, none⟩ = some ((.int .u8 ((n / 65536 % 256 : Nat) : Int))) := cell_of hcr rfl
      have c2 : wr.cell? ⟨w.heap.size, 2, none⟩ = some ((.int .u8 0)) := cell_of hcr rfl
      have c3 : wr.cell? ⟨w.heap.size, 3, none⟩ = some ((.int .u8 0)) := cell_of hcr rfl
      go_wp2_with fail
      go_roundw
      case rel =>
        refine ⟨hbr.trans (((SetB.self hcr).store (o := 2) (lt_of_blk hcr) _).below (Nat.le_refl _)), .inr (.inr (.inr (.inl ⟨rfl, (((SetB.self hcr).store (o := 2) (lt_of_blk hcr) _).at (lt_of_blk hcr)).trans ?_⟩)))⟩
        simp only [List.setIfInBounds_toArray, List.set_cons_zero, List.set_cons_succ, Option.some.injEq, Obj.cells.injEq, and_true, true_and, Array.mk.injEq, List.cons.injEq, Value.int.injEq]
        omega
      case measure => simp [intOf]
    · have e0 : ∀ o, wr.frozen? ⟨w.heap.size, o, none⟩ = false := fun o => free_of hcr
      have c0 : wr.cell? ⟨w.heap.size, 0, none⟩ = some ((.int .u8 ((n / 16777216 % 256 : Nat) : Int))) := cell_of hcr rfl
      have c1 : wr.cell? ⟨w.heap.size, 1, none⟩ = some ((.int .u8 ((n / 65536 % 256 : Nat) : Int))) := cell_of hcr rfl
      have c2 : wr.cell? ⟨w.heap.size, 2, none⟩ = some ((.int .u8 ((n / 256 % 256 : Nat) : Int))) := cell_of hcr rfl
      have c3 : wr.cell? ⟨w.heap.size, 3, none⟩ = some ((.int .u8 0)) := cell_of hcr rfl
      go_wp2_with fail
      go_roundw
      case rel =>
        refine ⟨hbr.trans (((SetB.self hcr).store (o := 3) (lt_of_blk hcr) _).below (Nat.le_refl _)), .inr (.inr (.inr (.inr (⟨rfl, (((SetB.self hcr).store (o := 3) (lt_of_blk hcr) _).at (lt_of_blk hcr)).trans ?_⟩))))⟩
        simp only [List.setIfInBounds_toArray, List.set_cons_zero, List.set_cons_succ, Option.some.injEq, Obj.cells.injEq, and_true, true_and, Array.mk.injEq, List.cons.injEq, Value.int.injEq]
        omega
      case measure => simp [intOf]
    · go_wp2_with fail
      go_ret2
      exact ⟨_, rfl, own4 (Nat.le_refl _) hcr, hbr⟩
end Go.Proofs.YtadoflcomienoaaGreat
/- Slices of bytes: Clone, Grow. -/
namespace Go.Proofs.YtadoflcomienoaaGreat
open Go.RowKit

/-- a slice that reads as bytes -/
structure BS (w : World) (oa : Option Addr) (n c : Nat) (l : List Nat) : Prop where
  sl : RB.Sl w oa n c l
  nil : oa = none → c = 0
  le : n ≤ c
  cap : c ≤ maxLen
  ad : oa = none ∨ ∃ b o, oa = some ⟨b, o, none⟩
theorem BS.below {w w' : World} {oa : Option Addr} {n c : Nat} {l : List Nat} (h : BS w oa n c l) (hb : Below w.heap.size w w') : BS w' oa n c l := ⟨h.sl.keep hb, h.nil, h.le, h.cap, h.ad⟩
theorem bs_own {w : World} {base : Nat} {v : Value} {l : List Nat} (h : RB.Own w base v l) : ∃ oa c, v = .slice oa l.length c ∧ BS w oa l.length c l := by
  obtain ⟨oa, c, rfl, hlc, hcm, hsl, -⟩ := h.sl
  refine ⟨oa, c, rfl, hsl, ?_, hlc, hcm, ?_⟩
  · rintro rfl
    rcases h.cases with ⟨hv, _⟩ | ⟨g, cap, hv, _⟩
    · injection hv
    · cases hv
  · rcases h.cases with ⟨hv, _⟩ | ⟨g, cap, hv, _⟩
    · injection hv; exact .inl ‹_›
    · injection hv; exact .inr ⟨g, 0, ‹_›⟩
theorem step_append2 {P : Program} {ops : Array Oper} {Q : Exit → Act → World → Prop} {rest : List Oper} {o : Oper} {a : Act} {w : World} {t t2 : TypeId} {v u v' : Value} {w' : World} (hgd : o.guard = none) (s x : Operand) (ho : o.op = .call { callee := .builtin .append, args := #[s, x], argTypes := #[t, t2] }) (hs : a.eval s = v) (hx : a.eval x = u)
    (hrun : (Builtin.append_ #[t, t2] o.type #[v, u]).run P w = .ok v' w') (h : wpList P ops Q rest (a.put o.dst v') w') : wpList P ops Q (o :: rest) a w :=
  wpList_plain hgd fun K hK => by
    have hk := hK _ _ h
    unfold Oper.wp execOp
    simp only [ho, resolve, invoke, builtin, Sem.run_bind, Sem.run_pure, Result.andThen_ok, List.map_toArray, List.map_cons, List.map_nil, hs, hx, hrun]
    exact hk
theorem info5 : (Tryz.prog.info? 5).map (fun i => (i.zero, i.size, i.bytes)) = some (some (.int .u8 0), 1, 1) := by kernel_rfl
set_option maxRecDepth 100000 in
set_option maxHeartbeats 400000 in
theorem grow_nil (n : Nat) (hn : n ≤ 1000000000) (w : World) : Calls Tryz.prog 207 #[.slice none 0 0, .int .i64 n] w fun e w' => ∃ v, e = .returned v ∧ RB.Own w' w.heap.size v [] ∧ Below w.heap.size w w' := by
  have h0 : ((n : Int) < 0) = False := by simp only [eq_iff_iff, iff_false]; omega
  by_cases hz : n = 0
  · subst hz
    go_enter Tryz.func207, Tryz.ntmps207
    go_wp2_with fail
    go_ret
    exact ⟨_, rfl, Rep.Own.nil _ _, Below.refl _ _⟩
  · have h1 : (0 < n) = True := by simp only [eq_iff_iff, iff_true]; omega
    have h3 : ((0 : Int) < n) = True := by simp only [eq_iff_iff, iff_true]; omega
    have h2 : wrap64 (n : Int) = n := by unfold wrap64; omega
    obtain ⟨i, hi, hiz, his, hib⟩ := info_parts info5
    have hrun : ∀ ty, (Builtin.append_ #[110, 3] ty #[.slice none 0 0, .int .i64 n]).run Tryz.prog w = _ := fun ty => Lib.run_append_grow_zeros w 110 3 ty 5 i (.int .u8 0) .i64 .i64 Tryz.underlying110 Tryz.underlying3 hi hiz none 0 0 [] (by rw [his]; simp [Builtin.firstCells]) n (by omega) (by omega) (by omega) (by omega) (by rw [hib]; omega) (growslice_fits (by omega) (by rw [hib]; omega))
    have H := Lib.hid hrun
    clear hrun hz
    go_enter Tryz.func207, Tryz.ntmps207
    go_wp2_with (refine step_append2 rfl (.tmp 20) (.tmp 21) rfl rfl rfl (H.out _) ?_)
    have hcap := grownCap_le_maxLen w n 0 5 (by unfold maxLen; omega)
    have hge := grownCap_ge w n 0 5
    go_ret
    refine ⟨_, rfl, ⟨rfl, .inr ⟨w.heap.size, _, _, rfl, Nat.le_refl _, hnew _ _, Nat.zero_le _, hcap, ?_, rfl⟩⟩, ((Below.refl w.heap.size w).alloc (Nat.le_refl _) _).drew⟩
    rw [Array.size_append, size_zeroCells, size_zeroCells]
    show n * 1 + (grownCap w n 0 5 - n) * 1 = grownCap w n 0 5 * 1
    omega
end Go.Proofs.YtadoflcomienoaaGreat
/- Concat. -/
namespace Go.Proofs.YtadoflcomienoaaGreat
open Go.RowKit

/-- a slice's header -/
def RH : Rep (Option Addr × Nat × Nat) := ⟨110, 1, by decide, fun x => [.slice x.1 x.2.1 x.2.2], fun _ => rfl, fun _ => rfl⟩
/-- slices that read as lists of bytes -/
structure BSS (w : World) (vs : List (Option Addr × Nat × Nat)) (ls : List (List Nat)) : Prop where
  len : vs.length = ls.length
  all : ∀ j, j < ls.length → RB.Sl w (vs.getD j default).1 (vs.getD j default).2.1 (vs.getD j default).2.2 (ls.getD j []) ∧ ((vs.getD j default).1 = none → (vs.getD j default).2.2 = 0)
theorem BSS.keep {w w' : World} {vs : List (Option Addr × Nat × Nat)} {ls : List (List Nat)} (h : BSS w vs ls) (hb : Below w.heap.size w w') : BSS w' vs ls := ⟨h.len, fun j hj => ⟨(h.all j hj).1.keep hb, (h.all j hj).2⟩⟩
def lsum (ls : List (List Nat)) : Nat := ls.flatten.length
theorem lsum_take {ls : List (List Nat)} {i : Nat} (h : i < ls.length) : lsum (ls.take (i + 1)) = lsum (ls.take i) + (ls.getD i []).length ∧ (ls.take (i + 1)).flatten = (ls.take i).flatten ++ ls.getD i [] := by
  have h1 : ls.take (i + 1) = ls.take i ++ [ls.getD i []] := by rw [List.take_succ_eq_append_getElem h]; simp [List.getD_eq_getElem?_getD, h]
  unfold lsum
  rw [h1, List.flatten_append, List.length_append]
  simp
theorem lsum_le (ls : List (List Nat)) (i : Nat) : lsum (ls.take i) ≤ lsum ls := by
  unfold lsum
  have h : ls.flatten = (ls.take i).flatten ++ (ls.drop i).flatten := by rw [← List.flatten_append, List.take_append_drop]
  rw [h, List.length_append]; omega
set_option maxRecDepth 100000 in
set_option maxHeartbeats 1000000 in
theorem concat_any {w : World} {oa : Option Addr} {n c : Nat} {vs : List (Option Addr × Nat × Nat)} {ls : List (List Nat)} (h : RH.Sl w oa n c vs) (hs : BSS w vs ls) (hn : n ≤ 1000) (hl : lsum ls ≤ 1000000) : Calls Tryz.prog 180 #[.slice oa n c] w fun e w' => ∃ v, e = .returned v ∧ RB.Own w' w.heap.size v ls.flatten ∧ Below w.heap.size w w' := by
  have hnl : n = ls.length := h.len.trans hs.len
  have H := Lib.hid (And.intro h hs)
  clear h hs
  go_enter Tryz.func180, Tryz.ntmps180
  go_wp2_with fail
  go_loopw [3, 11] (fun sv iv wr => ∃ i : Nat, i ≤ n ∧ iv = .int .i64 i ∧ sv = .int .i64 (lsum (ls.take i) : Nat) ∧ wr = w) (fun _ iv _ => n - (intOf iv).toNat)
  case atStart => exact ⟨0, Nat.zero_le _, rfl, rfl, rfl⟩
  case round =>
    obtain ⟨i, hi, rfl, rfl, rfl⟩ := hrel
    by_cases hlt : i < n
    · obtain ⟨bb, oo, rfl, hbb, hat⟩ := H.out.1.at hlt
      have c0 := hat 0 (by decide)
      simp only [RH, Nat.mul_one, Nat.add_zero, List.getElem?_cons_zero] at c0
      have hall := H.out.2.all i (by omega)
      have hlen := hall.1.len
      obtain ⟨h1, -⟩ := lsum_take (ls := ls) (i := i) (by omega)
      have h2 := lsum_le ls i
      have h3 := lsum_le ls (i + 1)
      have hil : ((i : Int) < (n : Int)) = True := by simp; omega
      generalize vs.getD i default = x at *
      generalize ls.getD i [] = y at *
      generalize hA : lsum (ls.take i) = A at *
      generalize hB : lsum (ls.take (i + 1)) = B at *
      have hw : IntKind.i64.wrap ((A : Int) + (x.2.1 : Int)) = (B : Int) := by rw [IntWalk.i64_in _ (by omega)]; omega
      have hw0 : ((B : Int) < 0) = False := by simp only [eq_iff_iff, iff_false]; omega
      have HB := Lib.hid hB
      clear hall hat hA hB
      go_wp2_with fail
      exact ⟨⟨i + 1, by omega, by rw [Int.natCast_succ], by rw [HB.out, ← hw, IntWalk.i64_in _ (by omega), hlen], trivial⟩, by show n - ((i : Int) + 1).toNat < n - (i : Int).toNat; omega⟩
    · obtain rfl : n = i := by omega
      have hil : ((n : Int) < (n : Int)) = False := by simp
      have hs : lsum (ls.take n) = lsum ls := by rw [hnl, List.take_length]
      rw [hs]
      clear hs
      go_wp2_with fail
      obtain ⟨w0, rfl⟩ : ∃ w0 : World, w0 = wr := ⟨_, rfl⟩
      refine (grow_nil (lsum ls) (by omega) _).mono ?_
      rintro e w1 ⟨v1, rfl, ho1, hb1⟩
      have HF := Lib.hid (And.intro ho1 hb1)
      clear ho1 hb1
      go_wp2_with fail
      go_loopw [6, 27] (fun sv iv wr2 => ∃ i : Nat, i ≤ n ∧ iv = .int .i64 i ∧ RB.Own wr2 w0.heap.size sv (ls.take i).flatten ∧ Below w0.heap.size w0 wr2) (fun _ iv _ => n - (intOf iv).toNat)
      case atStart => exact ⟨0, Nat.zero_le _, rfl, HF.out.1, HF.out.2⟩
      case round =>
        obtain ⟨i, hi2, rfl, hown, hbl⟩ := hrel
        by_cases hlt2 : i < n
        · obtain ⟨w2, rfl⟩ : ∃ w2 : World, w2 = wr := ⟨_, rfl⟩
          obtain ⟨bb, oo, rfl, hbb, hat⟩ := (H.out.1.keep hbl).at hlt2
          have c0 := hat 0 (by decide)
          simp only [RH, Nat.mul_one, Nat.add_zero, List.getElem?_cons_zero] at c0
          have hall := (H.out.2.keep hbl).all i (by omega)
          have hlen := hall.1.len
          obtain ⟨h1, h2⟩ := lsum_take (ls := ls) (i := i) (by omega)
          have h3 := lsum_le ls (i + 1)
          have hil2 : ((i : Int) < (n : Int)) = True := by simp; omega
          generalize vs.getD i default = x at *
          generalize ls.getD i [] = y at *
          unfold lsum at h1 h3 hl
          have HB := Lib.hid (And.intro hown (And.intro hbl (And.intro hall h2)))
          clear hall hat h2 hown hbl
          go_wp2_with (at_builtin; refine halt ?_)
          refine Halted.go ?_
          refine Rep.append_list T27 rfl _ _ rfl (base := w0.heap.size) rfl HB.out.1 rfl (hlen ▸ HB.out.2.2.1.1) HB.out.2.2.1.2 (by unfold maxLen; omega) (by omega) HB.out.2.1.size ?_
          intro v3 w3 hown3 hb3 _
          have HG := Lib.hid (And.intro hown3 (HB.out.2.1.trans hb3))
          clear hown3 hb3
          go_wp2_with fail
          exact ⟨⟨i + 1, by omega, by rw [Int.natCast_succ], by rw [HB.out.2.2.2]; exact HG.out.1, HG.out.2⟩, by show n - ((i : Int) + 1).toNat < n - (i : Int).toNat; omega⟩
        · obtain rfl : n = i := by omega
          have HB := Lib.hid (And.intro hown hbl)
          clear hown hbl
          go_wp2_with fail
          go_ret
          refine ⟨_, rfl, ?_, HB.out.2⟩
          have := HB.out.1
          rwa [hnl, List.take_length] at this
end Go.Proofs.YtadoflcomienoaaGreat
/- Readers: numbers. -/
namespace Go.Proofs.YtadoflcomienoaaGreat
open Go.RowKit

/-- blocks of bytes stay as they are -/
structure Keep5 (w w' : World) : Prop where
  size : w.heap.size ≤ w'.heap.size
  blk : ∀ (b : Nat) (cs : Array Value), w.heap[b]? = some (Obj.cells cs 5) → w'.heap[b]? = w.heap[b]?
theorem Keep5.of_below {w w' : World} (h : Below w.heap.size w w') : Keep5 w w' := ⟨h.size, fun b _ hb => h.block b (lt_of_blk hb)⟩
theorem Keep5.of_but {w w' : World} {g : Nat} {cs : Array Value} {T : TypeId} (h : But w w' [g]) (hg : w.heap[g]? = some (.cells cs T)) (hT : T ≠ 5) : Keep5 w w' :=
  ⟨h.size, fun b cs' hb => h.block b (lt_of_blk hb) (by
    intro hm
    obtain rfl : b = g := by simpa using hm
    rw [hg] at hb; injection hb with hb; injection hb with _ hb _; exact hT hb)⟩
theorem Keep5.of_set {w w' : World} {q : Nat} {cs : Array Value} {T : TypeId} {o : Obj} (h : SetB w w' q o) (hq : w.heap[q]? = some (.cells cs T)) (hT : T ≠ 5) : Keep5 w w' :=
  ⟨by rw [h.size]; exact Nat.le_refl _, fun b cs' hb => h.other (by
    rintro rfl
    rw [hq] at hb; injection hb with hb; injection hb with _ hb _; exact hT hb)⟩
theorem Keep5.trans {a b c : World} (h : Keep5 a b) (k : Keep5 b c) : Keep5 a c := ⟨Nat.le_trans h.size k.size, fun q cs hq => (k.blk q cs ((h.blk q cs hq).trans hq)).trans (h.blk q cs hq)⟩
/-- a slice that reads as bytes, out of a block of bytes -/
structure B5 (w : World) (oa : Option Addr) (n c : Nat) (l : List Nat) : Prop where
  bs : BS w oa n c l
  t5 : ∀ b o, oa = some ⟨b, o, none⟩ → ∃ cs : Array Value, w.heap[b]? = some (Obj.cells cs 5)
namespace B5
variable {w w' : World} {oa : Option Addr} {n c : Nat} {l : List Nat}
theorem sl (h : B5 w oa n c l) : RB.Sl w oa n c l := h.bs.sl
theorem nil (h : B5 w oa n c l) : oa = none → c = 0 := h.bs.nil
theorem le (h : B5 w oa n c l) : n ≤ c := h.bs.le
theorem cap (h : B5 w oa n c l) : c ≤ maxLen := h.bs.cap
theorem ad (h : B5 w oa n c l) : oa = none ∨ ∃ b o, oa = some ⟨b, o, none⟩ := h.bs.ad
theorem keep (h : B5 w oa n c l) (hb : Keep5 w w') : B5 w' oa n c l :=
  ⟨⟨⟨h.sl.len, h.sl.max, fun h0 => by
    obtain ⟨b, o, e, hr⟩ := h.sl.row h0
    obtain ⟨cs, hcs⟩ := h.t5 b o e
    exact ⟨b, o, e, Nat.lt_of_lt_of_le hr.lt hb.size, fun i hi => (hr.get i hi).keep (hb.blk b cs hcs)⟩⟩, h.nil, h.le, h.cap, h.ad⟩, fun b o e => by
    obtain ⟨cs, hcs⟩ := h.t5 b o e
    exact ⟨cs, (hb.blk b cs hcs).trans hcs⟩⟩
theorem below (h : B5 w oa n c l) (hb : Below w.heap.size w w') : B5 w' oa n c l := h.keep (.of_below hb)
end B5
/-- a reader at a block: what is left, and whether it is bad -/
structure RdAt (T : TypeId) (g : Nat) (l : List Nat) (bad : Bool) (w : World) : Prop where
  out : ∃ oa n c, w.heap[g]? = some (.cells #[.slice oa n c, .bool bad] T) ∧ B5 w oa n c l ∧ ∀ b o, oa = some ⟨b, o, none⟩ → b ≠ g
  bytes : Bytes l
  le : l.length ≤ 100000
  t5 : T ≠ 5
theorem Bytes.drop {l : List Nat} (h : Bytes l) (k : Nat) : Bytes (l.drop k) := fun x hx => h x (List.mem_of_mem_drop hx)
theorem Bytes.take {l : List Nat} (h : Bytes l) (k : Nat) : Bytes (l.take k) := fun x hx => h x (List.mem_of_mem_take hx)
theorem RdAt.keep {T : TypeId} {g : Nat} {l : List Nat} {bad : Bool} {w w' : World} (h : RdAt T g l bad w) (hb : Keep5 w w') (hg : w'.heap[g]? = w.heap[g]?) : RdAt T g l bad w' := by
  obtain ⟨⟨oa, n, c, h1, h2, h3⟩, h4, h5, h6⟩ := h
  exact ⟨⟨oa, n, c, hg.trans h1, h2.keep hb, h3⟩, h4, h5, h6⟩
theorem RdAt.lt {T : TypeId} {g : Nat} {l : List Nat} {bad : Bool} {w : World} (h : RdAt T g l bad w) : g < w.heap.size := by
  obtain ⟨⟨oa, n, c, h1, h2, h3⟩, h4, h5⟩ := h
  exact lt_of_blk h1
theorem RdAt.on {T : TypeId} {g : Nat} {l : List Nat} {bad : Bool} {w w' : World} (h : RdAt T g l bad w) (hb : Below w.heap.size w w') : RdAt T g l bad w' := h.keep (.of_below hb) (hb.block g h.lt)
theorem RdAt.k5 {T : TypeId} {g : Nat} {l : List Nat} {bad : Bool} {w w' : World} (h : RdAt T g l bad w) (hb : But w w' [g]) : Keep5 w w' := by
  obtain ⟨⟨oa, n, c, h1, h2, h3⟩, h4, h5, h6⟩ := h
  exact .of_but hb h1 h6
end Go.Proofs.YtadoflcomienoaaGreat
/- Slices of slices: what s[:i] and s[i:] are, and what they read as. -/
namespace Go.Proofs.YtadoflcomienoaaGreat
open Go.RowKit
namespace Rep
variable {α : Type} [Inhabited α] {R : Rep α} {P : Program}
theorem Ty.elem {t : TypeId} {bytes : Nat} (hT : Ty P t R bytes) : P.elem t = R.T := by
  unfold Program.elem; rw [hT.ht]
theorem Ty.elem' {t : TypeId} {bytes : Nat} (hT : Ty P t R bytes) : P.underlying t = some (.slice (P.elem t)) := by rw [hT.elem]; exact hT.ht
theorem Ty.size {t : TypeId} {bytes : Nat} (hT : Ty P t R bytes) (w : World) : (sizeOf (P.elem t)).run P w = .ok R.k w := by
  rw [hT.elem]
  obtain ⟨i, z, h1, h2, h3, h4, h5⟩ := hT.hi
  simp [sizeOf, typeInfo, h1, h3]
/-- where the cut slice begins -/
def cutAddr (a : Option Addr) (l m k : Nat) : Option Addr := if m = l then a else a.map (·.add (l * k))
theorem cutAddr_some {b o l m k : Nat} : ∃ o', cutAddr (some ⟨b, o, none⟩) l m k = some ⟨b, o', none⟩ ∧ (m ≠ l → o' = o + l * k) := by
  unfold cutAddr
  split
  · rename_i h; exact ⟨o, rfl, fun h' => absurd h h'⟩
  · refine ⟨o + l * k, ?_, fun _ => rfl⟩
    show some ((⟨b, o, none⟩ : Addr).add (l * k)) = _
    unfold Addr.add; split <;> simp_all
theorem cutAddr_isNone {a : Option Addr} {l m k : Nat} (h : cutAddr a l m k = none) : a = none := by
  unfold cutAddr at h
  split at h
  · exact h
  · cases a with
    | none => rfl
    | some _ => cases h
theorem cut_from {t : TypeId} {bytes : Nat} (hT : Ty P t R bytes) {w : World} {a : Option Addr} {n c : Nat} {L : List α} (hs : R.Sl w a n c L) (hnc : n ≤ c) (hn0 : a = none → c = 0) {i : Nat} (hi : i ≤ n) :
    ∃ sa, (∀ W, (Instr.sliceAt t (.slice a n c) (some (.int .i64 (i : Int))) none none).run P W = .ok (.slice sa (n - i) (c - i)) W) ∧ (∀ W, (Instr.slice t (.slice a n c) (some (.int .i64 (i : Int))) none none).run P W = .ok (.slice sa (n - i) (c - i)) W) ∧
      R.Sl w sa (n - i) (c - i) (L.drop i) ∧ (sa = none → c - i = 0) ∧ ∀ b o, a = some ⟨b, o, none⟩ → ∃ o', sa = some ⟨b, o', none⟩ := by
  have h2 : ∀ W, (Instr.slice t (.slice a n c) (some (.int .i64 (i : Int))) none none).run P W = .ok (.slice (cutAddr a i c R.k) (n - i) (c - i)) W := fun W => by
    rw [run_slice_l W t a n c hT.elem' .i64 (i : Int) (by omega) (by omega), hT.size W]
    simp only [Result.andThen, sliced, Int.toNat_natCast, cutAddr]
  refine ⟨cutAddr a i c R.k, fun W => ?_, h2, ⟨by rw [List.length_drop, ← hs.len], by have := hs.max; omega, fun h0 => ?_⟩, fun e => ?_, fun b o e => ?_⟩
  · rw [run_sliceAt_slice W t _ _ _ _ hT.elem']; exact h2 W
  · obtain ⟨b, o, e, hr⟩ := hs.row (by omega)
    obtain ⟨o', e', ho'⟩ := cutAddr_some (b := b) (o := o) (l := i) (m := c) (k := R.k)
    rw [e, e']
    refine ⟨b, o', rfl, ?_⟩
    rw [ho' (by omega)]
    exact hr.drop i
  · rw [hn0 (cutAddr_isNone e)]; omega
  · subst e
    obtain ⟨o', e', -⟩ := cutAddr_some (b := b) (o := o) (l := i) (m := c) (k := R.k)
    exact ⟨o', e'⟩
theorem cut_to {t : TypeId} {bytes : Nat} (hT : Ty P t R bytes) {w : World} {a : Option Addr} {n c : Nat} {L : List α} (hs : R.Sl w a n c L) (hnc : n ≤ c) (hn0 : a = none → c = 0) {i : Nat} (hi : i ≤ n) :
    ∃ sa, (∀ W, (Instr.sliceAt t (.slice a n c) none (some (.int .i64 (i : Int))) none).run P W = .ok (.slice sa i c) W) ∧ (∀ W, (Instr.slice t (.slice a n c) none (some (.int .i64 (i : Int))) none).run P W = .ok (.slice sa i c) W) ∧
      R.Sl w sa i c (L.take i) ∧ (sa = none → c = 0) ∧ ∀ b o, a = some ⟨b, o, none⟩ → ∃ o', sa = some ⟨b, o', none⟩ := by
  have h2 : ∀ W, (Instr.slice t (.slice a n c) none (some (.int .i64 (i : Int))) none).run P W = .ok (.slice (cutAddr a 0 c R.k) i c) W := fun W => by
    rw [run_slice_h W t a n c hT.elem' .i64 (i : Int) (by omega) (by omega), hT.size W]
    simp only [Result.andThen, sliced, Int.toNat_natCast, cutAddr, Nat.sub_zero]
  refine ⟨cutAddr a 0 c R.k, fun W => ?_, h2, ⟨by rw [List.length_take, ← hs.len]; omega, by have := hs.max; omega, fun h0 => ?_⟩, fun e => hn0 (cutAddr_isNone e), fun b o e => ?_⟩
  · rw [run_sliceAt_slice W t _ _ _ _ hT.elem']; exact h2 W
  · obtain ⟨b, o, e, hr⟩ := hs.row (by omega)
    obtain ⟨o', e', ho'⟩ := cutAddr_some (b := b) (o := o) (l := 0) (m := c) (k := R.k)
    rw [e, e']
    refine ⟨b, o', rfl, ?_⟩
    rw [ho' (by omega), Nat.zero_mul, Nat.add_zero]
    exact hr.take i
  · subst e
    obtain ⟨o', e', -⟩ := cutAddr_some (b := b) (o := o) (l := 0) (m := c) (k := R.k)
    exact ⟨o', e'⟩
end Rep
end Go.Proofs.YtadoflcomienoaaGreat
/- append onto a slice that is full: what it gives lies in a new block. -/
namespace Go.Proofs.YtadoflcomienoaaGreat
open Go Go.RowKit
namespace Rep
variable {α : Type} [Inhabited α] {R : Rep α} {P : Program} {ops : Array Oper} {rest : List Oper} {o : Oper} {a : Act} {Q : Exit → Act → World → Prop} {w : World}
theorem run_append_cut {t ty : TypeId} {bytes : Nat} (hT : Ty P t R bytes) {sa : Option Addr} {k : Nat} {L : List α} (hL : R.Sl w sa k k L) {sb : Option Addr} {m c : Nat} {M : List α} (hM : R.Sl w sb m c M) (h0 : 0 < m)
    (hmax : k + m ≤ maxLen) (hbytes : (k + m) * bytes ≤ 140737488355328) :
    ∃ v' w', (Builtin.append_ #[t, t] ty #[.slice sa k k, .slice sb m c]).run P w = .ok v' w' ∧ R.Own w' w.heap.size v' (L ++ M) ∧ Below w.heap.size w w' := by
  obtain ⟨b, off, rfl, hr⟩ := hM.row h0
  cases sa with
  | none =>
    have hk : k = 0 := by
      rcases Nat.eq_zero_or_pos k with h | h
      · exact h
      · obtain ⟨_, _, e, _⟩ := hL.row h; cases e
    subst hk
    obtain rfl : L = [] := List.length_eq_zero_iff.1 hL.len.symm
    obtain ⟨v', w', e1, e2, e3, _⟩ := run_append_list (ty := ty) hT (Own.nil (R := R) w w.heap.size) hM (fun h => by cases h) (by simpa using hmax) (by simpa using hbytes) (Nat.le_refl _)
    exact ⟨v', w', e1, e2, e3⟩
  | some ad =>
    obtain ⟨i, z, h1, h2, h3, h4, h5⟩ := hT.hi
    have holds : ∀ j u, (R.flat L)[j]? = some u → w.cell? (ad.add j) = some u := by
      rcases Nat.eq_zero_or_pos k with hk | hk
      · obtain rfl : L = [] := List.length_eq_zero_iff.1 (hL.len.symm.trans hk)
        intro j u hu; simp [flat] at hu
      · obtain ⟨b', o', e, hr'⟩ := hL.row hk
        cases e
        exact news_of_row hr'
    have hsmall : k + m ≤ 9223372036854775807 := by simp only [maxLen] at hmax; omega
    have hlo : (R.flat L).length = k * i.size := by rw [R.flat_length, ← hL.len, h3]
    have hln : (R.flat M).length = m * i.size := by rw [R.flat_length, ← hM.len, h3]
    have hrun := run_append_grow (P := P) w t ty R.T i z hT.ht h1 h2 ad k k (R.flat L) hlo holds ⟨b, off, none⟩ m c (R.flat M) hln (news_of_row hr) (by omega) (by omega) (growslice_fits (by omega) (by rw [h4]; exact hbytes))
    have hge := grownCap_ge w (k + m) k R.T
    have hcm : grownCap w (k + m) k R.T ≤ maxLen := grownCap_le_maxLen w (k + m) k R.T hmax
    refine ⟨_, _, hrun, ?_, ((Below.refl w.heap.size w).drew).alloc (Nat.le_refl _) _⟩
    show World.ownsRow _ _ R.T R.k _ (L ++ M).length (R.flat (L ++ M))
    rw [R.flat_append, List.length_append, ← hL.len, ← hM.len]
    refine ⟨by rw [List.length_append, hlo, hln, h3, Nat.add_mul], .inr ⟨w.heap.size, _, _, rfl, Nat.le_refl _, hnew w.drew _, hge, hcm, ?_, ?_⟩⟩
    · simp only [Array.size_append, List.size_toArray, size_zeroCells, h5, hlo, hln, h3, ← Nat.add_mul]
      congr 1
      omega
    · simp only [Array.toList_append, List.append_assoc]
      rw [← List.append_assoc]
      have e : (k + m) * R.k = (R.flat L ++ R.flat M).length := by rw [List.length_append, hlo, hln, h3, Nat.add_mul]
      rw [e]
      exact List.take_left
theorem sl_one {b c : Nat} {y : α} {T : TypeId} {fr : Nat × Nat} (h : w.heap[b]? = some (.cells (R.cells y).toArray T fr)) : R.Sl w (some ⟨b, 0, none⟩) 1 c [y] :=
  ⟨rfl, by unfold maxLen; omega, fun _ => ⟨b, 0, rfl, lt_of_blk h, fun i hi j hj => by
    obtain rfl : i = 0 := by simp at hi; exact hi
    rw [Nat.zero_mul, Nat.zero_add]
    have hs : j < (R.cells y).toArray.size := by simp [R.len, hj]
    rw [cell_of h (Array.getElem?_eq_getElem hs)]
    simp [List.getElem?_eq_getElem (show j < (R.cells y).length by rw [R.len]; exact hj)]⟩⟩
theorem sl_nil {a : Option Addr} {c : Nat} : R.Sl w a 0 c [] := ⟨rfl, by unfold maxLen; omega, fun h => absurd h (Nat.lt_irrefl _)⟩
theorem own_empty {b base : Nat} (h : w.heap[b]? = some (.cells #[] R.T (0, 0))) (hb : base ≤ b) : R.Own w base (.slice (some ⟨b, 0, none⟩) 0 0) [] :=
  ⟨by simp [flat], .inr ⟨b, 0, #[], rfl, hb, h, Nat.le_refl _, by unfold maxLen; omega, by simp, by simp [flat]⟩⟩
theorem Own.sl0 {base : Nat} {v : Value} {L : List α} (h : R.Own w base v L) : ∃ a c, v = .slice a L.length c ∧ R.Sl w a L.length c L ∧ (a = none → c = 0) := by
  rcases h.cases with ⟨rfl, rfl⟩ | ⟨g, cap, rfl, hg, hl, h1, h2, hr, -⟩
  · exact ⟨none, 0, rfl, sl_nil, fun _ => rfl⟩
  · exact ⟨some ⟨g, 0, none⟩, cap, rfl, ⟨rfl, by omega, fun _ => ⟨g, 0, rfl, hr⟩⟩, fun e => by cases e⟩
theorem append_cut {t : TypeId} {bytes : Nat} (hT : Ty P t R bytes) (hgd : o.guard = none) (s x : Operand) (ho : o.op = .call { callee := .builtin .append, args := #[s, x], argTypes := #[t, t] })
    {sa : Option Addr} {k : Nat} {L : List α} (hs : a.eval s = .slice sa k k) (hL : R.Sl w sa k k L) {sb : Option Addr} {m c : Nat} {M : List α} (hx : a.eval x = .slice sb m c) (hM : R.Sl w sb m c M) (h0 : 0 < m)
    (hmax : k + m ≤ maxLen) (hbytes : (k + m) * bytes ≤ 140737488355328)
    (h : ∀ v' w', R.Own w' w.heap.size v' (L ++ M) → Below w.heap.size w w' → wpList P ops Q rest (a.put o.dst v') w') : wpList P ops Q (o :: rest) a w :=
  wpList_plain hgd fun K hK => by
    obtain ⟨v', w', e1, e2, e3⟩ := run_append_cut hT hL hM h0 hmax hbytes (ty := o.type)
    have hk := hK _ _ (h v' w' e2 e3)
    unfold Oper.wp execOp
    simp only [ho, resolve, invoke, builtin, Sem.run_bind, Sem.run_pure, Result.andThen_ok, List.map_toArray, List.map_cons, List.map_nil, hs, hx, e1]
    exact hk
end Rep
end Go.Proofs.YtadoflcomienoaaGreat
