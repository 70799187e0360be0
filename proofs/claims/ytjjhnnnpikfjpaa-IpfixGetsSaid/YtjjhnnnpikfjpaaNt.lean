/- The pieces, one behind the other. -/
import Derived.Test.YtjjhnnnpikfjpaaNs
import Derived.Test.YtjjhnnnpikfjpaaRf
import Derived.Test.YtjjhnnnpikfjpaaPz
import Derived.Shelf.Abstract
import Derived.OwnWalkIn
import Derived.TacticsInMore
import Derived.LoopNIn
import Derived.LoopIn
namespace Go.Proofs.Ytjjhnnnpikfjpaa
open Go.RowKit Go.Shelf
attribute [local go_sem] Oper.semAt_some

theorem pieces_any (oa : Option Addr) (n c : Nat) (z : Int) (w : World) : Calls Try.prog 41 #[.slice oa n c, .int .i64 z] w fun e w' => e = .returned (.func (.func 53) #[] #[.pointer (some ⟨w.heap.size, 0, none⟩), .pointer (some ⟨w.heap.size + 1, 0, none⟩)]) ∧ w' = (w.alloc (.cells #[.slice oa n c] 27)).alloc (.cells #[.int .i64 z] 3) := by
  go_enter Try.func41, Try.ntmps41
  go_wp2_with fail
  go_ret
  exact ⟨rfl, rfl⟩
def adr (oa : Option Addr) (m : Nat) : Option Addr := oa.map fun a => ⟨a.block, a.off + m, none⟩
theorem adr_add {oa : Option Addr} {m b o z : Nat} (h : adr oa m = some ⟨b, o, none⟩) : adr oa (m + z) = some ⟨b, o + z, none⟩ := by
  unfold adr at *
  cases oa with
  | none => cases h
  | some ad =>
    simp only [Option.map_some, Option.some.injEq, Addr.mk.injEq] at h ⊢
    first | exact ⟨h.1, by omega, h.2.2⟩ | exact ⟨h.1, by have := h.2; omega⟩ | exact ⟨h.1, by have := h.2; omega, trivial⟩
/-- how much is left in a variable -/
def slM (B : Nat) (w : World) : Nat := match w.cell? ⟨B, 0, none⟩ with
  | some (Value.slice _ q _) => q
  | _ => 0
theorem BxS.lt {b : Nat} {v : Value} {T : TypeId} {w : World} (h : BxS b v T w) : b < w.heap.size := lt_of_blk h
set_option maxRecDepth 100000 in
set_option maxHeartbeats 1000000 in
theorem pieces_iter {j : Nat} (l D : Nat) (r : Loop) (B1 B2 : Nat) (oa : Option Addr) (nn c z : Nat) (U : Nat → World → Prop) (W1 : World) (hz : 1 ≤ z) (hoa : 0 < nn → ∃ b o, oa = some ⟨b, o, none⟩) (hnc : nn ≤ c) (hcm : c ≤ maxLen) (hzm : z ≤ 3000000) (hB : B1 ≠ B2) (hlB : l ≠ B1) (hDB : D ≠ B1)
    (hU : ∀ k W v, U k W → (∃ v0, BxS B1 v0 27 W) → U k (W.setCell ⟨B1, 0, none⟩ v))
    (h1 : BxS B1 (.slice oa nn c) 27 W1) (h2 : BxS B2 (.int .i64 (z : Int)) 3 W1) (hu : U 0 W1) (hL : LoopAt l D r W1)
    (hY : ∀ i W, (i + 1) * z ≤ nn → U i W → BxS B1 (.slice (adr oa (i * z)) (nn - i * z) (c - i * z)) 27 W → BxS B2 (.int .i64 (z : Int)) 3 W → LoopAt l D r W → YieldAt Fence.wide j Try.prog l #[.slice (adr oa (i * z)) z (c - i * z)] W fun e W' => e = .returned (.bool true) ∧ U (i + 1) W' ∧ BxS B1 (.slice (adr oa (i * z)) (nn - i * z) (c - i * z)) 27 W' ∧ BxS B2 (.int .i64 (z : Int)) 3 W' ∧ LoopAt l D r W') :
    Calls Try.prog 53 #[.func (.yield l) #[] #[], .pointer (some ⟨B1, 0, none⟩), .pointer (some ⟨B2, 0, none⟩)] W1 fun e W' => (∃ v, e = .returned v) ∧ U (nn / z) W' ∧ LoopAt l D r W' := by
  have H := Lib.hid (And.intro hU (And.intro hY (And.intro hoa (And.intro hB (And.intro hlB hDB)))))
  have F := Lib.hid (And.intro h1 (And.intro h2 (And.intro hu hL)))
  clear hU hY hoa hB hlB hDB h1 h2 hu hL
  refine callsIn_wide.1 (show CallsIn Fence.wide (j + 1) _ _ _ _ _ from callsIn_of_wp Try.func53 rfl trivial ?_ rfl)
  simp only [Try.ntmps53, List.size_toArray, List.length_cons, List.length_nil, Nat.reduceAdd, Nat.reduceSub, Array.replicate_succ, Array.replicate_zero, List.push_toArray, List.append_toArray, List.nil_append, List.cons_append]
  gi_wp2
  gi_loopw [4] (fun _ wr => ∃ (k : Nat) (oa' : Option Addr), k * z ≤ nn ∧ k ≤ nn ∧ U k wr ∧ BxS B1 (.slice oa' (nn - k * z) (c - k * z)) 27 wr ∧ BxS B2 (.int .i64 (z : Int)) 3 wr ∧ LoopAt l D r wr ∧ (z + k * z ≤ nn → oa' = adr oa (k * z))) (fun _ wr => slM B1 wr)
  case atStart =>
    refine ⟨0, oa, by omega, by omega, F.out.2.2.1, by simpa using F.out.1, F.out.2.1, F.out.2.2.2, fun hz2 => ?_⟩
    obtain ⟨b, o, h⟩ := H.out.2.2.1 (by omega)
    rw [h]; simp [adr]
  case round =>
    obtain ⟨k, oa', hk, hkn, hu, hx1, hx2, hL, hoa⟩ := hrel
    obtain ⟨w2, rfl⟩ : ∃ w2 : World, w2 = wr := ⟨_, rfl⟩
    obtain ⟨m, hm⟩ : ∃ m, m = k * z := ⟨_, rfl⟩
    obtain ⟨q, hq⟩ : ∃ q, q = nn - m := ⟨_, rfl⟩
    obtain ⟨C1, hC1⟩ : ∃ C1, C1 = c - m := ⟨_, rfl⟩
    rw [← hm, ← hC1, ← hq] at hx1
    rw [← hm] at hk hoa
    have HM := Lib.hid (And.intro hm (And.intro hq hC1))
    by_cases hlt : z ≤ q
    · have hcm2 : c ≠ m := by omega
      have hoa2 := hoa (by omega)
      obtain ⟨b, o, hoab⟩ : ∃ b o, oa = some ⟨b, o, none⟩ := H.out.2.2.1 (by omega)
      have had : adr oa m = some ⟨b, o + m, none⟩ := by rw [hoab]; rfl
      rw [had] at hoa2
      subst hoa2
      have hy := H.out.2.1 k w2 (by rw [Nat.add_mul, Nat.one_mul, ← hm]; omega) hu (by rw [← hm, ← hq, ← hC1, had]; exact hx1) hx2 hL
      rw [← hm, ← hq, ← hC1, had] at hy
      obtain ⟨fn, tmps, assign, body, hyr, hR⟩ := hy
      have hle : ((z : Int) ≤ (q : Int)) = True := by simp; omega
      have hqc : q ≤ C1 := by omega
      have hc1m : C1 ≤ maxLen := by omega
      have hzc : z ≤ C1 := by omega
      have e1 := hx1.cell
      have e2 := hx2.cell
      have hR2 := hR.mono (R' := fun e' W' => e' = .returned (.bool true) ∧ W'.cell? ⟨B1, 0, none⟩ = some (.slice (some ⟨b, o + m, none⟩) q C1) ∧ W'.cell? ⟨B2, 0, none⟩ = some (.int .i64 (z : Int)) ∧ W'.frozen? ⟨B1, 0, none⟩ = false ∧ Hid (U (k + 1) W' ∧ BxS B1 (.slice (some ⟨b, o + m, none⟩) q C1) 27 W' ∧ BxS B2 (.int .i64 (z : Int)) 3 W' ∧ LoopAt l D r W')) (fun e' W' h => ⟨h.1, h.2.2.1.cell, h.2.2.2.1.cell, free_of h.2.2.1, Lib.hid h.2⟩)
      have HZ := Lib.hid hR2
      have HAD := Lib.hid had
      have HE := Lib.hid hx1.cell
      clear hm hq hC1 hoa hu hx1 hx2 hL hR hR2 had hoab hcm2
      have hfin : ∀ (w3 : World), (U (k + 1) w3 ∧ BxS B1 (.slice (some ⟨b, o + m, none⟩) q C1) 27 w3 ∧ BxS B2 (.int .i64 (z : Int)) 3 w3 ∧ LoopAt l D r w3) → ∀ (oa2 : Option Addr), (c ≠ (k + 1) * z → oa2 = adr oa ((k + 1) * z)) → (∃ (k : Nat) (oa' : Option Addr), k * z ≤ nn ∧ k ≤ nn ∧ U k (w3.setCell ⟨B1, 0, none⟩ (.slice oa2 (q - z) (C1 - z))) ∧ BxS B1 (.slice oa' (nn - k * z) (c - k * z)) 27 (w3.setCell ⟨B1, 0, none⟩ (.slice oa2 (q - z) (C1 - z))) ∧ BxS B2 (.int .i64 (z : Int)) 3 (w3.setCell ⟨B1, 0, none⟩ (.slice oa2 (q - z) (C1 - z))) ∧ LoopAt l D r (w3.setCell ⟨B1, 0, none⟩ (.slice oa2 (q - z) (C1 - z))) ∧ (z + k * z ≤ nn → oa' = adr oa (k * z))) ∧ slM B1 (w3.setCell ⟨B1, 0, none⟩ (.slice oa2 (q - z) (C1 - z))) < slM B1 w2 := by
        intro w3 HW oa2 hoa2
        obtain ⟨hm, hq, hc⟩ := HM.out
        have hk1 : (k + 1) * z = m + z := by rw [Nat.add_mul, Nat.one_mul, hm]
        have hs := (SetB.self HW.2.1).store (o := 0) (lt_of_blk HW.2.1) (.slice oa2 (q - z) (C1 - z))
        have hb1 : BxS B1 (.slice oa2 (q - z) (C1 - z)) 27 (w3.setCell ⟨B1, 0, none⟩ (.slice oa2 (q - z) (C1 - z))) := setCell_blk HW.2.1 0 _
        have hkk : k + 1 ≤ (k + 1) * z := Nat.le_mul_of_pos_right _ (by omega)
        refine ⟨⟨k + 1, oa2, by omega, by omega, H.out.1 _ _ _ HW.1 ⟨_, HW.2.1⟩, ?_, (hs.other (Ne.symm H.out.2.2.2.1)).trans HW.2.2.1, ⟨(hs.other H.out.2.2.2.2.1).trans HW.2.2.2.loop, (hs.other H.out.2.2.2.2.2).trans HW.2.2.2.defd⟩, fun h9 => hoa2 (by omega)⟩, ?_⟩
        · rw [hk1, show nn - (m + z) = q - z by omega, show c - (m + z) = C1 - z by omega]
          exact hb1
        · unfold slM
          rw [hb1.cell, HE.out]
          show q - z < q
          omega
      have HFIN := Lib.hid hfin
      clear hfin
      by_cases hcz : C1 = z
      · subst hcz
        gi_wp2_with (refine (HZ.out).mono ?_; rintro e3 w3 ⟨rfl, d1, d2, f1, HW⟩)
        have h := HFIN.out w3 HW.out (some ⟨b, o + m, none⟩) (fun hne => by
          exfalso
          have hk1 : (k + 1) * C1 = m + C1 := by rw [Nat.add_mul, Nat.one_mul, HM.out.1]
          have := HM.out.2.2
          omega)
        rw [Nat.sub_self, show q - C1 = 0 by omega] at h
        exact h
      · gi_wp2_with (refine (HZ.out).mono ?_; rintro e3 w3 ⟨rfl, d1, d2, f1, HW⟩)
        exact HFIN.out w3 HW.out (some ⟨b, o + m + z, none⟩) (fun _ => by
          have hk1 : (k + 1) * z = m + z := by rw [Nat.add_mul, Nat.one_mul, HM.out.1]
          rw [hk1]
          exact (adr_add HAD.out).symm)
    · have hle : ((z : Int) ≤ (q : Int)) = False := by simp; omega
      have hkd : k = nn / z := by
        have h2 : (k + 1) * z = k * z + z := by rw [Nat.add_mul, Nat.one_mul]
        exact (Nat.div_eq_of_lt_le (by omega) (by omega)).symm
      have e1 := hx1.cell
      have e2 := hx2.cell
      have HW := Lib.hid (And.intro hu (And.intro hL hkd))
      clear hm hq hC1 hoa hu hx1 hx2 hL hkd
      gi_wp2
      refine ⟨fun f h => (by cases h), ?_⟩
      gi_wp2
      go_end0
      exact ⟨⟨_, rfl⟩, HW.out.2.2 ▸ HW.out.1, HW.out.2.1⟩
end Go.Proofs.Ytjjhnnnpikfjpaa
