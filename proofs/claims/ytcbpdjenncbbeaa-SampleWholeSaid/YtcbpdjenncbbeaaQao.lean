/- A range over a function whose body always goes on, over an iterator that may write variables of its own. -/
import Derived.Test.YtcbpdjenncbbeaaQaa
import Derived.RangeFuncNested
import Derived.RangeFuncBox
import Derived.RangeFuncBound
import Derived.RangeFuncLeaves
import Derived.OwnWalkIn
import Derived.Test.YtcbpdjenncbbeaaQac
import Derived.OrdersIn
import Derived.TacticsIn
import Derived.Test.YtcbpdjenncbbeaaQan
import Derived.Shelf.Abstract
import Derived.TacticsInMore
import Derived.LoopNIn
import Derived.LoopIn
namespace Go.Proofs.Ytcbpdjenncbbeaa
open Go Go.RowKit

section
variable {P : Program}
/-- the two blocks of a loop's own -/
structure LoopAt (l D : Nat) (r : Loop) (W : World) : Prop where
  loop : W.heap[l]? = some (.loop r)
  defd : W.heap[D]? = some (.deferred (some []))
theorem LoopAt.from {l D B : Nat} {r : Loop} {W W' : World} (h : LoopAt l D r W) (hl : B ≤ l) (hD : B ≤ D) (hk : KeepsFrom B W W') : LoopAt l D r W' := ⟨hk.same _ _ hl h.loop rfl, hk.same _ _ hD h.defd rfl⟩
theorem range_on {g : Operand} {ps : Array Tmp} {assign body : Code} {Q : Exit → Act → World → Prop} {a : Act} {w : World} {n gf : Nat} {lb : Array Value}
    (hg : a.eval g = .func (.func gf) #[] lb) (eg : ∀ args w, (callFunc gf args).run P w = .ok (.enter gf args) w) (encs : Nat → Array Value) (hps : ∀ i, (encs i).size = ps.size)
    (J J' : Nat → World → Prop) (E : World → Prop)
    (hput : ∀ W l o o', w.heap.size ≤ l → W.heap[l]? = some o → o.isCells = false → (∀ i, J i W → J i (W.putObj l o')) ∧ (∀ i, J' i W → J' i (W.putObj l o')) ∧ (E W → E (W.putObj l o')))
    (a₁ : Nat → Act)
    (hassign : ∀ (l i : Nat) (W : World) (K : Act → World → Prop), K (a₁ i) W → assign.wpIn (Fence.wide.inRound l) n P (Exit.then K (fun _ _ _ => False)) { tmps := (ps.zip (encs i)).foldl (fun t (p, v) => t.setIfInBounds p v) a.tmps, defers := [] } W)
    (hbody : ∀ (l i : Nat) (W : World), w.heap.size ≤ l → J i W → body.wpIn (Fence.wide.inRound l) n P (fun e _ W' => e = .normal ∧ KeepsFrom w.heap.size W W' ∧ J' i W') (a₁ i) W)
    (hiter : ∀ (l D : Nat) (r : Loop) (W1 : World), w.heap.size ≤ l → w.heap.size ≤ D → Below w.heap.size w W1 → LoopAt l D r W1 →
      (∀ i W, J i W → LoopAt l D r W → YieldAt Fence.wide n P l (encs i) W fun e W' => e = .returned (.bool true) ∧ J' i W' ∧ LoopAt l D r W') →
      Calls P gf (#[.func (.yield l) #[] #[]] ++ lb) W1 fun e W' => (∃ v, e = .returned v) ∧ E W' ∧ LoopAt l D r W')
    (hdone : ∀ D W, w.heap.size ≤ D → E W → W.heap[D]? = some (.deferred (some [])) → Q .normal { a with defers := { target := .collected D, args := #[] } :: a.defers } W) :
    (Code.rangeFunc g ps assign body).wpIn Fence.wide n P Q a w := by
  refine wpIn_rangeFunc fun fn hfn => ?_
  obtain ⟨r, hr⟩ : ∃ r : Loop, r = { state := .ready, pending := none, fn, tmps := a.tmps, params := ps, assign, body, defers := w.heap.size } := ⟨_, rfl⟩
  have hbel : Below w.heap.size w ((w.alloc (.deferred (some []))).alloc (.loop r)) := ((Below.refl w.heap.size w).alloc (Nat.le_refl _) _).alloc (by simp) _
  have hlp : LoopAt (w.heap.size + 1) w.heap.size r ((w.alloc (.deferred (some []))).alloc (.loop r)) := ⟨hnewAt (Array.size_push _).symm, hold (hnew _ _)⟩
  refine ⟨w.heap.size + 1, [{ target := .collected w.heap.size, args := #[] }], (w.alloc (.deferred (some []))).alloc (.loop r), { target := .fn (.func gf) lb, args := #[.func (.yield (w.heap.size + 1)) #[] #[]] }, (w.alloc (.deferred (some []))).alloc (.loop r), gf, #[.func (.yield (w.heap.size + 1)) #[] #[]] ++ lb, (w.alloc (.deferred (some []))).alloc (.loop r), ?_, ?_, ?_, ?_, fun h => (by cases h), ?_⟩
  · rw [hr]; exact run_enterLoop_outer _ _ _ _ _
  · simp only [resolve, hg]; simp [go_sem]
  · intro _ _; trivial
  · simp [invoke, go_sem, eg]
  · refine callsIn_wide.2 ((hiter (w.heap.size + 1) w.heap.size r _ (by omega) (Nat.le_refl _) hbel hlp ?_).mono ?_)
    · intro i W hJ hL
      have hlt : w.heap.size + 1 < W.heap.size := lt_of_blk hL.loop
      have hy := run_yield (P := P) (args := encs i) hL.loop (by rw [hr]; exact hps i)
      rw [hr] at hy
      refine ⟨fn, _, assign, body, hy, roundIn_of_wpIn trivial (hassign _ i W _ ⟨_, run_beginRound hL.loop (by rw [hr]), ?_⟩)⟩
      have hl2 : (W.putObj (w.heap.size + 1) (.loop { r with state := .busy })).heap[w.heap.size + 1]? = some (.loop { r with state := .busy }) := World.putObj_heap_same hlt
      have hd2 : (W.putObj (w.heap.size + 1) (.loop { r with state := .busy })).heap[w.heap.size]? = some (.deferred (some [])) := (World.putObj_heap_other (by omega)).trans hL.defd
      refine wpIn_mono (hbody _ i _ (by omega) ((hput W _ _ _ (by omega) hL.loop rfl).1 i hJ)) ?_
      rintro e a3 W3 ⟨rfl, hk, hJ'⟩
      have hl3 := hk.same _ _ (by omega) hl2 rfl
      have hd3 := hk.same _ _ (Nat.le_refl _) hd2 rfl
      have hend := run_endRound (P := P) none hl3
      refine ⟨_, _, hend, rfl, (hput W3 _ _ _ (by omega) hl3 rfl).2.1 i hJ', ?_, (World.putObj_heap_other (by omega)).trans hd3⟩
      rw [World.putObj_heap_same (lt_of_blk hl3), hr]
      rfl
    · rintro e W2 ⟨⟨v, rfl⟩, hE, hL⟩
      have hend := run_endLoop (P := P) hL.loop (by rw [hr]; simp)
      rw [hr] at hend
      exact ⟨none, _, hend, hdone _ _ (Nat.le_refl _) ((hput W2 _ _ _ (by omega) hL.loop rfl).2.2 hE) ((World.putObj_heap_other (by omega)).trans hL.defd)⟩
end
end Go.Proofs.Ytcbpdjenncbbeaa
/- A region that draws its order, inside a fence: one that comes up alone, two that come up together. -/
namespace Go.Proofs.Ytcbpdjenncbbeaa
open Go Go.RowKit

section
variable {F : Fence} {n : Nat} {P : Program} {ops : Array Oper} {md : Region.Mode}
theorem wpIn_then {o : Oper} {a : Act} {w : World} {K K0 : Act → World → Prop} {Q : Exit → Act → World → Prop} (h : o.wpIn F n P a w K (Exit.then K0 Q)) : o.wpIn F n P a w K Q := by
  unfold Oper.wpIn at *
  refine ⟨h.1, ?_⟩
  have h := h.2
  generalize (o.semAt F.round a.eval).run P w = r at *
  cases r with
  | ok x w' =>
    cases x <;> simp only [Oper.uponIn] at h ⊢ <;>
      first
        | exact h
        | exact ⟨h.1, CallsIn.mono h.2 (fun e w'' he => by cases e <;> first | exact he | exact (let ⟨a, w, h⟩ := he; ⟨a, w, h⟩))⟩
        | exact ⟨h.1, RoundIn.mono h.2 (fun e w'' he => by cases e <;> first | exact he | exact (let ⟨a, w, h⟩ := he; ⟨a, w, h⟩))⟩
  | halt x w' => cases x <;> simp only [Oper.uponIn] at h ⊢ <;> exact h
theorem inOp {Q : Exit → Act → World → Prop} {g : Nat} {i : Nat} {l0 : Array Bool} {a : Act} {w : World} (hi : i ∈ Region.ready md ops l0)
    (h : wpListIn F n P ops (Exit.then (wpAnyIn F n P md ops Q g (l0.setIfInBounds i true)) Q) (pick ops.toList [i]) a w) : wpOpIn F n P ops Q i (wpAnyIn F n P md ops Q g (l0.setIfInBounds i true)) a w := by
  obtain ⟨o, ho⟩ := ready_lt hi
  have hp : pick ops.toList [i] = [o] := by simp [pick, List.getD_eq_getElem?_getD, ho]
  rw [hp] at h
  unfold wpOpIn
  simp only [ho]
  unfold wpListIn at h
  by_cases hw : Region.wanted o (yielded ops a.tmps) = true
  · rw [if_pos hw] at h ⊢
    exact wpIn_then (Oper.wpIn_mono (fun a' w' h' => h') h)
  · rw [if_neg hw] at h ⊢
    exact ⟨h.1, h.2⟩
theorem inAny_one {Q : Exit → Act → World → Prop} {g : Nat} (i : Nat) {l0 : Array Bool} {a : Act} {w : World} (hB : decide (Region.ready md ops l0 = [i]) = true)
    (h : wpListIn F n P ops (Exit.then (wpAnyIn F n P md ops Q g (l0.setIfInBounds i true)) Q) (pick ops.toList [i]) a w) : wpAnyIn F n P md ops Q (g + 1) l0 a w := by
  have hr : Region.ready md ops l0 = [i] := by simpa using hB
  refine wpAnyIn_all hr (by simp) fun j hj => ?_
  obtain rfl : j = i := by simpa using hj
  exact inOp (by rw [hr]; simp) h
theorem inAny_two {Q : Exit → Act → World → Prop} {g : Nat} (i j : Nat) {l0 : Array Bool} {a : Act} {w : World} (hB : decide (Region.ready md ops l0 = [i, j]) = true)
    (h1 : wpListIn F n P ops (Exit.then (wpAnyIn F n P md ops Q g (l0.setIfInBounds i true)) Q) (pick ops.toList [i]) a w)
    (h2 : wpListIn F n P ops (Exit.then (wpAnyIn F n P md ops Q g (l0.setIfInBounds j true)) Q) (pick ops.toList [j]) a w) : wpAnyIn F n P md ops Q (g + 1) l0 a w := by
  have hr : Region.ready md ops l0 = [i, j] := by simpa using hB
  refine wpAnyIn_all hr (by simp) fun k hk => ?_
  simp only [List.mem_cons, List.not_mem_nil, or_false] at hk
  rcases hk with rfl | rfl
  · exact inOp (by rw [hr]; simp) h1
  · exact inOp (by rw [hr]; simp) h2
theorem wpIn_region_pieces {id : Nat} {Q : Exit → Act → World → Prop} {a : Act} {w : World} {l : List Oper} (hm : P.follows .mixedOrders = true)
    (h : wpAnyIn F n P .any l.toArray Q l.length (Array.replicate l.length false) a w.drew) : (Code.region id l.toArray true).wpIn F n P Q a w := by
  refine wpIn_region_any hm ?_
  simpa using h
end
end Go.Proofs.Ytcbpdjenncbbeaa
/- The pieces, one behind the other. -/
namespace Go.Proofs.Ytcbpdjenncbbeaa.Ip
open Go.RowKit Go.Shelf
attribute [local go_sem] Oper.semAt_some

theorem pieces_any (oa : Option Addr) (n c : Nat) (z : Int) (w : World) : Calls Try.prog 72 #[.slice oa n c, .int .i64 z] w fun e w' => e = .returned (.func (.func 81) #[] #[.pointer (some ⟨w.heap.size, 0, none⟩), .pointer (some ⟨w.heap.size + 1, 0, none⟩)]) ∧ w' = (w.alloc (.cells #[.slice oa n c] 50)).alloc (.cells #[.int .i64 z] 3) := by
  go_enter Try.func72, Try.ntmps72
  go_wp2_with fail
  go_ret
  exact ⟨rfl, rfl⟩
def adr (oa : Option Addr) (m : Nat) : Option Addr := oa.map fun a => ⟨a.block, a.off + m, none⟩
theorem adr_add {oa : Option Addr} {m b o z : Nat} (h : adr oa m = some ⟨b, o, none⟩) : adr oa (m + z) = some ⟨b, o + z, none⟩ := by
  unfold adr at *
  cases oa with
  | none => cases h
  | some ad =>
    simp only [Option.map_some, Option.some.injEq, Addr.mk.injEq] at h ⊢
    first | exact ⟨h.1, by omega, h.2.2⟩ | exact ⟨h.1, by have := h.2; omega⟩ | exact ⟨h.1, by have := h.2; omega, trivial⟩
/-- how much is left in a variable -/
def slM (B : Nat) (w : World) : Nat := match w.cell? ⟨B, 0, none⟩ with
  | some (Value.slice _ q _) => q
  | _ => 0
theorem BxS.lt {b : Nat} {v : Value} {T : TypeId} {w : World} (h : BxS b v T w) : b < w.heap.size := lt_of_blk h
set_option maxRecDepth 100000 in
set_option maxHeartbeats 1000000 in
theorem pieces_iter {j : Nat} (l D : Nat) (r : Loop) (B1 B2 : Nat) (oa : Option Addr) (nn c z : Nat) (U : Nat → World → Prop) (W1 : World) (hz : 1 ≤ z) (hoa : 0 < nn → ∃ b o, oa = some ⟨b, o, none⟩) (hnc : nn ≤ c) (hcm : c ≤ maxLen) (hzm : z ≤ 3000000) (hB : B1 ≠ B2) (hlB : l ≠ B1) (hDB : D ≠ B1)
    (hU : ∀ k W v, U k W → (∃ v0, BxS B1 v0 50 W) → U k (W.setCell ⟨B1, 0, none⟩ v))
    (h1 : BxS B1 (.slice oa nn c) 50 W1) (h2 : BxS B2 (.int .i64 (z : Int)) 3 W1) (hu : U 0 W1) (hL : LoopAt l D r W1)
    (hY : ∀ i W, (i + 1) * z ≤ nn → U i W → BxS B1 (.slice (adr oa (i * z)) (nn - i * z) (c - i * z)) 50 W → BxS B2 (.int .i64 (z : Int)) 3 W → LoopAt l D r W → YieldAt Fence.wide j Try.prog l #[.slice (adr oa (i * z)) z (c - i * z)] W fun e W' => e = .returned (.bool true) ∧ U (i + 1) W' ∧ BxS B1 (.slice (adr oa (i * z)) (nn - i * z) (c - i * z)) 50 W' ∧ BxS B2 (.int .i64 (z : Int)) 3 W' ∧ LoopAt l D r W') :
    Calls Try.prog 81 #[.func (.yield l) #[] #[], .pointer (some ⟨B1, 0, none⟩), .pointer (some ⟨B2, 0, none⟩)] W1 fun e W' => (∃ v, e = .returned v) ∧ U (nn / z) W' ∧ LoopAt l D r W' := by
  have H := Lib.hid (And.intro hU (And.intro hY (And.intro hoa (And.intro hB (And.intro hlB hDB)))))
  have F := Lib.hid (And.intro h1 (And.intro h2 (And.intro hu hL)))
  clear hU hY hoa hB hlB hDB h1 h2 hu hL
  refine callsIn_wide.1 (show CallsIn Fence.wide (j + 1) _ _ _ _ _ from callsIn_of_wp Try.func81 rfl trivial ?_ rfl)
  simp only [Try.ntmps81, List.size_toArray, List.length_cons, List.length_nil, Nat.reduceAdd, Nat.reduceSub, Array.replicate_succ, Array.replicate_zero, List.push_toArray, List.append_toArray, List.nil_append, List.cons_append]
  gi_wp2
  gi_loopw [4] (fun _ wr => ∃ (k : Nat) (oa' : Option Addr), k * z ≤ nn ∧ k ≤ nn ∧ U k wr ∧ BxS B1 (.slice oa' (nn - k * z) (c - k * z)) 50 wr ∧ BxS B2 (.int .i64 (z : Int)) 3 wr ∧ LoopAt l D r wr ∧ (z + k * z ≤ nn → oa' = adr oa (k * z))) (fun _ wr => slM B1 wr)
  case atStart =>
    refine ⟨0, oa, by omega, by omega, F.out.2.2.1, by simpa using F.out.1, F.out.2.1, F.out.2.2.2, fun hz2 => ?_⟩
    obtain ⟨b, o, h⟩ := H.out.2.2.1 (by omega)
    rw [h]; simp [adr]
  case round =>
    obtain ⟨k, oa', hk, hkn, hu, hx1, hx2, hL, hoa⟩ := hrel
    obtain ⟨w2, rfl⟩ : ∃ w2 : World, w2 = wr := ⟨_, rfl⟩
    obtain ⟨m, hm⟩ : ∃ m, m = k * z := ⟨_, rfl⟩
    obtain ⟨q, hq⟩ : ∃ q, q = nn - m := ⟨_, rfl⟩
    obtain ⟨C1, hC1⟩ : ∃ C1, C1 = c - m := ⟨_, rfl⟩
    rw [← hm, ← hC1, ← hq] at hx1
    rw [← hm] at hk hoa
    have HM := Lib.hid (And.intro hm (And.intro hq hC1))
    by_cases hlt : z ≤ q
    · have hcm2 : c ≠ m := by omega
      have hoa2 := hoa (by omega)
      obtain ⟨b, o, hoab⟩ : ∃ b o, oa = some ⟨b, o, none⟩ := H.out.2.2.1 (by omega)
      have had : adr oa m = some ⟨b, o + m, none⟩ := by rw [hoab]; rfl
      rw [had] at hoa2
      subst hoa2
      have hy := H.out.2.1 k w2 (by rw [Nat.add_mul, Nat.one_mul, ← hm]; omega) hu (by rw [← hm, ← hq, ← hC1, had]; exact hx1) hx2 hL
      rw [← hm, ← hq, ← hC1, had] at hy
      obtain ⟨fn, tmps, assign, body, hyr, hR⟩ := hy
      have hle : ((z : Int) ≤ (q : Int)) = True := by simp; omega
      have hqc : q ≤ C1 := by omega
      have hc1m : C1 ≤ maxLen := by omega
      have hzc : z ≤ C1 := by omega
      have e1 := hx1.cell
      have e2 := hx2.cell
      have hR2 := hR.mono (R' := fun e' W' => e' = .returned (.bool true) ∧ W'.cell? ⟨B1, 0, none⟩ = some (.slice (some ⟨b, o + m, none⟩) q C1) ∧ W'.cell? ⟨B2, 0, none⟩ = some (.int .i64 (z : Int)) ∧ W'.frozen? ⟨B1, 0, none⟩ = false ∧ Hid (U (k + 1) W' ∧ BxS B1 (.slice (some ⟨b, o + m, none⟩) q C1) 50 W' ∧ BxS B2 (.int .i64 (z : Int)) 3 W' ∧ LoopAt l D r W')) (fun e' W' h => ⟨h.1, h.2.2.1.cell, h.2.2.2.1.cell, free_of h.2.2.1, Lib.hid h.2⟩)
      have HZ := Lib.hid hR2
      have HAD := Lib.hid had
      have HE := Lib.hid hx1.cell
      clear hm hq hC1 hoa hu hx1 hx2 hL hR hR2 had hoab hcm2
      have hfin : ∀ (w3 : World), (U (k + 1) w3 ∧ BxS B1 (.slice (some ⟨b, o + m, none⟩) q C1) 50 w3 ∧ BxS B2 (.int .i64 (z : Int)) 3 w3 ∧ LoopAt l D r w3) → ∀ (oa2 : Option Addr), (c ≠ (k + 1) * z → oa2 = adr oa ((k + 1) * z)) → (∃ (k : Nat) (oa' : Option Addr), k * z ≤ nn ∧ k ≤ nn ∧ U k (w3.setCell ⟨B1, 0, none⟩ (.slice oa2 (q - z) (C1 - z))) ∧ BxS B1 (.slice oa' (nn - k * z) (c - k * z)) 50 (w3.setCell ⟨B1, 0, none⟩ (.slice oa2 (q - z) (C1 - z))) ∧ BxS B2 (.int .i64 (z : Int)) 3 (w3.setCell ⟨B1, 0, none⟩ (.slice oa2 (q - z) (C1 - z))) ∧ LoopAt l D r (w3.setCell ⟨B1, 0, none⟩ (.slice oa2 (q - z) (C1 - z))) ∧ (z + k * z ≤ nn → oa' = adr oa (k * z))) ∧ slM B1 (w3.setCell ⟨B1, 0, none⟩ (.slice oa2 (q - z) (C1 - z))) < slM B1 w2 := by
        intro w3 HW oa2 hoa2
        obtain ⟨hm, hq, hc⟩ := HM.out
        have hk1 : (k + 1) * z = m + z := by rw [Nat.add_mul, Nat.one_mul, hm]
        have hs := (SetB.self HW.2.1).store (o := 0) (lt_of_blk HW.2.1) (.slice oa2 (q - z) (C1 - z))
        have hb1 : BxS B1 (.slice oa2 (q - z) (C1 - z)) 50 (w3.setCell ⟨B1, 0, none⟩ (.slice oa2 (q - z) (C1 - z))) := setCell_blk HW.2.1 0 _
        have hkk : k + 1 ≤ (k + 1) * z := Nat.le_mul_of_pos_right _ (by omega)
        refine ⟨⟨k + 1, oa2, by omega, by omega, H.out.1 _ _ _ HW.1 ⟨_, HW.2.1⟩, ?_, (hs.other (Ne.symm H.out.2.2.2.1)).trans HW.2.2.1, ⟨(hs.other H.out.2.2.2.2.1).trans HW.2.2.2.loop, (hs.other H.out.2.2.2.2.2).trans HW.2.2.2.defd⟩, fun h9 => hoa2 (by omega)⟩, ?_⟩
        · rw [hk1, show nn - (m + z) = q - z by omega, show c - (m + z) = C1 - z by omega]
          exact hb1
        · unfold slM
          rw [hb1.cell, HE.out]
          show q - z < q
          omega
      have HFIN := Lib.hid hfin
      clear hfin
      by_cases hcz : C1 = z
      · subst hcz
        gi_wp2_with (refine (HZ.out).mono ?_; rintro e3 w3 ⟨rfl, d1, d2, f1, HW⟩)
        have h := HFIN.out w3 HW.out (some ⟨b, o + m, none⟩) (fun hne => by
          exfalso
          have hk1 : (k + 1) * C1 = m + C1 := by rw [Nat.add_mul, Nat.one_mul, HM.out.1]
          have := HM.out.2.2
          omega)
        rw [Nat.sub_self, show q - C1 = 0 by omega] at h
        exact h
      · gi_wp2_with (refine (HZ.out).mono ?_; rintro e3 w3 ⟨rfl, d1, d2, f1, HW⟩)
        exact HFIN.out w3 HW.out (some ⟨b, o + m + z, none⟩) (fun _ => by
          have hk1 : (k + 1) * z = m + z := by rw [Nat.add_mul, Nat.one_mul, HM.out.1]
          rw [hk1]
          exact (adr_add HAD.out).symm)
    · have hle : ((z : Int) ≤ (q : Int)) = False := by simp; omega
      have hkd : k = nn / z := by
        have h2 : (k + 1) * z = k * z + z := by rw [Nat.add_mul, Nat.one_mul]
        exact (Nat.div_eq_of_lt_le (by omega) (by omega)).symm
      have e1 := hx1.cell
      have e2 := hx2.cell
      have HW := Lib.hid (And.intro hu (And.intro hL hkd))
      clear hm hq hC1 hoa hu hx1 hx2 hL hkd
      gi_wp2
      refine ⟨fun f h => (by cases h), ?_⟩
      gi_wp2
      go_end0
      exact ⟨⟨_, rfl⟩, HW.out.2.2 ▸ HW.out.1, HW.out.2.1⟩
end Go.Proofs.Ytcbpdjenncbbeaa.Ip
/- Records. -/
namespace Go.Proofs.Ytcbpdjenncbbeaa.Ip
open Go.RowKit Go.Shelf
attribute [local go_sem] Oper.semAt_some

set_option maxRecDepth 100000 in
theorem recs_bad (t : Tm) (w : World) (h : FdsOk w t.fs) (hz : szT t = 0) (oa : Option Addr) (n c : Nat) : Calls Try.prog 57 #[t.v, .slice oa n c] w fun e w' => e = .returned (.tuple #[.slice none 0 0, .int .i64 310]) ∧ Below w.heap.size w w' := by
  have hal := (Below.refl w.heap.size w).alloc (Nat.le_refl _) (.cells #[.int .i64 t.id, .slice t.fs.a t.fs.n t.fs.c] 93)
  have hb1 : TmS w.heap.size #[.int .i64 t.id, .slice t.fs.a t.fs.n t.fs.c] (w.alloc (.cells #[.int .i64 t.id, .slice t.fs.a t.fs.n t.fs.c] 93)) := hnew _ _
  have hsz := size_tm t _ (h.keep hal)
  rw [hz] at hsz
  unfold Tm.v at *
  have HA := Lib.hid (And.intro hal hsz)
  obtain ⟨e0, e1⟩ := hb1.cells
  clear hal hsz hb1 hz
  go_enter Try.func57, Try.ntmps57
  go_wp2_with fail
  refine (HA.out.2).mono ?_
  rintro e w1 ⟨rfl, hb1⟩
  have HB := Lib.hid (bcall HA.out.1 (Nat.le_refl _) hb1)
  clear hb1 e0 e1
  go_wp2_with fail
  go_ret2
  exact ⟨rfl, HB.out⟩
/-- so many pieces are there -/
structure RcU (w : World) (b7 B1 B2 z : Nat) (l : List Nat) (k : Nat) (W : World) : Prop where
  bel : Below w.heap.size w W
  out : ∃ v vs, W.heap[b7]? = some (.cells #[v] 121) ∧ RH.Own W w.heap.size v vs ∧ PSS W vs (pcs z l k) ∧ v.ownBlock ≠ some b7 ∧ v.ownBlock ≠ some B1 ∧ v.ownBlock ≠ some B2
theorem own_cells {w : World} {base : Nat} {v : Value} {l : List (Option Addr × Nat × Nat)} (h : RH.Own w base v l) {b : Nat} (hb : v.ownBlock = some b) : ∃ cur, w.heap[b]? = some (.cells cur 50) := by
  rcases h.2 with ⟨h2, _⟩ | ⟨g, cap, cur, hv2, _, hh, _⟩
  · rw [h2] at hb; cases hb
  · rw [hv2] at hb
    injection hb with hb
    dsimp only at hb
    subst hb
    exact ⟨cur, hh⟩
theorem own_put {base : Nat} {v : Value} {vs : List (Option Addr × Nat × Nat)} {ls : List (List Nat)} {W : World} {q : Nat} {o o' : Obj} (h2 : RH.Own W base v vs) (h3 : PSS W vs ls) (ho : W.heap[q]? = some o) (hc : o.isCells = false) : RH.Own (W.putObj q o') base v vs ∧ PSS (W.putObj q o') vs ls := by
  have hsame : ∀ (b : Nat) (cs : Array Value) (T : TypeId) (fr : Nat × Nat), W.heap[b]? = some (Obj.cells cs T fr) → (W.putObj q o').heap[b]? = W.heap[b]? := fun b cs T fr hb => World.putObj_heap_other (by
    rintro rfl
    rw [ho] at hb; injection hb with hb; subst hb; cases hc)
  refine ⟨h2.keep (fun b e => ?_), h3.keep ⟨(grownBy_putObj' W q o').size, fun b cs hb => hsame _ _ _ _ hb⟩⟩
  obtain ⟨cur, hcur⟩ := own_cells h2 e
  exact hsame _ _ _ _ hcur
theorem below_put {w W : World} {q : Nat} {o' : Obj} (hb : Below w.heap.size w W) (hq : w.heap.size ≤ q) : Below w.heap.size w (W.putObj q o') := hb.trans ((Below.refl w.heap.size W).grown (grownBy_putObj' W q o') hb.size (fun k e => by cases e; exact hq))
theorem RcU.put {w : World} {b7 B1 B2 z k : Nat} {l : List Nat} {W : World} {q : Nat} {o o' : Obj} (h : RcU w b7 B1 B2 z l k W) (hq : w.heap.size ≤ q) (ho : W.heap[q]? = some o) (hc : o.isCells = false) : RcU w b7 B1 B2 z l k (W.putObj q o') := by
  obtain ⟨hb, v, vs, h1, h2, h3, h4⟩ := h
  have hne : ∀ (b : Nat) (cs : Array Value) (T : TypeId) (fr : Nat × Nat), W.heap[b]? = some (Obj.cells cs T fr) → b ≠ q := by
    rintro b cs T fr hb rfl
    rw [ho] at hb; injection hb with hb; subst hb; cases hc
  have hsame : ∀ (b : Nat) (cs : Array Value) (T : TypeId) (fr : Nat × Nat), W.heap[b]? = some (Obj.cells cs T fr) → (W.putObj q o').heap[b]? = W.heap[b]? := fun b cs T fr hb => World.putObj_heap_other (hne b cs T fr hb)
  have hsz : W.heap.size ≤ (W.putObj q o').heap.size := (grownBy_putObj' W q o').size
  refine ⟨hb.trans ((Below.refl w.heap.size W).grown (grownBy_putObj' W q o') hb.size (fun k e => by cases e; exact hq)), v, vs, (hsame _ _ _ _ h1).trans h1, h2.keep (fun b e => ?_), h3.keep ⟨hsz, fun b cs hb => hsame _ _ _ _ hb⟩, h4⟩
  obtain ⟨cur, hcur⟩ := own_cells h2 e
  exact hsame _ _ _ _ hcur
theorem RcU.set {w : World} {b7 B1 B2 z k : Nat} {l : List Nat} {W : World} {v0 v1 : Value} (h : RcU w b7 B1 B2 z l k W) (hB : w.heap.size ≤ B1) (hne : b7 ≠ B1) (hx : BxS B1 v0 50 W) : RcU w b7 B1 B2 z l k (W.setCell ⟨B1, 0, none⟩ v1) := by
  obtain ⟨hb, v, vs, h1, h2, h3, h4⟩ := h
  have hs := (SetB.self hx).store (o := 0) (lt_of_blk hx) v1
  refine ⟨hb.trans (hs.below hB), v, vs, (hs.other hne).trans h1, h2.keep (fun b e => hs.other ?_), h3.keep (.of_set hs hx (by decide)), h4⟩
  rintro rfl
  exact h4.2.1 e
theorem keeps_below {B : Nat} {W W' : World} (h : Below W.heap.size W W') : KeepsFrom B W W' := ⟨h.size, fun k _o _ hk _ => (h.block k (lt_of_blk hk)).trans hk⟩
section
variable {F : Fence} {nF : Nat} {P : Program} {ops : Array Oper} {rest : List Oper} {o : Oper} {a : Act} {Q : Exit → Act → World → Prop} {w : World} {α : Type} [Inhabited α] {R : Rep α}
theorem append_listIn {t : TypeId} {bytes : Nat} (hT : Rep.Ty P t R bytes) (hgd : o.guard = none) (s x : Operand) (ho : o.op = .call { callee := .builtin .append, args := #[s, x], argTypes := #[t, t] })
    {base : Nat} {v : Value} {L : List α} (hs : a.eval s = v) (hown : R.Own w base v L) {sa : Option Addr} {m c : Nat} {M : List α} (hx : a.eval x = .slice sa m c) (hM : R.Sl w sa m c M) (h0 : 0 < m)
    (hmax : L.length + m ≤ maxLen) (hbytes : (L.length + m) * bytes ≤ 140737488355328) (hbase : base ≤ w.heap.size)
    (h : ∀ v' w', R.Own w' base v' (L ++ M) → Below base w w' → (∀ bad, v.ownBlock ≠ some bad → bad < w.heap.size → v'.ownBlock ≠ some bad ∧ w'.heap[bad]? = w.heap[bad]?) → w.grownBy w' v.ownBlock → wpListIn F nF P ops Q rest (a.put o.dst v') w') : wpListIn F nF P ops Q (o :: rest) a w :=
  wpListIn_plain hgd fun K hK => by
    obtain ⟨v', w', e1, e2, e3, e4⟩ := Rep.run_append_list2 hT hown hM h0 hmax hbytes hbase (ty := o.type)
    have e5 : w.grownBy w' v.ownBlock := by
      obtain ⟨b, off, rfl, _⟩ := hM.row h0
      obtain ⟨v2, w2, f1, _, _, f4⟩ := Rep.run_append_list (ty := o.type) hT hown hM (fun h => by cases h) hmax hbytes hbase
      rw [e1] at f1; injection f1 with f1 f2; subst f2; exact f4
    have hk := hK _ _ (h v' w' e2 e3 e4 e5)
    unfold Oper.wpIn
    refine ⟨?_, ?_⟩
    · simp [Oper.about, ho, resolve, Target.leads, Sem.run_pure]
    · rw [Oper.semAt_plain F _ _ (by rw [ho]; intro c hc'; cases hc')]
      simp [execOp, ho, resolve, invoke, builtin, hs, hx, e1, Result.andThen]
      exact hk
end
set_option maxRecDepth 100000 in
set_option maxHeartbeats 4000000 in
theorem recs_ok (t : Tm) (w : World) (h : FdsOk w t.fs) (hz : 1 ≤ szT t ∧ szT t ≤ 3000000) {oa : Option Addr} {n c : Nat} {l : List Nat} (hb : BA w oa n c l) (hby : Bytes l) (hn : n ≤ 5000) : Calls Try.prog 57 #[t.v, .slice oa n c] w fun e w' => (∃ v vs, e = .returned (.tuple #[v, .int .i64 0]) ∧ RH.Own w' w.heap.size v vs ∧ PSS w' vs (pcs (szT t) l (n / szT t))) ∧ Below w.heap.size w w' := by
  have hal := (Below.refl w.heap.size w).alloc (Nat.le_refl _) (.cells #[.int .i64 t.id, .slice t.fs.a t.fs.n t.fs.c] 93)
  have hb1 : TmS w.heap.size #[.int .i64 t.id, .slice t.fs.a t.fs.n t.fs.c] (w.alloc (.cells #[.int .i64 t.id, .slice t.fs.a t.fs.n t.fs.c] 93)) := hnew _ _
  have hsz := size_tm t _ (h.keep hal)
  unfold Tm.v at *
  obtain ⟨z, hzz⟩ : ∃ z, z = szT t := ⟨_, rfl⟩
  rw [← hzz] at hsz hz ⊢
  obtain ⟨id, s⟩ := t
  dsimp only at *
  have hz0 : ((z : Int) == 0) = false := by rw [beq_eq_false_iff_ne]; omega
  have HA := Lib.hid (And.intro hal (And.intro hsz (And.intro hb (And.intro hby (And.intro hz hn)))))
  obtain ⟨e0, e1⟩ := hb1.cells
  clear hal hsz hb1 hzz hz hb hby h hn
  refine callsIn_wide.1 (show CallsIn Fence.wide 5 _ _ _ _ _ from callsIn_of_wp_marks Try.func57 rfl trivial ?_ rfl)
  simp only [Try.ntmps57, List.size_toArray, List.length_cons, List.length_nil, Nat.reduceAdd, Nat.reduceSub, Array.replicate_succ, Array.replicate_zero, List.push_toArray, List.append_toArray, List.nil_append, List.cons_append]
  gi_wp2_with (refine ⟨trivial, ?_⟩; (gi_at_call 71; refine (callsIn_wide.2 (HA.out.2.1)).mono ?_; rintro e w1 ⟨rfl, hb1⟩))
  refine ⟨trivial, (callsIn_wide.2 (pieces_any _ _ _ _ _)).mono ?_⟩
  rintro e w4 ⟨rfl, hw4⟩
  have hb0 := bcall HA.out.1 (Nat.le_refl _) hb1
  have hB4 : Below w.heap.size w w4 := by rw [hw4]; exact ((hb0.alloc hb0.size (.cells #[.slice none 0 0] 121)).alloc (Nat.le_trans hb0.size (by simp)) _).alloc (Nat.le_trans hb0.size (by simp; omega)) _
  have b7 : w4.heap[w1.heap.size]? = some (.cells #[.slice none 0 0] 121) := by rw [hw4]; exact hold (hold (hnew _ _))
  have b8 : BxS (w1.heap.size + 1) (.slice oa n c) 50 w4 := by rw [hw4]; exact hold (hnewAt (by simp))
  have b9 : BxS (w1.heap.size + 2) (.int .i64 (z : Int)) 3 w4 := by rw [hw4]; exact hnewAt (by simp)
  have hsz1 : (w1.alloc (.cells #[.slice none 0 0] 121)).heap.size = w1.heap.size + 1 := Array.size_push _
  have hws := hb0.size
  clear hb1 e0 e1 hw4 hb0
  rw [hsz1]
  gi_wp2
  clear hsz1
  generalize w1.heap.size = q1 at *
  have h4lt := lt_of_blk b9
  have HC := Lib.hid (And.intro hB4 (And.intro b7 (And.intro b8 b9)))
  clear hB4 b7 b8 b9
  refine range_on (n := 5) (gf := 81) (lb := #[.pointer (some ⟨q1 + 1, 0, none⟩), .pointer (some ⟨q1 + 1 + 1, 0, none⟩)]) rfl (enters_of Try.func81 (by kernel_rfl) rfl) (fun i => #[.slice (adr oa (i * z)) z (c - i * z)]) (fun _ => rfl)
    (fun i W => (i + 1) * z ≤ n ∧ RcU w q1 (q1 + 1) (q1 + 1 + 1) z l i W ∧ BxS (q1 + 1) (.slice (adr oa (i * z)) (n - i * z) (c - i * z)) 50 W ∧ BxS (q1 + 1 + 1) (.int .i64 (z : Int)) 3 W)
    (fun i W => RcU w q1 (q1 + 1) (q1 + 1 + 1) z l (i + 1) W ∧ BxS (q1 + 1) (.slice (adr oa (i * z)) (n - i * z) (c - i * z)) 50 W ∧ BxS (q1 + 1 + 1) (.int .i64 (z : Int)) 3 W)
    (fun W => RcU w q1 (q1 + 1) (q1 + 1 + 1) z l (n / z) W) ?hput
    (fun i => { tmps := #[.agg #[.int .i64 id, .slice s.a s.n s.c], .slice oa n c, .pointer (some ⟨w.heap.size, 0, none⟩), undef, .slice none 0 0, .int .i64 0, .int .i64 (z : Int), .pointer (some ⟨q1, 0, none⟩), .slice (adr oa (i * z)) z (c - i * z), .agg #[.int .i64 id, .slice s.a s.n s.c], .int .i64 (z : Int), .int .i64 (z : Int), .bool false, .slice oa n c, .int .i64 (z : Int), .func (.func 81) #[] #[.pointer (some ⟨q1 + 1, 0, none⟩), .pointer (some ⟨q1 + 1 + 1, 0, none⟩)], .slice (adr oa (i * z)) z (c - i * z), undef, undef, undef, undef, undef, undef], defers := [] }) ?hassign ?hbody ?hiter ?hdone
  case hput =>
    intro W lq o o' hl ho hc
    have hx : ∀ b v T, BxS b v T W → BxS b v T (W.putObj lq o') := fun b v T hb => (World.putObj_heap_other (by
      rintro rfl
      rw [hb] at ho; injection ho with ho; subst ho; cases hc)).trans hb
    have hlw : w.heap.size ≤ lq := by omega
    exact ⟨fun i h => ⟨h.1, h.2.1.put hlw ho hc, hx _ _ _ h.2.2.1, hx _ _ _ h.2.2.2⟩, fun i h => ⟨h.1.put hlw ho hc, hx _ _ _ h.2.1, hx _ _ _ h.2.2⟩, fun h => h.put hlw ho hc⟩
  case hassign =>
    intro lq i W K hK
    gi_wp2
    exact hK
  case hbody =>
    intro lq i W hl ⟨hi, hu, hx1, hx2⟩
    obtain ⟨hbel, v, vs, hv, hown, hps, hn7, hn8, hn9⟩ := hu
    have hzz := HA.out.2.2.2.2.1.1
    have hii : i * z + z ≤ n := by rw [← Nat.one_mul z, ← Nat.mul_assoc, Nat.mul_one, ← Nat.add_mul]; exact hi
    obtain ⟨m, hm⟩ : ∃ m, m = i * z := ⟨_, rfl⟩
    rw [← hm] at hii hx1 ⊢
    obtain ⟨b, o, hoab⟩ : ∃ b o, oa = some ⟨b, o, none⟩ := HA.out.2.2.1.ad (by omega)
    subst hoab
    have had : adr (some ⟨b, o, none⟩) m = some ⟨b, o + m, none⟩ := rfl
    rw [had] at hx1 ⊢
    have hcut := (HA.out.2.2.1.below hbel).cut (i := m) (k := z) hii
    have hbyp : Bytes ((l.drop m).take z) := (HA.out.2.2.2.1.drop m).take z
    obtain ⟨PC, hPC⟩ : ∃ PC, PC = (l.drop m).take z := ⟨_, rfl⟩
    rw [← hPC] at hcut hbyp
    have HPC := Lib.hid (And.intro hPC hbyp)
    clear hPC hbyp
    have HD := Lib.hid (And.intro hbel (And.intro hv (And.intro hown (And.intro hps (And.intro (And.intro hn7 (And.intro hn8 hn9)) (And.intro hcut (And.intro hx1 hx2)))))))
    have HM := Lib.hid (And.intro hm hii)
    clear hbel hv hown hps hn7 hn8 hn9 hcut hx1 hx2 hm hi hii had
    gi_wp2
    have hd := (Below.refl W.heap.size W).drew
    have HE := Lib.hid (And.intro (bcall HD.out.1 (Nat.le_refl _) hd) (And.intro ((hd.block _ (lt_of_blk HD.out.2.1)).trans HD.out.2.1) (And.intro (HD.out.2.2.1.below hd) (And.intro (HD.out.2.2.2.1.keep (.of_below hd)) (And.intro HD.out.2.2.2.2.1 (And.intro (HD.out.2.2.2.2.2.1.keep hd) (And.intro ((hd.block _ (lt_of_blk HD.out.2.2.2.2.2.2.1)).trans HD.out.2.2.2.2.2.2.1) (And.intro ((hd.block _ (lt_of_blk HD.out.2.2.2.2.2.2.2)).trans HD.out.2.2.2.2.2.2.2) (keeps_below (B := w4.heap.size) hd)))))))))
    clear hd HD
    refine wpIn_region_pieces (by kernel_rfl) ?_
    generalize hWd : W.drew = Wd at *
    clear hWd
    refine inAny_two 0 1 (by kernel_rfl) ?_ ?_
    · simp only [pick, List.getD_cons_zero]
      have e7 := cell_of (o := 0) HE.out.2.1 rfl
      gi_wp2
      clear e7
      refine inAny_one 1 (by kernel_rfl) ?_
      simp only [pick, List.getD_cons_zero, List.getD_cons_succ]
      gi_wp2
      refine inAny_one 2 (by kernel_rfl) ?_
      simp only [pick, List.getD_cons_zero, List.getD_cons_succ]
      gi_wp2_with (refine ⟨trivial, ?_⟩; gi_at_call 64; refine (CallsIn.inRound lq (callsIn_wide.2 (clone_any HE.out.2.2.2.2.2.1 (fun h => by cases h) (Nat.le_trans (Nat.le_trans (Nat.le_add_left _ _) HM.out.2) (Nat.le_trans HA.out.2.2.2.2.2 (by decide)))))).mono ?_; rintro e w3 ⟨v3, rfl, ho3, hb3⟩; obtain ⟨oa3, c3, rfl, hs3⟩ := b5_own ho3)
      have F4 := Lib.hid (And.intro (bcall HE.out.1 (Nat.le_refl _) hb3) (And.intro ((hb3.block _ (lt_of_blk HE.out.2.1)).trans HE.out.2.1) (And.intro (HE.out.2.2.1.below hb3) (And.intro (HE.out.2.2.2.1.keep (.of_below hb3)) (And.intro HE.out.2.2.2.2.1 (And.intro (HE.out.2.2.2.2.2.1.keep hb3) (And.intro ((hb3.block _ (lt_of_blk HE.out.2.2.2.2.2.2.1)).trans HE.out.2.2.2.2.2.2.1) (And.intro ((hb3.block _ (lt_of_blk HE.out.2.2.2.2.2.2.2.1)).trans HE.out.2.2.2.2.2.2.2.1) (And.intro (HE.out.2.2.2.2.2.2.2.2.trans (keeps_below hb3)) (hs3))))))))))
      clear HE
      clear hb3 ho3 hs3
      refine inAny_one 3 (by kernel_rfl) ?_
      simp only [pick, List.getD_cons_zero, List.getD_cons_succ]
      have hb5 := (Below.refl w3.heap.size w3).alloc (Nat.le_refl _) (.cells #[.slice oa3 PC.length c3] 50)
      have ho5 : RH.Own (w3.alloc (.cells #[.slice oa3 PC.length c3] 50)) w.heap.size (.slice (some ⟨w3.heap.size, 0, none⟩) 1 1) [(oa3, PC.length, c3)] := ⟨rfl, .inr ⟨w3.heap.size, 1, #[.slice oa3 PC.length c3], rfl, F4.out.1.size, hnew _ _, Nat.le_refl _, by unfold maxLen; omega, rfl, rfl⟩⟩
      have F6 := Lib.hid (And.intro (bcall F4.out.1 (Nat.le_refl _) hb5) (And.intro ((hb5.block _ (lt_of_blk F4.out.2.1)).trans F4.out.2.1) (And.intro (F4.out.2.2.1.below hb5) (And.intro (F4.out.2.2.2.1.keep (.of_below hb5)) (And.intro F4.out.2.2.2.2.1 (And.intro (F4.out.2.2.2.2.2.1.keep hb5) (And.intro ((hb5.block _ (lt_of_blk F4.out.2.2.2.2.2.2.1)).trans F4.out.2.2.2.2.2.2.1) (And.intro ((hb5.block _ (lt_of_blk F4.out.2.2.2.2.2.2.2.1)).trans F4.out.2.2.2.2.2.2.2.1) (And.intro (F4.out.2.2.2.2.2.2.2.2.1.trans (keeps_below hb5)) (And.intro (F4.out.2.2.2.2.2.2.2.2.2.below hb5) (ho5)))))))))))
      clear F4
      clear hb5 ho5
      gi_wp2
      generalize hq5 : w3.heap.size = q5 at *
      clear hq5
      generalize w3.alloc (.cells #[.slice oa3 PC.length c3] 50) = w5 at *
      refine inAny_one 4 (by kernel_rfl) ?_
      simp only [pick, List.getD_cons_zero, List.getD_cons_succ]
      obtain ⟨oa9, c9, hv9, -, -, hs9, -⟩ := F6.out.2.2.2.2.2.2.2.2.2.2.sl
      simp only [Value.slice.injEq] at hv9
      obtain ⟨rfl, -, rfl⟩ := hv9
      have hvl : vs.length ≤ 5000 := by
        have h1 := F6.out.2.2.2.1.len
        simp only [pcs, List.length_map, List.length_range] at h1
        have h2 := HM.out
        have h3 : i ≤ i * z := Nat.le_mul_of_pos_right _ (by omega)
        have h4 := HA.out.2.2.2.2.2
        omega
      refine append_listIn T42 rfl _ _ rfl (base := w.heap.size) (m := 1) rfl F6.out.2.2.1 rfl hs9 (by omega) (by unfold maxLen; omega) (by omega) F6.out.1.size ?_
      intro v7 w7 ho7 hb7 he7 hg7
      have hk7 := rh_keep5 F6.out.2.2.1 hb7.size (fun bad h1 h2 => (he7 bad h1 h2).2)
      have h7 := he7 q1 F6.out.2.2.2.2.1.1 (lt_of_blk F6.out.2.1)
      have h8 := he7 (q1 + 1) F6.out.2.2.2.2.1.2.1 (lt_of_blk F6.out.2.2.2.2.2.2.1)
      have h9 := he7 (q1 + 1 + 1) F6.out.2.2.2.2.1.2.2 (lt_of_blk F6.out.2.2.2.2.2.2.2.1)
      have hkf : KeepsFrom w4.heap.size w5 w7 := ⟨hb7.size, fun k o hk hok hcc => (hg7.block k (lt_of_blk hok) (fun e => by
        obtain ⟨cur, hcur⟩ := own_cells F6.out.2.2.1 e.symm
        rw [hok] at hcur; injection hcur with hcur; subst hcur; cases hcc)).trans hok⟩
      have F8 := Lib.hid (And.intro (F6.out.1.trans hb7) (And.intro (h7.2.trans F6.out.2.1) (And.intro ho7 (And.intro ((F6.out.2.2.2.1.keep hk7).snoc (F6.out.2.2.2.2.2.2.2.2.2.1.keep hk7) HPC.out.2) (And.intro (And.intro h7.1 (And.intro h8.1 h9.1)) (And.intro (show BxS (q1 + 1) (.slice (some ⟨b, o + m, none⟩) (n - m) (c - m)) 50 w7 from h8.2.trans F6.out.2.2.2.2.2.2.1) (And.intro (show BxS (q1 + 1 + 1) (.int .i64 (z : Int)) 3 w7 from h9.2.trans F6.out.2.2.2.2.2.2.2.1) ((F6.out.2.2.2.2.2.2.2.2.1.trans hkf)))))))))
      clear F6
      clear ho7 hb7 he7 hg7 hk7 h7 h8 h9 hkf hs9
      gi_wp2
      refine inAny_one 5 (by kernel_rfl) ?_
      simp only [pick, List.getD_cons_zero, List.getD_cons_succ]
      obtain ⟨oa5, n5, c5, rfl⟩ : ∃ oa n c, v7 = .slice oa n c := by
        obtain ⟨oa, c, h, -⟩ := F8.out.2.2.1.sl
        exact ⟨_, _, _, h⟩
      have f7 : w7.frozen? ⟨q1, 0, none⟩ = false := free_of F8.out.2.1
      have e7 := cell_of (o := 0) F8.out.2.1 rfl
      have hset := (SetB.self F8.out.2.1).store (o := 0) (lt_of_blk F8.out.2.1) (.slice oa5 n5 c5)
      have h7z := setCell_blk F8.out.2.1 0 (.slice oa5 n5 c5)
      have hkf : KeepsFrom w4.heap.size w7 (w7.setCell ⟨q1, 0, none⟩ (.slice oa5 n5 c5)) := ⟨by rw [hset.size]; exact Nat.le_refl _, fun k o hk hok hcc => (hset.other (by omega)).trans hok⟩
      have F9 := Lib.hid (And.intro (F8.out.1.trans (hset.below hws)) (And.intro h7z (And.intro (F8.out.2.2.1.keep (fun b hb => hset.other (fun e => F8.out.2.2.2.2.1.1 (e ▸ hb)))) (And.intro (F8.out.2.2.2.1.keep (.of_set hset F8.out.2.1 (by decide))) (And.intro F8.out.2.2.2.2.1 (And.intro (show BxS (q1 + 1) (.slice (some ⟨b, o + m, none⟩) (n - m) (c - m)) 50 (w7.setCell ⟨q1, 0, none⟩ (.slice oa5 n5 c5)) from (hset.other (by omega)).trans F8.out.2.2.2.2.2.1) (And.intro (show BxS (q1 + 1 + 1) (.int .i64 (z : Int)) 3 (w7.setCell ⟨q1, 0, none⟩ (.slice oa5 n5 c5)) from (hset.other (by omega)).trans F8.out.2.2.2.2.2.2.1) ((F8.out.2.2.2.2.2.2.2.trans hkf)))))))))
      clear F8
      clear hset h7z hkf
      gi_wp2
      refine wpAnyIn_done (by kernel_rfl) ?_ _
      refine ⟨rfl, F9.out.2.2.2.2.2.2.2, ⟨F9.out.1, _, _, F9.out.2.1, F9.out.2.2.1, ?_, F9.out.2.2.2.2.1⟩, F9.out.2.2.2.2.2.1, F9.out.2.2.2.2.2.2.1⟩
      have hps := F9.out.2.2.2.1
      rw [pcs_succ]
      unfold pc
      rw [← HM.out.1, ← HPC.out.1]
      exact hps
    · simp only [pick, List.getD_cons_zero, List.getD_cons_succ]
      gi_wp2
      refine inAny_two 0 2 (by kernel_rfl) ?_ ?_
      · simp only [pick, List.getD_cons_zero]
        have e7 := cell_of (o := 0) HE.out.2.1 rfl
        gi_wp2
        clear e7
        refine inAny_one 2 (by kernel_rfl) ?_
        simp only [pick, List.getD_cons_zero, List.getD_cons_succ]
        gi_wp2_with (refine ⟨trivial, ?_⟩; gi_at_call 64; refine (CallsIn.inRound lq (callsIn_wide.2 (clone_any HE.out.2.2.2.2.2.1 (fun h => by cases h) (Nat.le_trans (Nat.le_trans (Nat.le_add_left _ _) HM.out.2) (Nat.le_trans HA.out.2.2.2.2.2 (by decide)))))).mono ?_; rintro e w12 ⟨v12, rfl, ho12, hb12⟩; obtain ⟨oa3, c3, rfl, hs12⟩ := b5_own ho12)
        have F13 := Lib.hid (And.intro (bcall HE.out.1 (Nat.le_refl _) hb12) (And.intro ((hb12.block _ (lt_of_blk HE.out.2.1)).trans HE.out.2.1) (And.intro (HE.out.2.2.1.below hb12) (And.intro (HE.out.2.2.2.1.keep (.of_below hb12)) (And.intro HE.out.2.2.2.2.1 (And.intro (HE.out.2.2.2.2.2.1.keep hb12) (And.intro ((hb12.block _ (lt_of_blk HE.out.2.2.2.2.2.2.1)).trans HE.out.2.2.2.2.2.2.1) (And.intro ((hb12.block _ (lt_of_blk HE.out.2.2.2.2.2.2.2.1)).trans HE.out.2.2.2.2.2.2.2.1) (And.intro (HE.out.2.2.2.2.2.2.2.2.trans (keeps_below hb12)) (hs12))))))))))
        clear HE
        clear hb12 ho12 hs12
        refine inAny_one 3 (by kernel_rfl) ?_
        simp only [pick, List.getD_cons_zero, List.getD_cons_succ]
        have hb14 := (Below.refl w12.heap.size w12).alloc (Nat.le_refl _) (.cells #[.slice oa3 PC.length c3] 50)
        have ho14 : RH.Own (w12.alloc (.cells #[.slice oa3 PC.length c3] 50)) w.heap.size (.slice (some ⟨w12.heap.size, 0, none⟩) 1 1) [(oa3, PC.length, c3)] := ⟨rfl, .inr ⟨w12.heap.size, 1, #[.slice oa3 PC.length c3], rfl, F13.out.1.size, hnew _ _, Nat.le_refl _, by unfold maxLen; omega, rfl, rfl⟩⟩
        have F15 := Lib.hid (And.intro (bcall F13.out.1 (Nat.le_refl _) hb14) (And.intro ((hb14.block _ (lt_of_blk F13.out.2.1)).trans F13.out.2.1) (And.intro (F13.out.2.2.1.below hb14) (And.intro (F13.out.2.2.2.1.keep (.of_below hb14)) (And.intro F13.out.2.2.2.2.1 (And.intro (F13.out.2.2.2.2.2.1.keep hb14) (And.intro ((hb14.block _ (lt_of_blk F13.out.2.2.2.2.2.2.1)).trans F13.out.2.2.2.2.2.2.1) (And.intro ((hb14.block _ (lt_of_blk F13.out.2.2.2.2.2.2.2.1)).trans F13.out.2.2.2.2.2.2.2.1) (And.intro (F13.out.2.2.2.2.2.2.2.2.1.trans (keeps_below hb14)) (And.intro (F13.out.2.2.2.2.2.2.2.2.2.below hb14) (ho14)))))))))))
        clear F13
        clear hb14 ho14
        gi_wp2
        generalize hq14 : w12.heap.size = q14 at *
        clear hq14
        generalize w12.alloc (.cells #[.slice oa3 PC.length c3] 50) = w14 at *
        refine inAny_one 4 (by kernel_rfl) ?_
        simp only [pick, List.getD_cons_zero, List.getD_cons_succ]
        obtain ⟨oa9, c9, hv9, -, -, hs9, -⟩ := F15.out.2.2.2.2.2.2.2.2.2.2.sl
        simp only [Value.slice.injEq] at hv9
        obtain ⟨rfl, -, rfl⟩ := hv9
        have hvl : vs.length ≤ 5000 := by
          have h1 := F15.out.2.2.2.1.len
          simp only [pcs, List.length_map, List.length_range] at h1
          have h2 := HM.out
          have h3 : i ≤ i * z := Nat.le_mul_of_pos_right _ (by omega)
          have h4 := HA.out.2.2.2.2.2
          omega
        refine append_listIn T42 rfl _ _ rfl (base := w.heap.size) (m := 1) rfl F15.out.2.2.1 rfl hs9 (by omega) (by unfold maxLen; omega) (by omega) F15.out.1.size ?_
        intro v16 w16 ho16 hb16 he16 hg16
        have hk16 := rh_keep5 F15.out.2.2.1 hb16.size (fun bad h1 h2 => (he16 bad h1 h2).2)
        have h7 := he16 q1 F15.out.2.2.2.2.1.1 (lt_of_blk F15.out.2.1)
        have h8 := he16 (q1 + 1) F15.out.2.2.2.2.1.2.1 (lt_of_blk F15.out.2.2.2.2.2.2.1)
        have h9 := he16 (q1 + 1 + 1) F15.out.2.2.2.2.1.2.2 (lt_of_blk F15.out.2.2.2.2.2.2.2.1)
        have hkf : KeepsFrom w4.heap.size w14 w16 := ⟨hb16.size, fun k o hk hok hcc => (hg16.block k (lt_of_blk hok) (fun e => by
          obtain ⟨cur, hcur⟩ := own_cells F15.out.2.2.1 e.symm
          rw [hok] at hcur; injection hcur with hcur; subst hcur; cases hcc)).trans hok⟩
        have F17 := Lib.hid (And.intro (F15.out.1.trans hb16) (And.intro (h7.2.trans F15.out.2.1) (And.intro ho16 (And.intro ((F15.out.2.2.2.1.keep hk16).snoc (F15.out.2.2.2.2.2.2.2.2.2.1.keep hk16) HPC.out.2) (And.intro (And.intro h7.1 (And.intro h8.1 h9.1)) (And.intro (show BxS (q1 + 1) (.slice (some ⟨b, o + m, none⟩) (n - m) (c - m)) 50 w16 from h8.2.trans F15.out.2.2.2.2.2.2.1) (And.intro (show BxS (q1 + 1 + 1) (.int .i64 (z : Int)) 3 w16 from h9.2.trans F15.out.2.2.2.2.2.2.2.1) ((F15.out.2.2.2.2.2.2.2.2.1.trans hkf)))))))))
        clear F15
        clear ho16 hb16 he16 hg16 hk16 h7 h8 h9 hkf hs9
        gi_wp2
        refine inAny_one 5 (by kernel_rfl) ?_
        simp only [pick, List.getD_cons_zero, List.getD_cons_succ]
        obtain ⟨oa5, n5, c5, rfl⟩ : ∃ oa n c, v16 = .slice oa n c := by
          obtain ⟨oa, c, h, -⟩ := F17.out.2.2.1.sl
          exact ⟨_, _, _, h⟩
        have f7 : w16.frozen? ⟨q1, 0, none⟩ = false := free_of F17.out.2.1
        have e7 := cell_of (o := 0) F17.out.2.1 rfl
        have hset := (SetB.self F17.out.2.1).store (o := 0) (lt_of_blk F17.out.2.1) (.slice oa5 n5 c5)
        have h7z := setCell_blk F17.out.2.1 0 (.slice oa5 n5 c5)
        have hkf : KeepsFrom w4.heap.size w16 (w16.setCell ⟨q1, 0, none⟩ (.slice oa5 n5 c5)) := ⟨by rw [hset.size]; exact Nat.le_refl _, fun k o hk hok hcc => (hset.other (by omega)).trans hok⟩
        have F18 := Lib.hid (And.intro (F17.out.1.trans (hset.below hws)) (And.intro h7z (And.intro (F17.out.2.2.1.keep (fun b hb => hset.other (fun e => F17.out.2.2.2.2.1.1 (e ▸ hb)))) (And.intro (F17.out.2.2.2.1.keep (.of_set hset F17.out.2.1 (by decide))) (And.intro F17.out.2.2.2.2.1 (And.intro (show BxS (q1 + 1) (.slice (some ⟨b, o + m, none⟩) (n - m) (c - m)) 50 (w16.setCell ⟨q1, 0, none⟩ (.slice oa5 n5 c5)) from (hset.other (by omega)).trans F17.out.2.2.2.2.2.1) (And.intro (show BxS (q1 + 1 + 1) (.int .i64 (z : Int)) 3 (w16.setCell ⟨q1, 0, none⟩ (.slice oa5 n5 c5)) from (hset.other (by omega)).trans F17.out.2.2.2.2.2.2.1) ((F17.out.2.2.2.2.2.2.2.trans hkf)))))))))
        clear F17
        clear hset h7z hkf
        gi_wp2
        refine wpAnyIn_done (by kernel_rfl) ?_ _
        refine ⟨rfl, F18.out.2.2.2.2.2.2.2, ⟨F18.out.1, _, _, F18.out.2.1, F18.out.2.2.1, ?_, F18.out.2.2.2.2.1⟩, F18.out.2.2.2.2.2.1, F18.out.2.2.2.2.2.2.1⟩
        have hps := F18.out.2.2.2.1
        rw [pcs_succ]
        unfold pc
        rw [← HM.out.1, ← HPC.out.1]
        exact hps
      · simp only [pick, List.getD_cons_zero, List.getD_cons_succ]
        gi_wp2_with (refine ⟨trivial, ?_⟩; gi_at_call 64; refine (CallsIn.inRound lq (callsIn_wide.2 (clone_any HE.out.2.2.2.2.2.1 (fun h => by cases h) (Nat.le_trans (Nat.le_trans (Nat.le_add_left _ _) HM.out.2) (Nat.le_trans HA.out.2.2.2.2.2 (by decide)))))).mono ?_; rintro e w19 ⟨v19, rfl, ho19, hb19⟩; obtain ⟨oa3, c3, rfl, hs19⟩ := b5_own ho19)
        have F20 := Lib.hid (And.intro (bcall HE.out.1 (Nat.le_refl _) hb19) (And.intro ((hb19.block _ (lt_of_blk HE.out.2.1)).trans HE.out.2.1) (And.intro (HE.out.2.2.1.below hb19) (And.intro (HE.out.2.2.2.1.keep (.of_below hb19)) (And.intro HE.out.2.2.2.2.1 (And.intro (HE.out.2.2.2.2.2.1.keep hb19) (And.intro ((hb19.block _ (lt_of_blk HE.out.2.2.2.2.2.2.1)).trans HE.out.2.2.2.2.2.2.1) (And.intro ((hb19.block _ (lt_of_blk HE.out.2.2.2.2.2.2.2.1)).trans HE.out.2.2.2.2.2.2.2.1) (And.intro (HE.out.2.2.2.2.2.2.2.2.trans (keeps_below hb19)) (hs19))))))))))
        clear HE
        clear hb19 ho19 hs19
        refine inAny_two 0 3 (by kernel_rfl) ?_ ?_
        · simp only [pick, List.getD_cons_zero]
          have e7 := cell_of (o := 0) F20.out.2.1 rfl
          gi_wp2
          clear e7
          refine inAny_one 3 (by kernel_rfl) ?_
          simp only [pick, List.getD_cons_zero, List.getD_cons_succ]
          have hb22 := (Below.refl w19.heap.size w19).alloc (Nat.le_refl _) (.cells #[.slice oa3 PC.length c3] 50)
          have ho22 : RH.Own (w19.alloc (.cells #[.slice oa3 PC.length c3] 50)) w.heap.size (.slice (some ⟨w19.heap.size, 0, none⟩) 1 1) [(oa3, PC.length, c3)] := ⟨rfl, .inr ⟨w19.heap.size, 1, #[.slice oa3 PC.length c3], rfl, F20.out.1.size, hnew _ _, Nat.le_refl _, by unfold maxLen; omega, rfl, rfl⟩⟩
          have F23 := Lib.hid (And.intro (bcall F20.out.1 (Nat.le_refl _) hb22) (And.intro ((hb22.block _ (lt_of_blk F20.out.2.1)).trans F20.out.2.1) (And.intro (F20.out.2.2.1.below hb22) (And.intro (F20.out.2.2.2.1.keep (.of_below hb22)) (And.intro F20.out.2.2.2.2.1 (And.intro (F20.out.2.2.2.2.2.1.keep hb22) (And.intro ((hb22.block _ (lt_of_blk F20.out.2.2.2.2.2.2.1)).trans F20.out.2.2.2.2.2.2.1) (And.intro ((hb22.block _ (lt_of_blk F20.out.2.2.2.2.2.2.2.1)).trans F20.out.2.2.2.2.2.2.2.1) (And.intro (F20.out.2.2.2.2.2.2.2.2.1.trans (keeps_below hb22)) (And.intro (F20.out.2.2.2.2.2.2.2.2.2.below hb22) (ho22)))))))))))
          clear F20
          clear hb22 ho22
          gi_wp2
          generalize hq22 : w19.heap.size = q22 at *
          clear hq22
          generalize w19.alloc (.cells #[.slice oa3 PC.length c3] 50) = w22 at *
          refine inAny_one 4 (by kernel_rfl) ?_
          simp only [pick, List.getD_cons_zero, List.getD_cons_succ]
          obtain ⟨oa9, c9, hv9, -, -, hs9, -⟩ := F23.out.2.2.2.2.2.2.2.2.2.2.sl
          simp only [Value.slice.injEq] at hv9
          obtain ⟨rfl, -, rfl⟩ := hv9
          have hvl : vs.length ≤ 5000 := by
            have h1 := F23.out.2.2.2.1.len
            simp only [pcs, List.length_map, List.length_range] at h1
            have h2 := HM.out
            have h3 : i ≤ i * z := Nat.le_mul_of_pos_right _ (by omega)
            have h4 := HA.out.2.2.2.2.2
            omega
          refine append_listIn T42 rfl _ _ rfl (base := w.heap.size) (m := 1) rfl F23.out.2.2.1 rfl hs9 (by omega) (by unfold maxLen; omega) (by omega) F23.out.1.size ?_
          intro v24 w24 ho24 hb24 he24 hg24
          have hk24 := rh_keep5 F23.out.2.2.1 hb24.size (fun bad h1 h2 => (he24 bad h1 h2).2)
          have h7 := he24 q1 F23.out.2.2.2.2.1.1 (lt_of_blk F23.out.2.1)
          have h8 := he24 (q1 + 1) F23.out.2.2.2.2.1.2.1 (lt_of_blk F23.out.2.2.2.2.2.2.1)
          have h9 := he24 (q1 + 1 + 1) F23.out.2.2.2.2.1.2.2 (lt_of_blk F23.out.2.2.2.2.2.2.2.1)
          have hkf : KeepsFrom w4.heap.size w22 w24 := ⟨hb24.size, fun k o hk hok hcc => (hg24.block k (lt_of_blk hok) (fun e => by
            obtain ⟨cur, hcur⟩ := own_cells F23.out.2.2.1 e.symm
            rw [hok] at hcur; injection hcur with hcur; subst hcur; cases hcc)).trans hok⟩
          have F25 := Lib.hid (And.intro (F23.out.1.trans hb24) (And.intro (h7.2.trans F23.out.2.1) (And.intro ho24 (And.intro ((F23.out.2.2.2.1.keep hk24).snoc (F23.out.2.2.2.2.2.2.2.2.2.1.keep hk24) HPC.out.2) (And.intro (And.intro h7.1 (And.intro h8.1 h9.1)) (And.intro (show BxS (q1 + 1) (.slice (some ⟨b, o + m, none⟩) (n - m) (c - m)) 50 w24 from h8.2.trans F23.out.2.2.2.2.2.2.1) (And.intro (show BxS (q1 + 1 + 1) (.int .i64 (z : Int)) 3 w24 from h9.2.trans F23.out.2.2.2.2.2.2.2.1) ((F23.out.2.2.2.2.2.2.2.2.1.trans hkf)))))))))
          clear F23
          clear ho24 hb24 he24 hg24 hk24 h7 h8 h9 hkf hs9
          gi_wp2
          refine inAny_one 5 (by kernel_rfl) ?_
          simp only [pick, List.getD_cons_zero, List.getD_cons_succ]
          obtain ⟨oa5, n5, c5, rfl⟩ : ∃ oa n c, v24 = .slice oa n c := by
            obtain ⟨oa, c, h, -⟩ := F25.out.2.2.1.sl
            exact ⟨_, _, _, h⟩
          have f7 : w24.frozen? ⟨q1, 0, none⟩ = false := free_of F25.out.2.1
          have e7 := cell_of (o := 0) F25.out.2.1 rfl
          have hset := (SetB.self F25.out.2.1).store (o := 0) (lt_of_blk F25.out.2.1) (.slice oa5 n5 c5)
          have h7z := setCell_blk F25.out.2.1 0 (.slice oa5 n5 c5)
          have hkf : KeepsFrom w4.heap.size w24 (w24.setCell ⟨q1, 0, none⟩ (.slice oa5 n5 c5)) := ⟨by rw [hset.size]; exact Nat.le_refl _, fun k o hk hok hcc => (hset.other (by omega)).trans hok⟩
          have F26 := Lib.hid (And.intro (F25.out.1.trans (hset.below hws)) (And.intro h7z (And.intro (F25.out.2.2.1.keep (fun b hb => hset.other (fun e => F25.out.2.2.2.2.1.1 (e ▸ hb)))) (And.intro (F25.out.2.2.2.1.keep (.of_set hset F25.out.2.1 (by decide))) (And.intro F25.out.2.2.2.2.1 (And.intro (show BxS (q1 + 1) (.slice (some ⟨b, o + m, none⟩) (n - m) (c - m)) 50 (w24.setCell ⟨q1, 0, none⟩ (.slice oa5 n5 c5)) from (hset.other (by omega)).trans F25.out.2.2.2.2.2.1) (And.intro (show BxS (q1 + 1 + 1) (.int .i64 (z : Int)) 3 (w24.setCell ⟨q1, 0, none⟩ (.slice oa5 n5 c5)) from (hset.other (by omega)).trans F25.out.2.2.2.2.2.2.1) ((F25.out.2.2.2.2.2.2.2.trans hkf)))))))))
          clear F25
          clear hset h7z hkf
          gi_wp2
          refine wpAnyIn_done (by kernel_rfl) ?_ _
          refine ⟨rfl, F26.out.2.2.2.2.2.2.2, ⟨F26.out.1, _, _, F26.out.2.1, F26.out.2.2.1, ?_, F26.out.2.2.2.2.1⟩, F26.out.2.2.2.2.2.1, F26.out.2.2.2.2.2.2.1⟩
          have hps := F26.out.2.2.2.1
          rw [pcs_succ]
          unfold pc
          rw [← HM.out.1, ← HPC.out.1]
          exact hps
        · simp only [pick, List.getD_cons_zero, List.getD_cons_succ]
          have hb27 := (Below.refl w19.heap.size w19).alloc (Nat.le_refl _) (.cells #[.slice oa3 PC.length c3] 50)
          have ho27 : RH.Own (w19.alloc (.cells #[.slice oa3 PC.length c3] 50)) w.heap.size (.slice (some ⟨w19.heap.size, 0, none⟩) 1 1) [(oa3, PC.length, c3)] := ⟨rfl, .inr ⟨w19.heap.size, 1, #[.slice oa3 PC.length c3], rfl, F20.out.1.size, hnew _ _, Nat.le_refl _, by unfold maxLen; omega, rfl, rfl⟩⟩
          have F28 := Lib.hid (And.intro (bcall F20.out.1 (Nat.le_refl _) hb27) (And.intro ((hb27.block _ (lt_of_blk F20.out.2.1)).trans F20.out.2.1) (And.intro (F20.out.2.2.1.below hb27) (And.intro (F20.out.2.2.2.1.keep (.of_below hb27)) (And.intro F20.out.2.2.2.2.1 (And.intro (F20.out.2.2.2.2.2.1.keep hb27) (And.intro ((hb27.block _ (lt_of_blk F20.out.2.2.2.2.2.2.1)).trans F20.out.2.2.2.2.2.2.1) (And.intro ((hb27.block _ (lt_of_blk F20.out.2.2.2.2.2.2.2.1)).trans F20.out.2.2.2.2.2.2.2.1) (And.intro (F20.out.2.2.2.2.2.2.2.2.1.trans (keeps_below hb27)) (And.intro (F20.out.2.2.2.2.2.2.2.2.2.below hb27) (ho27)))))))))))
          clear F20
          clear hb27 ho27
          gi_wp2
          generalize hq27 : w19.heap.size = q27 at *
          clear hq27
          generalize w19.alloc (.cells #[.slice oa3 PC.length c3] 50) = w27 at *
          refine inAny_one 0 (by kernel_rfl) ?_
          simp only [pick, List.getD_cons_zero]
          have e7 := cell_of (o := 0) F28.out.2.1 rfl
          gi_wp2
          clear e7
          refine inAny_one 4 (by kernel_rfl) ?_
          simp only [pick, List.getD_cons_zero, List.getD_cons_succ]
          obtain ⟨oa9, c9, hv9, -, -, hs9, -⟩ := F28.out.2.2.2.2.2.2.2.2.2.2.sl
          simp only [Value.slice.injEq] at hv9
          obtain ⟨rfl, -, rfl⟩ := hv9
          have hvl : vs.length ≤ 5000 := by
            have h1 := F28.out.2.2.2.1.len
            simp only [pcs, List.length_map, List.length_range] at h1
            have h2 := HM.out
            have h3 : i ≤ i * z := Nat.le_mul_of_pos_right _ (by omega)
            have h4 := HA.out.2.2.2.2.2
            omega
          refine append_listIn T42 rfl _ _ rfl (base := w.heap.size) (m := 1) rfl F28.out.2.2.1 rfl hs9 (by omega) (by unfold maxLen; omega) (by omega) F28.out.1.size ?_
          intro v30 w30 ho30 hb30 he30 hg30
          have hk30 := rh_keep5 F28.out.2.2.1 hb30.size (fun bad h1 h2 => (he30 bad h1 h2).2)
          have h7 := he30 q1 F28.out.2.2.2.2.1.1 (lt_of_blk F28.out.2.1)
          have h8 := he30 (q1 + 1) F28.out.2.2.2.2.1.2.1 (lt_of_blk F28.out.2.2.2.2.2.2.1)
          have h9 := he30 (q1 + 1 + 1) F28.out.2.2.2.2.1.2.2 (lt_of_blk F28.out.2.2.2.2.2.2.2.1)
          have hkf : KeepsFrom w4.heap.size w27 w30 := ⟨hb30.size, fun k o hk hok hcc => (hg30.block k (lt_of_blk hok) (fun e => by
            obtain ⟨cur, hcur⟩ := own_cells F28.out.2.2.1 e.symm
            rw [hok] at hcur; injection hcur with hcur; subst hcur; cases hcc)).trans hok⟩
          have F31 := Lib.hid (And.intro (F28.out.1.trans hb30) (And.intro (h7.2.trans F28.out.2.1) (And.intro ho30 (And.intro ((F28.out.2.2.2.1.keep hk30).snoc (F28.out.2.2.2.2.2.2.2.2.2.1.keep hk30) HPC.out.2) (And.intro (And.intro h7.1 (And.intro h8.1 h9.1)) (And.intro (show BxS (q1 + 1) (.slice (some ⟨b, o + m, none⟩) (n - m) (c - m)) 50 w30 from h8.2.trans F28.out.2.2.2.2.2.2.1) (And.intro (show BxS (q1 + 1 + 1) (.int .i64 (z : Int)) 3 w30 from h9.2.trans F28.out.2.2.2.2.2.2.2.1) ((F28.out.2.2.2.2.2.2.2.2.1.trans hkf)))))))))
          clear F28
          clear ho30 hb30 he30 hg30 hk30 h7 h8 h9 hkf hs9
          gi_wp2
          refine inAny_one 5 (by kernel_rfl) ?_
          simp only [pick, List.getD_cons_zero, List.getD_cons_succ]
          obtain ⟨oa5, n5, c5, rfl⟩ : ∃ oa n c, v30 = .slice oa n c := by
            obtain ⟨oa, c, h, -⟩ := F31.out.2.2.1.sl
            exact ⟨_, _, _, h⟩
          have f7 : w30.frozen? ⟨q1, 0, none⟩ = false := free_of F31.out.2.1
          have e7 := cell_of (o := 0) F31.out.2.1 rfl
          have hset := (SetB.self F31.out.2.1).store (o := 0) (lt_of_blk F31.out.2.1) (.slice oa5 n5 c5)
          have h7z := setCell_blk F31.out.2.1 0 (.slice oa5 n5 c5)
          have hkf : KeepsFrom w4.heap.size w30 (w30.setCell ⟨q1, 0, none⟩ (.slice oa5 n5 c5)) := ⟨by rw [hset.size]; exact Nat.le_refl _, fun k o hk hok hcc => (hset.other (by omega)).trans hok⟩
          have F32 := Lib.hid (And.intro (F31.out.1.trans (hset.below hws)) (And.intro h7z (And.intro (F31.out.2.2.1.keep (fun b hb => hset.other (fun e => F31.out.2.2.2.2.1.1 (e ▸ hb)))) (And.intro (F31.out.2.2.2.1.keep (.of_set hset F31.out.2.1 (by decide))) (And.intro F31.out.2.2.2.2.1 (And.intro (show BxS (q1 + 1) (.slice (some ⟨b, o + m, none⟩) (n - m) (c - m)) 50 (w30.setCell ⟨q1, 0, none⟩ (.slice oa5 n5 c5)) from (hset.other (by omega)).trans F31.out.2.2.2.2.2.1) (And.intro (show BxS (q1 + 1 + 1) (.int .i64 (z : Int)) 3 (w30.setCell ⟨q1, 0, none⟩ (.slice oa5 n5 c5)) from (hset.other (by omega)).trans F31.out.2.2.2.2.2.2.1) ((F31.out.2.2.2.2.2.2.2.trans hkf)))))))))
          clear F31
          clear hset h7z hkf
          gi_wp2
          refine wpAnyIn_done (by kernel_rfl) ?_ _
          refine ⟨rfl, F32.out.2.2.2.2.2.2.2, ⟨F32.out.1, _, _, F32.out.2.1, F32.out.2.2.1, ?_, F32.out.2.2.2.2.1⟩, F32.out.2.2.2.2.2.1, F32.out.2.2.2.2.2.2.1⟩
          have hps := F32.out.2.2.2.1
          rw [pcs_succ]
          unfold pc
          rw [← HM.out.1, ← HPC.out.1]
          exact hps
  case hiter =>
    intro lq D r W1 hl hD hb hL hY
    have hb1 := HC.out.1.trans (hb.mono HC.out.1.size)
    have hu0 : RcU w q1 (q1 + 1) (q1 + 1 + 1) z l 0 W1 := ⟨hb1, .slice none 0 0, [], (hb.block _ (lt_of_blk HC.out.2.1)).trans HC.out.2.1, Rep.Own.nil _ _, PSS.nil _, (by intro h; cases h), (by intro h; cases h), (by intro h; cases h)⟩
    have hoa : 0 < n → ∃ b o, oa = some ⟨b, o, none⟩ := fun h => HA.out.2.2.1.ad h
    refine (pieces_iter (j := 5) lq D r (q1 + 1) (q1 + 1 + 1) oa n c z (fun k W => RcU w q1 (q1 + 1) (q1 + 1 + 1) z l k W) W1 HA.out.2.2.2.2.1.1 hoa HA.out.2.2.1.le HA.out.2.2.1.cap HA.out.2.2.2.2.1.2 (by omega) (by omega) (by omega) (fun k W v h hx => by obtain ⟨v0, hx⟩ := hx; exact h.set (by omega) (by omega) hx) ((hb.block _ (lt_of_blk HC.out.2.2.1)).trans HC.out.2.2.1) ((hb.block _ (lt_of_blk HC.out.2.2.2)).trans HC.out.2.2.2) hu0 hL ?_).mono ?_
    · intro i W hi hu hx1 hx2 hL
      obtain ⟨fn, tmps, assign, body, hy, hR⟩ := hY i W ⟨hi, hu, hx1, hx2⟩ hL
      exact ⟨fn, tmps, assign, body, hy, hR.mono (fun e W' h => ⟨h.1, h.2.1.1, h.2.1.2.1, h.2.1.2.2, h.2.2⟩)⟩
    · rintro e W' ⟨h1, h2, h3⟩
      exact ⟨h1, h2, h3⟩
  case hdone =>
    intro D W hD hE hdef
    obtain ⟨hbel, v, vs, hv, hown, hps, -⟩ := hE
    have hc := cell_of (o := 0) hv rfl
    have HE := Lib.hid (And.intro hbel (And.intro hown hps))
    clear hbel hv hown hps
    gi_wp2
    refine ⟨by simp, .inl ⟨_, _, rfl, run_takeDeferred hdef, ?_⟩⟩
    have hp := own_put (o' := .deferred none) HE.out.2.1 HE.out.2.2 hdef rfl
    exact ⟨_, results_tmp2 rfl _ _ _, ⟨v, vs, rfl, hp.1, hp.2⟩, below_put HE.out.1 (by omega)⟩
end Go.Proofs.Ytcbpdjenncbbeaa.Ip
/- Numbers of bytes, capped. -/
namespace Go.Proofs.Ytcbpdjenncbbeaa.Ip
open Go.RowKit

theorem or_u64 (m z : Nat) (hm : m < 16777216) (hz : z < 256) : bits .or .u64 ((m : Int) * 256) (z : Int) = ((256 * m + z : Nat) : Int) := by
  unfold bits
  dsimp only
  have h1 : BitVec.ofInt IntKind.u64.bits ((m : Int) * 256) = BitVec.ofNat 64 (m * 256) := by
    show BitVec.ofInt 64 ((m : Int) * 256) = _
    rw [show ((m : Int) * 256) = ((m * 256 : Nat) : Int) by omega, BitVec.ofInt_natCast]
  have h2 : BitVec.ofInt IntKind.u64.bits (z : Int) = BitVec.ofNat 64 z := by show BitVec.ofInt 64 (z : Int) = _; rw [BitVec.ofInt_natCast]
  rw [h1, h2]
  have h3 : (BitVec.ofNat 64 (m * 256) ||| BitVec.ofNat 64 z).toNat = 256 * m + z := by
    rw [BitVec.toNat_or, BitVec.toNat_ofNat, BitVec.toNat_ofNat, Nat.mod_eq_of_lt (by omega), Nat.mod_eq_of_lt (by omega)]
    have h := Nat.shiftLeft_add_eq_or_of_lt (i := 8) (b := z) (by omega) m
    rw [Nat.shiftLeft_eq, show (2 : Nat) ^ 8 = 256 from rfl] at h
    omega
  have h4 : IntKind.u64.wrap ((BitVec.ofNat 64 (m * 256) ||| BitVec.ofNat 64 z).toNat : Int) = ((256 * m + z : Nat) : Int) := by
    rw [h3]
    show (((256 * m + z : Nat) : Int) % 18446744073709551616) = _
    omega
  exact h4
set_option maxRecDepth 100000 in
set_option maxHeartbeats 400000 in
theorem number_any (oa : Option Addr) (n c : Nat) (l : List Nat) (w : World) (hs : RB.Sl w oa n c l) (hb : Bytes l) (h4 : n ≤ 4) : Calls Try.prog 73 #[.slice oa n c] w fun e w' => e = .returned (.int .i64 (getN l : Nat)) ∧ w' = w := by
  have HS := Lib.hid (And.intro hs hb)
  have HL := Lib.hid hs.len
  clear hs hb
  go_enter Try.func73, Try.ntmps73
  go_wp2_with fail
  go_loopw [3, 8] (fun nv iv wr => ∃ k : Nat, k ≤ n ∧ iv = .int .i64 k ∧ nv = .int .u64 (getN (l.take k) : Nat) ∧ wr = w) (fun _ iv _ => n - (intOf iv).toNat)
  case atStart => exact ⟨0, Nat.zero_le _, rfl, rfl, rfl⟩
  case round =>
    obtain ⟨k, hk, rfl, rfl, rfl⟩ := hrel
    by_cases hlt : k < n
    · have hil : ((k : Int) < (n : Int)) = True := by simp; omega
      have hi0 : ((0 : Int) ≤ (k : Int)) = True := by simp
      have hwk := wrapS hlt (show n ≤ maxLen by unfold maxLen; omega)
      obtain ⟨b, o, rfl, hbl, hat⟩ := HS.out.1.at hlt
      have hc := hat 0 (by decide)
      have hg : getN (l.take (k + 1)) = 256 * getN (l.take k) + l.getD k default := by rw [take_snoc l k (by rw [← HL.out]; exact hlt), getN_snoc]
      have hby : l.getD k default < 256 := HS.out.2 _ (getD_mem (by rw [← HL.out]; exact hlt))
      have hlt2 : getN (l.take k) < 16777216 := by
        have h1 := getN_lt (l.take k) (fun x hx => HS.out.2 x (List.mem_of_mem_take hx))
        have h2 : (l.take k).length ≤ 3 := by rw [List.length_take]; omega
        have h3 : 256 ^ (l.take k).length ≤ 256 ^ 3 := Nat.pow_le_pow_right (by omega) h2
        omega
      generalize l.getD k default = z at *
      generalize getN (l.take k) = m at *
      simp only [RB, Nat.mul_one, Nat.add_zero, List.getElem?_cons_zero] at hc
      have hor := or_u64 m z hlt2 hby
      have hsh : IntKind.u64.wrap ((m : Int) * 256) = (m : Int) * 256 := by show ((m : Int) * 256) % 18446744073709551616 = _; omega
      have hz2 : IntKind.u64.wrap (z : Int) = (z : Int) := by show (z : Int) % 18446744073709551616 = _; omega
      have HG := Lib.hid (And.intro hg hwk)
      have HK := Lib.hid hlt
      clear hg hat hlt hk hwk
      go_wp2_with fail
      exact ⟨⟨k + 1, HK.out, by first | rw [HG.out.2] | rw [Int.natCast_succ], by rw [HG.out.1]; first | rfl | (rw [hor]) | (congr 1), by first | rfl | trivial⟩, by first | (rw [HG.out.2]; exact mSucc HK.out) | (rw [← Int.natCast_succ]; exact mSucc HK.out)⟩
    · have hf : ((k : Int) < n) = False := by simp; omega
      have hkn : l.take k = l := List.take_of_length_le (by have := HL.out; omega)
      have hlt2 : getN l < 4294967296 := by
        have h1 := getN_lt l HS.out.2
        have h2 : l.length ≤ 4 := by have := HL.out; omega
        have h3 : 256 ^ l.length ≤ 256 ^ 4 := Nat.pow_le_pow_right (by omega) h2
        omega
      rw [hkn]
      obtain ⟨m, hm⟩ : ∃ m, getN l = m := ⟨_, rfl⟩
      have HM := Lib.hid hm
      rw [hm] at hlt2 ⊢
      clear hm
      have hmin : min (m : Int) 9007199254740991 = (m : Int) := by omega
      have hw1 : IntKind.i64.wrap (m : Int) = (m : Int) := IntWalk.i64_in _ (by omega)
      have hw2 : wrap64 (m : Int) = (m : Int) := by unfold wrap64; omega
      clear hlt2 hkn
      go_wp2_with fail
      go_ret
      exact ⟨by rw [HM.out]; rfl, rfl⟩
end Go.Proofs.Ytcbpdjenncbbeaa.Ip
/- Templates' bytes. -/
namespace Go.Proofs.Ytcbpdjenncbbeaa.Ip
open Go.RowKit

def RTm : Rep (Int × SlV (Int × Int)) := ⟨93, 2, by decide, fun x => [.int .i64 x.1, .slice x.2.a x.2.n x.2.c], fun _ => rfl, fun _ => rfl⟩
def TmOk (w : World) (x : Int × SlV (Int × Int)) : Prop := FdsOk w x.2
def TmsOk (w : World) (s : SlV (Int × SlV (Int × Int))) : Prop := SlOk RTm TmOk w s
theorem TmsOk.keep {w w' : World} {s : SlV (Int × SlV (Int × Int))} (h : TmsOk w s) (hb : Below w.heap.size w w') : TmsOk w' s := SlOk.keepW h hb (fun _ h => FdsOk.keep h hb)
def oddX (x : Int × SlV (Int × Int)) : Bool := oddT ⟨x.1, x.2⟩
theorem oddX_any (x : Int × SlV (Int × Int)) (w : World) (h : FdsOk w x.2) : Calls Try.prog 70 #[.agg #[.int .i64 x.1, .slice x.2.a x.2.n x.2.c]] w fun e w' => e = .returned (.bool (oddX x)) ∧ Below w.heap.size w w' := odd_tm ⟨x.1, x.2⟩ w h
/-- the usual template -/
theorem usual_any (w : World) : Calls Try.prog 38 #[] w fun e w' => (∃ t : Tm, e = .returned t.v ∧ t.id = 300 ∧ t.fs.l = [(12, 4), (1, 4)] ∧ t.fs.n = 2 ∧ FdsOk w' t.fs) ∧ Below w.heap.size w w' := by
  go_enter Try.func38, Try.ntmps38
  go_wp2_with (with_reducible refine halt_store 93 rfl ?_)
  refine Halted.go ?_
  have hb := ((Below.refl w.heap.size w).alloc (Nat.le_refl _) (.cells #[.int .i64 0, .slice none 0 0] 93)).alloc (by simp) (.cells #[.int .i64 12, .int .i64 4, .int .i64 1, .int .i64 4] 129)
  have h1 : ((w.alloc (.cells #[.int .i64 0, .slice none 0 0] 93)).alloc (.cells #[.int .i64 12, .int .i64 4, .int .i64 1, .int .i64 4] 129)).heap[w.heap.size]? = some (.cells #[.int .i64 0, .slice none 0 0] 93) := hold (hnew _ _)
  have h2 : ((w.alloc (.cells #[.int .i64 0, .slice none 0 0] 93)).alloc (.cells #[.int .i64 12, .int .i64 4, .int .i64 1, .int .i64 4] 129)).heap[w.heap.size + 1]? = some (.cells #[.int .i64 12, .int .i64 4, .int .i64 1, .int .i64 4] 129) := hnewAt (Array.size_push _).symm
  refine store_whole rfl 93 _ _ rfl w.heap.size #[.int .i64 300, .slice (some ⟨w.heap.size + 1, 0, none⟩) 2 2] rfl rfl h1 rfl (by kernel_rfl) (by simp [Value.oneCell']) ?_
  intro W hW hs
  have h3 := (hs.other (by omega : w.heap.size + 1 ≠ w.heap.size)).trans h2
  have ho : RFd.Own W w.heap.size (.slice (some ⟨w.heap.size + 1, 0, none⟩) 2 2) [(12, 4), (1, 4)] := ⟨rfl, .inr ⟨w.heap.size + 1, 2, #[.int .i64 12, .int .i64 4, .int .i64 1, .int .i64 4], rfl, by omega, h3, Nat.le_refl _, by unfold maxLen; omega, rfl, rfl⟩⟩
  have HZ := Lib.hid (And.intro hW (And.intro ho (hb.trans (hs.below (Nat.le_refl _)))))
  clear hb h1 h2 h3 ho hs hW
  go_wp2_with fail
  refine ret_cell rfl rfl rfl HZ.out.1 Try.underlying93 rfl (by kernel_rfl) ?_
  refine ⟨⟨⟨300, ⟨some ⟨w.heap.size + 1, 0, none⟩, 2, 2, [(12, 4), (1, 4)]⟩⟩, rfl, rfl, rfl, rfl, ?_⟩, HZ.out.2.2⟩
  obtain ⟨oa9, c9, hv9, -, -, hs9, -⟩ := HZ.out.2.1.sl
  simp only [Value.slice.injEq] at hv9
  obtain ⟨rfl, -, rfl⟩ := hv9
  exact ⟨hs9, (fun h => by cases h), Nat.le_refl _, by show 2 ≤ maxLen; unfold maxLen; omega, (fun x hx => by simp at hx; rcases hx with rfl | rfl <;> exact ⟨by decide, by decide⟩)⟩
def fdB (x : Int × Int) : List Nat := bes 2 [x.1.toNat, x.2.toNat]
def tmB (x : Int × SlV (Int × Int)) : List Nat := bes 2 [x.1.toNat, x.2.n] ++ x.2.l.flatMap fdB
def tmsB (l : List (Int × SlV (Int × Int))) : List Nat := l.flatMap tmB
end Go.Proofs.Ytcbpdjenncbbeaa.Ip
/- PutTemplates. -/
namespace Go.Proofs.Ytcbpdjenncbbeaa.Ip
open Go.RowKit

theorem fdB_length (l : List (Int × Int)) : (l.flatMap fdB).length = l.length * 4 := by
  induction l with
  | nil => rfl
  | cons x r ih => simp only [List.flatMap_cons, List.length_append, ih, fdB, bes_length, List.length_cons, List.length_nil]; omega
theorem tmsB_length (l : List (Int × SlV (Int × Int))) (h : ∀ x ∈ l, x.2.l.length ≤ 32) : (tmsB l).length ≤ l.length * 132 := by
  induction l with
  | nil => simp [tmsB]
  | cons x r ih =>
    have h1 := ih (fun y hy => h y (by simp [hy]))
    have h2 := h x (by simp)
    unfold tmsB at *
    simp only [List.flatMap_cons, List.length_append, List.length_cons, tmB, bes_length, fdB_length, List.length_nil]
    omega
theorem tmsB_snoc (l : List (Int × SlV (Int × Int))) (x : Int × SlV (Int × Int)) : tmsB (l ++ [x]) = tmsB l ++ tmB x := by simp [tmsB]
end Go.Proofs.Ytcbpdjenncbbeaa.Ip
