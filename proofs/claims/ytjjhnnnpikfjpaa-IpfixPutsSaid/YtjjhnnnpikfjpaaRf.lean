/- A range over a function whose body always goes on, over an iterator that may write variables of its own. -/
import Derived.Test.YtjjhnnnpikfjpaaMem
import Derived.RangeFuncNested
import Derived.RangeFuncBox
import Derived.RangeFuncBound
import Derived.RangeFuncLeaves
import Derived.OwnWalkIn
namespace Go.Proofs.Ytjjhnnnpikfjpaa
open Go Go.RowKit

section
variable {P : Program}
/-- the two blocks of a loop's own -/
structure LoopAt (l D : Nat) (r : Loop) (W : World) : Prop where
  loop : W.heap[l]? = some (.loop r)
  defd : W.heap[D]? = some (.deferred (some []))
theorem LoopAt.from {l D B : Nat} {r : Loop} {W W' : World} (h : LoopAt l D r W) (hl : B ≤ l) (hD : B ≤ D) (hk : KeepsFrom B W W') : LoopAt l D r W' := ⟨hk.same _ _ hl h.loop rfl, hk.same _ _ hD h.defd rfl⟩
theorem range_on {g : Operand} {ps : Array Tmp} {assign body : Code} {Q : Exit → Act → World → Prop} {a : Act} {w : World} {n gf : Nat} {lb : Array Value}
    (hg : a.eval g = .func (.func gf) #[] lb) (eg : ∀ args w, (callFunc gf args).run P w = .ok (.enter gf args) w) (encs : Nat → Array Value) (hps : ∀ i, (encs i).size = ps.size)
    (J J' : Nat → World → Prop) (E : World → Prop)
    (hput : ∀ W l o o', w.heap.size ≤ l → W.heap[l]? = some o → o.isCells = false → (∀ i, J i W → J i (W.putObj l o')) ∧ (∀ i, J' i W → J' i (W.putObj l o')) ∧ (E W → E (W.putObj l o')))
    (a₁ : Nat → Act)
    (hassign : ∀ (l i : Nat) (W : World) (K : Act → World → Prop), K (a₁ i) W → assign.wpIn (Fence.wide.inRound l) n P (Exit.then K (fun _ _ _ => False)) { tmps := (ps.zip (encs i)).foldl (fun t (p, v) => t.setIfInBounds p v) a.tmps, defers := [] } W)
    (hbody : ∀ (l i : Nat) (W : World), w.heap.size ≤ l → J i W → body.wpIn (Fence.wide.inRound l) n P (fun e _ W' => e = .normal ∧ KeepsFrom w.heap.size W W' ∧ J' i W') (a₁ i) W)
    (hiter : ∀ (l D : Nat) (r : Loop) (W1 : World), w.heap.size ≤ l → w.heap.size ≤ D → Below w.heap.size w W1 → LoopAt l D r W1 →
      (∀ i W, J i W → LoopAt l D r W → YieldAt Fence.wide n P l (encs i) W fun e W' => e = .returned (.bool true) ∧ J' i W' ∧ LoopAt l D r W') →
      Calls P gf (#[.func (.yield l) #[] #[]] ++ lb) W1 fun e W' => (∃ v, e = .returned v) ∧ E W' ∧ LoopAt l D r W')
    (hdone : ∀ D W, w.heap.size ≤ D → E W → W.heap[D]? = some (.deferred (some [])) → Q .normal { a with defers := { target := .collected D, args := #[] } :: a.defers } W) :
    (Code.rangeFunc g ps assign body).wpIn Fence.wide n P Q a w := by
  refine wpIn_rangeFunc fun fn hfn => ?_
  obtain ⟨r, hr⟩ : ∃ r : Loop, r = { state := .ready, pending := none, fn, tmps := a.tmps, params := ps, assign, body, defers := w.heap.size } := ⟨_, rfl⟩
  have hbel : Below w.heap.size w ((w.alloc (.deferred (some []))).alloc (.loop r)) := ((Below.refl w.heap.size w).alloc (Nat.le_refl _) _).alloc (by simp) _
  have hlp : LoopAt (w.heap.size + 1) w.heap.size r ((w.alloc (.deferred (some []))).alloc (.loop r)) := ⟨hnewAt (Array.size_push _).symm, hold (hnew _ _)⟩
  refine ⟨w.heap.size + 1, [{ target := .collected w.heap.size, args := #[] }], (w.alloc (.deferred (some []))).alloc (.loop r), { target := .fn (.func gf) lb, args := #[.func (.yield (w.heap.size + 1)) #[] #[]] }, (w.alloc (.deferred (some []))).alloc (.loop r), gf, #[.func (.yield (w.heap.size + 1)) #[] #[]] ++ lb, (w.alloc (.deferred (some []))).alloc (.loop r), ?_, ?_, ?_, ?_, fun h => (by cases h), ?_⟩
  · rw [hr]; exact run_enterLoop_outer _ _ _ _ _
  · simp only [resolve, hg]; simp [go_sem]
  · intro _ _; trivial
  · simp [invoke, go_sem, eg]
  · refine callsIn_wide.2 ((hiter (w.heap.size + 1) w.heap.size r _ (by omega) (Nat.le_refl _) hbel hlp ?_).mono ?_)
    · intro i W hJ hL
      have hlt : w.heap.size + 1 < W.heap.size := lt_of_blk hL.loop
      have hy := run_yield (P := P) (args := encs i) hL.loop (by rw [hr]; exact hps i)
      rw [hr] at hy
      refine ⟨fn, _, assign, body, hy, roundIn_of_wpIn trivial (hassign _ i W _ ⟨_, run_beginRound hL.loop (by rw [hr]), ?_⟩)⟩
      have hl2 : (W.putObj (w.heap.size + 1) (.loop { r with state := .busy })).heap[w.heap.size + 1]? = some (.loop { r with state := .busy }) := World.putObj_heap_same hlt
      have hd2 : (W.putObj (w.heap.size + 1) (.loop { r with state := .busy })).heap[w.heap.size]? = some (.deferred (some [])) := (World.putObj_heap_other (by omega)).trans hL.defd
      refine wpIn_mono (hbody _ i _ (by omega) ((hput W _ _ _ (by omega) hL.loop rfl).1 i hJ)) ?_
      rintro e a3 W3 ⟨rfl, hk, hJ'⟩
      have hl3 := hk.same _ _ (by omega) hl2 rfl
      have hd3 := hk.same _ _ (Nat.le_refl _) hd2 rfl
      have hend := run_endRound (P := P) none hl3
      refine ⟨_, _, hend, rfl, (hput W3 _ _ _ (by omega) hl3 rfl).2.1 i hJ', ?_, (World.putObj_heap_other (by omega)).trans hd3⟩
      rw [World.putObj_heap_same (lt_of_blk hl3), hr]
      rfl
    · rintro e W2 ⟨⟨v, rfl⟩, hE, hL⟩
      have hend := run_endLoop (P := P) hL.loop (by rw [hr]; simp)
      rw [hr] at hend
      exact ⟨none, _, hend, hdone _ _ (Nat.le_refl _) ((hput W2 _ _ _ (by omega) hL.loop rfl).2.2 hE) ((World.putObj_heap_other (by omega)).trans hL.defd)⟩
end
end Go.Proofs.Ytjjhnnnpikfjpaa
