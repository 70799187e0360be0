/- A region that draws its order, inside a fence: one that comes up alone, two that come up together. -/
import Derived.Test.YtjjhnnnpikfjpaaPc
import Derived.OrdersIn
import Derived.TacticsIn
namespace Go.Proofs.Ytjjhnnnpikfjpaa
open Go Go.RowKit

section
variable {F : Fence} {n : Nat} {P : Program} {ops : Array Oper} {md : Region.Mode}
theorem wpIn_then {o : Oper} {a : Act} {w : World} {K K0 : Act → World → Prop} {Q : Exit → Act → World → Prop} (h : o.wpIn F n P a w K (Exit.then K0 Q)) : o.wpIn F n P a w K Q := by
  unfold Oper.wpIn at *
  refine ⟨h.1, ?_⟩
  have h := h.2
  generalize (o.semAt F.round a.eval).run P w = r at *
  cases r with
  | ok x w' =>
    cases x <;> simp only [Oper.uponIn] at h ⊢ <;>
      first
        | exact h
        | exact ⟨h.1, CallsIn.mono h.2 (fun e w'' he => by cases e <;> first | exact he | exact (let ⟨a, w, h⟩ := he; ⟨a, w, h⟩))⟩
        | exact ⟨h.1, RoundIn.mono h.2 (fun e w'' he => by cases e <;> first | exact he | exact (let ⟨a, w, h⟩ := he; ⟨a, w, h⟩))⟩
  | halt x w' => cases x <;> simp only [Oper.uponIn] at h ⊢ <;> exact h
theorem inOp {Q : Exit → Act → World → Prop} {g : Nat} {i : Nat} {l0 : Array Bool} {a : Act} {w : World} (hi : i ∈ Region.ready md ops l0)
    (h : wpListIn F n P ops (Exit.then (wpAnyIn F n P md ops Q g (l0.setIfInBounds i true)) Q) (pick ops.toList [i]) a w) : wpOpIn F n P ops Q i (wpAnyIn F n P md ops Q g (l0.setIfInBounds i true)) a w := by
  obtain ⟨o, ho⟩ := ready_lt hi
  have hp : pick ops.toList [i] = [o] := by simp [pick, List.getD_eq_getElem?_getD, ho]
  rw [hp] at h
  unfold wpOpIn
  simp only [ho]
  unfold wpListIn at h
  by_cases hw : Region.wanted o (yielded ops a.tmps) = true
  · rw [if_pos hw] at h ⊢
    exact wpIn_then (Oper.wpIn_mono (fun a' w' h' => h') h)
  · rw [if_neg hw] at h ⊢
    exact ⟨h.1, h.2⟩
theorem inAny_one {Q : Exit → Act → World → Prop} {g : Nat} (i : Nat) {l0 : Array Bool} {a : Act} {w : World} (hB : decide (Region.ready md ops l0 = [i]) = true)
    (h : wpListIn F n P ops (Exit.then (wpAnyIn F n P md ops Q g (l0.setIfInBounds i true)) Q) (pick ops.toList [i]) a w) : wpAnyIn F n P md ops Q (g + 1) l0 a w := by
  have hr : Region.ready md ops l0 = [i] := by simpa using hB
  refine wpAnyIn_all hr (by simp) fun j hj => ?_
  obtain rfl : j = i := by simpa using hj
  exact inOp (by rw [hr]; simp) h
theorem inAny_two {Q : Exit → Act → World → Prop} {g : Nat} (i j : Nat) {l0 : Array Bool} {a : Act} {w : World} (hB : decide (Region.ready md ops l0 = [i, j]) = true)
    (h1 : wpListIn F n P ops (Exit.then (wpAnyIn F n P md ops Q g (l0.setIfInBounds i true)) Q) (pick ops.toList [i]) a w)
    (h2 : wpListIn F n P ops (Exit.then (wpAnyIn F n P md ops Q g (l0.setIfInBounds j true)) Q) (pick ops.toList [j]) a w) : wpAnyIn F n P md ops Q (g + 1) l0 a w := by
  have hr : Region.ready md ops l0 = [i, j] := by simpa using hB
  refine wpAnyIn_all hr (by simp) fun k hk => ?_
  simp only [List.mem_cons, List.not_mem_nil, or_false] at hk
  rcases hk with rfl | rfl
  · exact inOp (by rw [hr]; simp) h1
  · exact inOp (by rw [hr]; simp) h2
theorem wpIn_region_pieces {id : Nat} {Q : Exit → Act → World → Prop} {a : Act} {w : World} {l : List Oper} (hm : P.follows .mixedOrders = true)
    (h : wpAnyIn F n P .any l.toArray Q l.length (Array.replicate l.length false) a w.drew) : (Code.region id l.toArray true).wpIn F n P Q a w := by
  refine wpIn_region_any hm ?_
  simpa using h
end
end Go.Proofs.Ytjjhnnnpikfjpaa
