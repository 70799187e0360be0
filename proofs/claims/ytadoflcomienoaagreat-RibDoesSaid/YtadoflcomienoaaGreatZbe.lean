/- A region that draws its order and yet hardly has a choice: the order that is forced, checked once; the region's operations by a name of their own. -/
import Derived.Test.YtadoflcomienoaaGreatZac
import Derived.Test.YtadoflcomienoaaGreatProg
namespace Go.Proofs.YtadoflcomienoaaGreat
open Go Go.RowKit

/-- the operations of the region that bears this number -/
def regF (n : Nat) : Code → Option (List Oper)
  | .region id ops _ => if id = n then some ops.toList else none
  | .seq a b => (regF n a).or (regF n b)
  | .cond _ a b => (regF n a).or (regF n b)
  | .block _ b => regF n b
  | .loop b => regF n b
  | .rangeFunc _ _ a b => (regF n a).or (regF n b)
  | .scope b => regF n b
  | _ => none
def regO (n : Nat) (f : Func) : List Oper := (regF n (f.body.getD .skip)).getD []

section
variable {P : Program} {l : List Oper} {md : Region.Mode} {Q : Exit → Act → World → Prop}

def forcedB (md : Region.Mode) (ops : Array Oper) : List Nat → Array Bool → Bool
  | [], _ => true
  | i :: r, ls => decide (Region.ready md ops ls = [i]) && forcedB md ops r (ls.setIfInBounds i true)
theorem op_one {Q : Exit → Act → World → Prop} {K0 : Act → World → Prop} {i : Nat} {rest : List Nat} {K : Act → World → Prop} {a : Act} {w : World} (hi : i < l.length)
    (h : wpList P l.toArray (Exit.then K0 Q) (pick l (i :: rest)) a w) (hK : ∀ a w, wpList P l.toArray (Exit.then K0 Q) (pick l rest) a w → K a w) : wpOp P l.toArray Q i K a w := by
  have ho : l.toArray[i]? = some (l[i]'hi) := by simp [hi]
  have hp : pick l (i :: rest) = (l[i]'hi) :: pick l rest := by simp [pick, List.getD_eq_getElem?_getD, hi]
  rw [hp] at h
  unfold wpOp
  simp only [ho]
  unfold wpList at h
  by_cases hw : Region.wanted (l[i]'hi) (yielded l.toArray a.tmps) = true
  · rw [if_pos hw] at h ⊢
    refine h.imp (fun h => wp_then (Oper.wp_mono (fun a' w' h' => hK a' w' h') h)) (fun h => ⟨h.1, let ⟨a, w, h⟩ := h.2; ⟨a, w, h⟩⟩)
  · rw [if_neg hw] at h ⊢
    exact hK _ _ h
theorem any_forced {g n : Nat} (hd : List Nat) (hn : hd.length + g = n) {l0 : Array Bool} {a : Act} {w : World} (hB : forcedB md l.toArray hd l0 = true)
    (h : wpList P l.toArray (Exit.then (wpAny P md l.toArray Q g (setAll hd l0)) Q) (pick l hd) a w) : wpAny P md l.toArray Q n l0 a w := by
  subst hn
  revert l0 a w
  induction hd with
  | nil => intro l0 a w _ h; rw [List.length_nil, Nat.zero_add]; exact h
  | cons i r ih =>
    intro l0 a w hB h
    simp only [forcedB, Bool.and_eq_true, decide_eq_true_eq] at hB
    rw [List.length_cons, Nat.succ_add]
    obtain ⟨o, ho⟩ := ready_lt (md := md) (ops := l.toArray) (listed := l0) (i := i) (by rw [hB.1]; simp)
    have hi : i < l.length := by have := (Array.getElem?_eq_some_iff.1 ho).1; simpa using this
    refine wpAny_all hB.1 (by simp) fun j hj => ?_
    obtain rfl : j = i := by simpa using hj
    exact op_one hi h fun a' w' h' => ih hB.2 h'
/-- two that come up together and may come in either order -/
theorem any_pair {g : Nat} (i j : Nat) {l0 : Array Bool} {a : Act} {w : World}
    (hB : (decide (Region.ready md l.toArray l0 = [i, j]) && decide (Region.ready md l.toArray (l0.setIfInBounds i true) = [j]) && decide (Region.ready md l.toArray (l0.setIfInBounds j true) = [i])) = true) (hne : i ≠ j)
    (h1 : wpList P l.toArray (Exit.then (wpAny P md l.toArray Q g (setAll [i, j] l0)) Q) (pick l [i, j]) a w)
    (h2 : wpList P l.toArray (Exit.then (wpAny P md l.toArray Q g (setAll [i, j] l0)) Q) (pick l [j, i]) a w) : wpAny P md l.toArray Q (g + 2) l0 a w := by
  simp only [Bool.and_eq_true, decide_eq_true_eq] at hB
  obtain ⟨⟨b1, b2⟩, b3⟩ := hB
  have lt : ∀ k, k ∈ [i, j] → k < l.length := fun k hk => by
    obtain ⟨o, ho⟩ := ready_lt (md := md) (ops := l.toArray) (listed := l0) (i := k) (by rw [b1]; exact hk)
    have := (Array.getElem?_eq_some_iff.1 ho).1
    simpa using this
  have e : setAll [j, i] l0 = setAll [i, j] l0 := by
    show (l0.setIfInBounds j true).setIfInBounds i true = (l0.setIfInBounds i true).setIfInBounds j true
    exact Array.setIfInBounds_comm _ _ hne.symm
  refine wpAny_all b1 (by simp) fun k hk => ?_
  simp only [List.mem_cons, List.not_mem_nil, or_false] at hk
  rcases hk with rfl | rfl
  · exact op_one (lt _ (by simp)) h1 fun a' w' h' => any_forced (g := g) [j] (by simp [Nat.add_comm]) (by simp [forcedB, b2]) h'
  · refine op_one (lt _ (by simp)) h2 fun a' w' h' => any_forced (g := g) [i] (by simp [Nat.add_comm]) (by simp [forcedB, b3]) ?_
    have e2 : setAll [i] (l0.setIfInBounds k true) = setAll [i, k] l0 := e
    rw [e2]
    exact h'
theorem any_done {l0 : Array Bool} {a : Act} {w : World} (hB : decide (Region.ready md l.toArray l0 = []) = true) (h : Q .normal a w) : wpAny P md l.toArray Q 0 l0 a w :=
  ⟨by simpa using hB, h⟩
theorem region_forced {id n : Nat} {a : Act} {w : World} (hm : P.follows .mixedOrders = true) (hn : l.length = n)
    (h : wpAny P .any l.toArray Q n (Array.replicate n false) a w.drew) : (Code.region id l.toArray true).wp P Q a w := by
  subst hn
  exact wp_region_pieces hm h
theorem wpList_want {o : Oper} {rest : List Oper} {a : Act} {w : World} (hw : Region.wanted o (yielded l.toArray a.tmps) = true)
    (h : ∀ K : Act → World → Prop, (∀ a w, wpList P l.toArray Q rest a w → K a w) → o.wp P a w K Q) : wpList P l.toArray Q (o :: rest) a w :=
  wpList_step fun K hK => by rw [if_pos hw]; exact h K hK
theorem pick_nil : pick l [] = [] := rfl
theorem pick_cons (i : Nat) (r : List Nat) : pick l (i :: r) = l.getD i default :: pick l r := rfl
end
end Go.Proofs.YtadoflcomienoaaGreat
/- The last region of lives (chapter 14): its operations, by a name; its order. -/
namespace Go.Proofs.YtadoflcomienoaaGreat
open Go Go.RowKit

theorem forcedB_app {md : Region.Mode} {ops : Array Oper} : ∀ (A B : List Nat) (l0 : Array Bool), forcedB md ops A l0 = true → forcedB md ops B (setAll A l0) = true → forcedB md ops (A ++ B) l0 = true
  | [], _, _, _, h => h
  | i :: A, B, l0, h, h2 => by
    simp only [List.cons_append, forcedB, Bool.and_eq_true] at h ⊢
    exact ⟨h.1, forcedB_app A B _ h.2 h2⟩
noncomputable def ops14 : List Oper := regO 14 Tryz.f23
def s14a : List Nat := [0, 1, 2, 3, 4, 5, 6, 7, 8, 9, 10, 11, 12, 13, 14, 15, 16, 17, 18, 19, 20, 21, 22, 23, 24, 25, 26, 27, 28, 29, 30, 31, 32, 33, 34, 35, 36, 37, 38, 39, 40, 41, 42, 43, 44, 45, 46, 47, 48, 49, 50, 51, 52, 53, 54, 55, 56, 57, 58, 59]
def s14b : List Nat := [62, 63, 64, 65, 66, 67, 68, 69, 70, 71, 72, 73, 74, 75, 76, 77, 78, 79, 80, 81, 82, 83, 84, 85, 86, 87, 88, 89, 90, 91, 92]
theorem pick14a : pick ops14 s14a = pick ops14 [0, 1, 2, 3, 4, 5, 6, 7, 8, 9, 10, 11, 12, 13, 14, 15, 16, 17, 18, 19, 20, 21, 22, 23, 24, 25, 26, 27, 28, 29, 30, 31, 32, 33, 34, 35, 36, 37, 38, 39, 40, 41, 42, 43, 44, 45, 46, 47, 48, 49, 50, 51, 52, 53, 54, 55, 56, 57, 58, 59] := rfl
theorem pick14b : pick ops14 s14b = pick ops14 [62, 63, 64, 65, 66, 67, 68, 69, 70, 71, 72, 73, 74, 75, 76, 77, 78, 79, 80, 81, 82, 83, 84, 85, 86, 87, 88, 89, 90, 91, 92] := rfl
theorem ops14_len : ops14.length = 93 := by kernel_rfl
theorem fr14a0 : forcedB .any ops14.toArray [0, 1, 2, 3, 4, 5, 6, 7, 8, 9] (Array.replicate 93 false) = true := by kernel_rfl
theorem fr14a1 : forcedB .any ops14.toArray [10, 11, 12, 13, 14, 15, 16, 17, 18, 19] (setAll [0, 1, 2, 3, 4, 5, 6, 7, 8, 9] (Array.replicate 93 false)) = true := by kernel_rfl
theorem fr14a2 : forcedB .any ops14.toArray [20, 21, 22, 23, 24, 25, 26, 27, 28, 29] (setAll [10, 11, 12, 13, 14, 15, 16, 17, 18, 19] (setAll [0, 1, 2, 3, 4, 5, 6, 7, 8, 9] (Array.replicate 93 false))) = true := by kernel_rfl
theorem fr14a3 : forcedB .any ops14.toArray [30, 31, 32, 33, 34, 35, 36, 37, 38, 39] (setAll [20, 21, 22, 23, 24, 25, 26, 27, 28, 29] (setAll [10, 11, 12, 13, 14, 15, 16, 17, 18, 19] (setAll [0, 1, 2, 3, 4, 5, 6, 7, 8, 9] (Array.replicate 93 false)))) = true := by kernel_rfl
theorem fr14a4 : forcedB .any ops14.toArray [40, 41, 42, 43, 44, 45, 46, 47, 48, 49] (setAll [30, 31, 32, 33, 34, 35, 36, 37, 38, 39] (setAll [20, 21, 22, 23, 24, 25, 26, 27, 28, 29] (setAll [10, 11, 12, 13, 14, 15, 16, 17, 18, 19] (setAll [0, 1, 2, 3, 4, 5, 6, 7, 8, 9] (Array.replicate 93 false))))) = true := by kernel_rfl
theorem fr14a5 : forcedB .any ops14.toArray [50, 51, 52, 53, 54, 55, 56, 57, 58, 59] (setAll [40, 41, 42, 43, 44, 45, 46, 47, 48, 49] (setAll [30, 31, 32, 33, 34, 35, 36, 37, 38, 39] (setAll [20, 21, 22, 23, 24, 25, 26, 27, 28, 29] (setAll [10, 11, 12, 13, 14, 15, 16, 17, 18, 19] (setAll [0, 1, 2, 3, 4, 5, 6, 7, 8, 9] (Array.replicate 93 false)))))) = true := by kernel_rfl
theorem fr14a : forcedB .any ops14.toArray s14a (Array.replicate 93 false) = true := (forcedB_app [0, 1, 2, 3, 4, 5, 6, 7, 8, 9] _ _ fr14a0 (forcedB_app [10, 11, 12, 13, 14, 15, 16, 17, 18, 19] _ _ fr14a1 (forcedB_app [20, 21, 22, 23, 24, 25, 26, 27, 28, 29] _ _ fr14a2 (forcedB_app [30, 31, 32, 33, 34, 35, 36, 37, 38, 39] _ _ fr14a3 (forcedB_app [40, 41, 42, 43, 44, 45, 46, 47, 48, 49] _ _ fr14a4 fr14a5)))))
theorem fr14p : (decide (Region.ready .any ops14.toArray (setAll s14a (Array.replicate 93 false)) = [60, 61]) && decide (Region.ready .any ops14.toArray ((setAll s14a (Array.replicate 93 false)).setIfInBounds 60 true) = [61]) && decide (Region.ready .any ops14.toArray ((setAll s14a (Array.replicate 93 false)).setIfInBounds 61 true) = [60])) = true := by kernel_rfl
theorem fr14b0 : forcedB .any ops14.toArray [62, 63, 64, 65, 66, 67, 68, 69, 70, 71] (setAll [60, 61] (setAll s14a (Array.replicate 93 false))) = true := by kernel_rfl
theorem fr14b1 : forcedB .any ops14.toArray [72, 73, 74, 75, 76, 77, 78, 79, 80, 81] (setAll [62, 63, 64, 65, 66, 67, 68, 69, 70, 71] (setAll [60, 61] (setAll s14a (Array.replicate 93 false)))) = true := by kernel_rfl
theorem fr14b2 : forcedB .any ops14.toArray [82, 83, 84, 85, 86, 87, 88, 89, 90, 91] (setAll [72, 73, 74, 75, 76, 77, 78, 79, 80, 81] (setAll [62, 63, 64, 65, 66, 67, 68, 69, 70, 71] (setAll [60, 61] (setAll s14a (Array.replicate 93 false))))) = true := by kernel_rfl
theorem fr14b3 : forcedB .any ops14.toArray [92] (setAll [82, 83, 84, 85, 86, 87, 88, 89, 90, 91] (setAll [72, 73, 74, 75, 76, 77, 78, 79, 80, 81] (setAll [62, 63, 64, 65, 66, 67, 68, 69, 70, 71] (setAll [60, 61] (setAll s14a (Array.replicate 93 false)))))) = true := by kernel_rfl
theorem fr14b : forcedB .any ops14.toArray s14b (setAll [60, 61] (setAll s14a (Array.replicate 93 false))) = true := (forcedB_app [62, 63, 64, 65, 66, 67, 68, 69, 70, 71] _ _ fr14b0 (forcedB_app [72, 73, 74, 75, 76, 77, 78, 79, 80, 81] _ _ fr14b1 (forcedB_app [82, 83, 84, 85, 86, 87, 88, 89, 90, 91] _ _ fr14b2 fr14b3)))
theorem fr14d : decide (Region.ready .any ops14.toArray (setAll s14b (setAll [60, 61] (setAll s14a (Array.replicate 93 false)))) = []) = true := by kernel_rfl
end Go.Proofs.YtadoflcomienoaaGreat
