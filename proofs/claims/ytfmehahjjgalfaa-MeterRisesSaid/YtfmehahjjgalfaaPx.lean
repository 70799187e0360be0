/- A region that draws its order, in which things are read ahead of one operation t that writes what was read. -/
import Derived.Test.YtfmehahjjgalfaaPc
namespace Go.Proofs.Ytfmehahjjgalfaa
open Go Go.RowKit

section
variable {P : Program} {ops : Array Oper} {md : Region.Mode} {S : World → Prop}

/-- whatever order is picked: S holds behind every operation but t -/
def wpAnyT (P : Program) (md : Region.Mode) (ops : Array Oper) (Q : Exit → Act → World → Prop) (t : Nat) (S : World → Prop) : Nat → Array Bool → Act → World → Prop
  | 0, l0, a, w => Region.ready md ops l0 = [] ∧ Q .normal a w
  | f + 1, l0, a, w => (Region.ready md ops l0 = [] → Q .normal a w) ∧ ∀ j ∈ Region.ready md ops l0, wpOp P ops Q j (fun a' w' => (j ≠ t → S w') ∧ wpAnyT P md ops Q t S f (l0.setIfInBounds j true) a' w') a w
theorem any_of_T {Q : Exit → Act → World → Prop} {t : Nat} : ∀ (f : Nat) (l0 : Array Bool) (a : Act) (w : World), wpAnyT P md ops Q t S f l0 a w → wpAny P md ops Q f l0 a w
  | 0, _, _, _, h => h
  | f + 1, _, _, _, h => ⟨h.1, fun j hj => wpOp_mono (fun a' w' h' => any_of_T f _ a' w' h'.2) (h.2 j hj)⟩
theorem T_first {Q : Exit → Act → World → Prop} {t i : Nat} {oi : Oper} {v : Value} {l0 : Array Bool} (hi : ops[i]? = some oi) (hsel : ∀ (j : Nat) (o : Oper) cs b, ops[j]? = some o → o.op ≠ .select cs b) (hQ : ∀ c (a : Act) w, Q (.panic c) (a.put oi.dst v) w → Q (.panic c) a w) (hit : i ∈ ancs md ops t) (f : Nat) :
    ∀ (listed : Array Bool) (a : Act) (w : World), SInv md ops l0 listed →
      (∀ j oj, ops[j]? = some oj → j ≠ i → listed.getD j true = false → (∀ e ∈ oj.after, Region.binds md e = true → e.on ≠ i) → oi.apart ops oj = true) →
      i ∈ Region.ready md ops listed → YieldsIf P ops S oi v a → S w → wpAnyT P md ops Q t S f (listed.setIfInBounds i true) (a.put oi.dst v) w → wpAnyT P md ops Q t S (f + 1) listed a w := by
  induction f with
  | zero =>
    intro listed a w inv _ hr hy hS H
    refine ⟨fun h => (by rw [h] at hr; cases hr), fun j hj => ?_⟩
    by_cases hji : j = i
    · subst hji; exact hy.wpOp hi hS ⟨fun _ => hS, H⟩
    · have h1 := ready_mono hj hji
      rw [H.1] at h1; cases h1
  | succ f ih =>
    intro listed a w inv hfree hr hy hS H
    refine ⟨fun h => (by rw [h] at hr; cases hr), fun j hj => ?_⟩
    have hun := (mem_ready.1 hr).1
    by_cases hji : j = i
    · subst hji; exact hy.wpOp hi hS ⟨fun _ => hS, H⟩
    obtain ⟨hjun, oj, hoj, hall⟩ := mem_ready.1 hj
    have hjt : j ≠ t := by
      rintro rfl
      have := inv.ancs hj i hit
      rw [getD_both hun] at this; cases this
    have hnot : ∀ e ∈ oj.after, Region.binds md e = true → e.on ≠ i := by
      intro e he hb heq
      have h1 := hall e he hb
      rw [heq, getD_both hun] at h1
      cases h1
    have h2 := wpOp_putIf hoj (hfree j oj hoj hji hjun hnot) (fun cs b => hsel i oi cs b hi) (fun cs b => hsel j oj cs b hoj) hQ hy (H.2 j (ready_mono hj hji))
    refine wpOp_mono (fun a' w' h3 => ⟨h3.2.1, ih (listed.setIfInBounds j true) a' w' (inv.set hj) ?_ (ready_mono hr (Ne.symm hji)) h3.1 (h3.2.1 hjt) ?_⟩) h2
    · intro k ok hk hki hun' hno
      refine hfree k ok hk hki ?_ hno
      by_cases hjk : j = k
      · subst hjk; exact hjun
      · rw [getD_set_ne true hjk] at hun'; exact hun'
    · rw [Array.setIfInBounds_comm _ _ hji]; exact h3.2.2
def readsB (md : Region.Mode) (ops : Array Oper) (t : Nat) (hd : List Nat) (l0 : Array Bool) : Bool := Region.noSelect ops && closedB md ops l0 && hd.all (fun i => (ancs md ops t).contains i) && pureS md ops hd l0
theorem readsT_go {Q : Exit → Act → World → Prop} {t g : Nat} {w : World} (hsel : Region.noSelect ops = true) (hS : S w) (hQ : ∀ c (a : Act) d v w, Q (.panic c) (a.put d v) w → Q (.panic c) a w) {l1 : Array Bool} : ∀ (hd : List Nat) (l0 : Array Bool) (a : Act), SInv md ops l1 l0 → (∀ i ∈ hd, i ∈ ancs md ops t) → pureS md ops hd l0 = true → wpRead P ops S (fun a' => wpAnyT P md ops Q t S g (setAll hd l0) a' w) (pick ops.toList hd) a → wpAnyT P md ops Q t S (hd.length + g) l0 a w
  | [], l0, a, _, _, _, h => by rw [List.length_nil, Nat.zero_add]; exact h
  | i :: r, l0, a, inv, ht, hB, h => by
    simp only [pureS, Bool.and_eq_true] at hB
    obtain ⟨⟨hr, hf⟩, hB'⟩ := hB
    have hr' : i ∈ Region.ready md ops l0 := by simpa using hr
    obtain ⟨o, ho⟩ := ready_lt (md := md) (ops := ops) (listed := l0) (i := i) hr'
    have hp : pick ops.toList (i :: r) = o :: pick ops.toList r := by simp [pick, List.getD_eq_getElem?_getD, ho]
    rw [hp] at h
    rw [List.length_cons, Nat.succ_add]
    unfold wpRead at h
    by_cases hw : Region.wanted o (yielded ops a.tmps) = true
    · rw [if_pos hw] at h
      obtain ⟨v, hv, hrest⟩ := h
      exact T_first ho (Region.noSelect_spec hsel) (fun c a w => hQ c a _ _ w) (ht i (by simp)) _ l0 a w inv (Region.free_spec ho hf) hr' (.inl ⟨hw, hv⟩) hS (readsT_go hsel hS hQ r _ _ (inv.set hr') (fun j hj => ht j (by simp [hj])) hB' hrest)
    · rw [if_neg hw] at h
      exact T_first ho (Region.noSelect_spec hsel) (fun c a w => hQ c a _ _ w) (ht i (by simp)) _ l0 a w inv (Region.free_spec ho hf) hr' (.inr ⟨by simpa using hw, rfl⟩) hS (readsT_go hsel hS hQ r _ _ (inv.set hr') (fun j hj => ht j (by simp [hj])) hB' h)
/-- those that only read what S says may be taken first, if t waits for them -/
theorem T_reads {Q : Exit → Act → World → Prop} {t g n : Nat} (hd : List Nat) (hn : hd.length + g = n) {l0 : Array Bool} {a : Act} {w : World} (hB : readsB md ops t hd l0 = true) (hS : S w) (hQ : ∀ c (a : Act) d v w, Q (.panic c) (a.put d v) w → Q (.panic c) a w)
    (h : wpRead P ops S (fun a' => wpAnyT P md ops Q t S g (setAll hd l0) a' w) (pick ops.toList hd) a) : wpAnyT P md ops Q t S n l0 a w := by
  subst hn
  simp only [readsB, Bool.and_eq_true] at hB
  exact readsT_go hB.1.1.1 hS hQ hd l0 a (sinv_of hB.1.1.2) (fun i hi => by simpa using List.all_eq_true.1 hB.1.2 i hi) hB.2 h
/-- one that comes up alone -/
theorem T_one {Q : Exit → Act → World → Prop} {t g : Nat} (i : Nat) {l0 : Array Bool} {a : Act} {w : World} (hB : decide (Region.ready md ops l0 = [i]) = true)
    (h : wpList P ops (Exit.then (fun a' w' => (i ≠ t → S w') ∧ wpAnyT P md ops Q t S g (l0.setIfInBounds i true) a' w') Q) (pick ops.toList [i]) a w) : wpAnyT P md ops Q t S (g + 1) l0 a w := by
  have hr : Region.ready md ops l0 = [i] := by simpa using hB
  obtain ⟨o, ho⟩ := ready_lt (md := md) (ops := ops) (listed := l0) (i := i) (by rw [hr]; simp)
  refine ⟨fun h0 => (by rw [h0] at hr; cases hr), ?_⟩
  rw [hr]
  intro j hj
  obtain rfl : j = i := by simpa using hj
  have hp : pick ops.toList [j] = [o] := by simp [pick, List.getD_eq_getElem?_getD, ho]
  rw [hp] at h
  unfold wpOp
  simp only [ho]
  unfold wpList at h
  by_cases hw : Region.wanted o (yielded ops a.tmps) = true
  · rw [if_pos hw] at h ⊢
    refine h.imp (fun h => wp_then (Oper.wp_mono (fun a' w' h' => h') h)) (fun h => ⟨h.1, let ⟨a, w, h⟩ := h.2; ⟨a, w, h⟩⟩)
  · rw [if_neg hw] at h ⊢
    exact h
theorem T_done {Q : Exit → Act → World → Prop} {t : Nat} {l0 : Array Bool} {a : Act} {w : World} (hr : Region.ready md ops l0 = []) (h : Q .normal a w) : ∀ f, wpAnyT P md ops Q t S f l0 a w
  | 0 => ⟨hr, h⟩
  | _ + 1 => ⟨fun _ => h, by rw [hr]; simp⟩
theorem wp_region_T {id : Nat} {Q : Exit → Act → World → Prop} {a : Act} {w : World} {l : List Oper} (t : Nat) (S : World → Prop) (hm : P.follows .mixedOrders = true)
    (h : wpAnyT P .any l.toArray Q t S l.length (Array.replicate l.length false) a w.drew) : (Code.region id l.toArray true).wp P Q a w := by
  refine wp_region_any hm ?_
  simpa using any_of_T _ _ _ _ h
end
end Go.Proofs.Ytfmehahjjgalfaa
