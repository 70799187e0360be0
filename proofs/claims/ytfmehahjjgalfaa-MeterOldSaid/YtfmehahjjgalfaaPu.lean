/- A region that draws its order: what only computes may be taken first; the rest comes up one by one. -/
import Derived.Test.YtfmehahjjgalfaaQt
import Derived.Orders
namespace Go.Proofs.Ytfmehahjjgalfaa
open Go Go.RowKit

section
variable {P : Program} {ops : Array Oper} {md : Region.Mode}

/-- operations that yield the same in every world, one behind the other; then L -/
def wpPure (P : Program) (ops : Array Oper) (L : Act → Prop) : List Oper → Act → Prop
  | [], a => L a
  | o :: rest, a => if Region.wanted o (yielded ops a.tmps) = true then ∃ v, (∀ w, (execOp a.eval o).run P w = .ok (.value v) w) ∧ wpPure P ops L rest (a.put o.dst v) else wpPure P ops L rest (a.put o.dst undef)
theorem wpPure_nil {L : Act → Prop} {a : Act} (h : L a) : wpPure P ops L [] a := h
theorem wpPure_step {L : Act → Prop} {a : Act} {o : Oper} {rest : List Oper}
    (h : ∀ K : Act → Prop, (∀ a, wpPure P ops L rest a → K a) → if Region.wanted o (yielded ops a.tmps) = true then ∃ v, (∀ w, (execOp a.eval o).run P w = .ok (.value v) w) ∧ K (a.put o.dst v) else K (a.put o.dst undef)) : wpPure P ops L (o :: rest) a :=
  h _ (fun _ h => h)

def pick (l : List Oper) : List Nat → List Oper
  | [] => []
  | i :: r => l.getD i default :: pick l r
/-- each comes up alone -/
def soloB (md : Region.Mode) (ops : Array Oper) : List Nat → Array Bool → Bool
  | [], listed => (Region.ready md ops listed).isEmpty
  | i :: r, listed => decide (Region.ready md ops listed = [i]) && soloB md ops r (listed.setIfInBounds i true)
/-- those of hd may be taken first, in this order; those of tl come up behind them one by one -/
def pureB (md : Region.Mode) (ops : Array Oper) (tl : List Nat) : List Nat → Array Bool → Bool
  | [], listed => soloB md ops tl listed
  | i :: r, listed => (Region.ready md ops listed).contains i && Region.free md ops listed i && pureB md ops tl r (listed.setIfInBounds i true)

theorem ready_lt {listed : Array Bool} {i : Nat} (h : i ∈ Region.ready md ops listed) : ∃ o, ops[i]? = some o := by
  obtain ⟨_, o, ho, _⟩ := mem_ready.1 h
  exact ⟨o, ho⟩
theorem wpAny_of_solo {Q : Exit → Act → World → Prop} : ∀ (tl : List Nat) (listed : Array Bool) (a : Act) (w : World), soloB md ops tl listed = true → wpList P ops Q (pick ops.toList tl) a w → wpAny P md ops Q tl.length listed a w
  | [], listed, a, w, hB, h => wpAny_done (by simpa [soloB] using hB) h _
  | i :: r, listed, a, w, hB, h => by
    simp only [soloB, Bool.and_eq_true, decide_eq_true_eq] at hB
    obtain ⟨o, ho⟩ := ready_lt (md := md) (ops := ops) (listed := listed) (i := i) (by rw [hB.1]; simp)
    refine wpAny_all hB.1 (by simp) fun j hj => ?_
    obtain rfl : j = i := by simpa using hj
    have hp : pick ops.toList (j :: r) = o :: pick ops.toList r := by simp [pick, List.getD_eq_getElem?_getD, ho]
    rw [hp] at h
    unfold wpOp
    simp only [ho]
    unfold wpList at h
    by_cases hw : Region.wanted o (yielded ops a.tmps) = true
    · rw [if_pos hw] at h ⊢
      exact h.imp (Oper.wp_mono fun a' w' h' => wpAny_of_solo r _ a' w' hB.2 h') id
    · rw [if_neg hw] at h ⊢
      exact wpAny_of_solo r _ _ w hB.2 h
theorem wpAny_of_pure {Q : Exit → Act → World → Prop} (hsel : Region.noSelect ops = true) (hQ : ∀ c (a : Act) d v w, Q (.panic c) (a.put d v) w → Q (.panic c) a w) {tl : List Nat} {w : World} : ∀ (hd : List Nat) (listed : Array Bool) (a : Act), pureB md ops tl hd listed = true → wpPure P ops (fun a' => wpList P ops Q (pick ops.toList tl) a' w) (pick ops.toList hd) a → wpAny P md ops Q (hd.length + tl.length) listed a w
  | [], listed, a, hB, h => by rw [List.length_nil, Nat.zero_add]; exact wpAny_of_solo tl listed a w hB h
  | i :: r, listed, a, hB, h => by
    simp only [pureB, Bool.and_eq_true] at hB
    obtain ⟨⟨hr, hf⟩, hB'⟩ := hB
    obtain ⟨o, ho⟩ := ready_lt (md := md) (ops := ops) (listed := listed) (i := i) (by simpa using hr)
    have hp : pick ops.toList (i :: r) = o :: pick ops.toList r := by simp [pick, List.getD_eq_getElem?_getD, ho]
    rw [hp] at h
    rw [List.length_cons, Nat.succ_add]
    unfold wpPure at h
    by_cases hw : Region.wanted o (yielded ops a.tmps) = true
    · rw [if_pos hw] at h
      obtain ⟨v, hv, hrest⟩ := h
      exact wpAny_take ho hsel hf hr (fun c a w => hQ c a _ _ w) (.inl ⟨hw, hv⟩) (wpAny_of_pure hsel hQ r _ _ hB' hrest)
    · rw [if_neg hw] at h
      exact wpAny_take ho hsel hf hr (fun c a w => hQ c a _ _ w) (.inr ⟨by simpa using hw, rfl⟩) (wpAny_of_pure hsel hQ r _ _ hB' h)
/-- the region: those of hd first, then those of tl -/
theorem wp_region_pure {id : Nat} {Q : Exit → Act → World → Prop} {a : Act} {w : World} {l : List Oper} (hd tl : List Nat) (hm : P.follows .mixedOrders = true)
    (hB : (Region.noSelect l.toArray && decide (hd.length + tl.length = l.length) && pureB .any l.toArray tl hd (Array.replicate l.length false)) = true) (hQ : ∀ c (a : Act) d v w, Q (.panic c) (a.put d v) w → Q (.panic c) a w)
    (h : wpPure P l.toArray (fun a' => wpList P l.toArray Q (pick l tl) a' w.drew) (pick l hd) a) : (Code.region id l.toArray true).wp P Q a w := by
  simp only [Bool.and_eq_true, decide_eq_true_eq] at hB
  obtain ⟨⟨h1, h2⟩, h3⟩ := hB
  refine wp_region_any hm ?_
  have := wpAny_of_pure (P := P) (md := .any) (w := w.drew) h1 hQ hd _ a h3 h
  rw [h2] at this
  simpa using this
end
end Go.Proofs.Ytfmehahjjgalfaa
