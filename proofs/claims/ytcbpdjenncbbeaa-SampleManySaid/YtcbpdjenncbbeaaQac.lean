/- A region that draws its order, in pieces: those of a set in whatever order, each of which reads, or calls what leaves the world in a class; one that comes up alone; and so on. -/
import Derived.Test.YtcbpdjenncbbeaaQaa
import Derived.OrdersHeld
import Derived.Test.YtcbpdjenncbbeaaQab
import Derived.RangeFuncNested
import Derived.RangeFuncBox
import Derived.RangeFuncBound
import Derived.RangeFuncLeaves
import Derived.OwnWalkIn
namespace Go.Proofs.Ytcbpdjenncbbeaa
open Go Go.RowKit

section
variable {P : Program} {ops : Array Oper} {md : Region.Mode} {C : World → Prop}

def depsB (md : Region.Mode) (ops : Array Oper) (t : Nat) : List Nat := match ops[t]? with | some o => (o.after.toList.filter (fun e => Region.binds md e)).map (fun e => e.on) | none => []
def ancs (md : Region.Mode) (ops : Array Oper) (t : Nat) : List Nat := (List.range ops.size).reverse.foldl (fun S j => if S.contains j then depsB md ops j ++ S else S) (depsB md ops t)
def closedB (md : Region.Mode) (ops : Array Oper) (listed : Array Bool) : Bool := decide (listed.size = ops.size) && (List.range ops.size).all fun j => !(listed.getD j false) || (depsB md ops j).all fun i => listed.getD i false
structure SInv (md : Region.Mode) (ops : Array Oper) (l0 listed : Array Bool) : Prop where
  size : listed.size = ops.size
  closed : ∀ j, listed.getD j false = true → ∀ i ∈ depsB md ops j, listed.getD i false = true
  mono : ∀ j, l0.getD j false = true → listed.getD j false = true
theorem depsB_mem {j : Nat} {oj : Oper} (h : ops[j]? = some oj) {e : Edge} (he : e ∈ oj.after) (hb : Region.binds md e = true) : e.on ∈ depsB md ops j := by
  unfold depsB
  rw [h]
  exact List.mem_map.2 ⟨e, List.mem_filter.2 ⟨by simpa using he, hb⟩, rfl⟩
theorem ready_deps {j : Nat} {listed : Array Bool} (h : j ∈ Region.ready md ops listed) : ∀ i ∈ depsB md ops j, listed.getD i false = true := by
  obtain ⟨_, o, ho, hall⟩ := mem_ready.1 h
  intro i hi
  unfold depsB at hi
  rw [ho] at hi
  obtain ⟨e, he, rfl⟩ := List.mem_map.1 hi
  obtain ⟨he, hb⟩ := List.mem_filter.1 he
  exact hall e (by simpa using he) hb
theorem SInv.set {l0 listed : Array Bool} (inv : SInv md ops l0 listed) {i : Nat} (hi : i ∈ Region.ready md ops listed) : SInv md ops l0 (listed.setIfInBounds i true) := by
  have hd := ready_deps hi
  refine ⟨by simp [inv.size], fun j hj k hk => ?_, fun j hj => getD_set_true (inv.mono j hj)⟩
  by_cases hij : i = j
  · subst hij; exact getD_set_true (hd k hk)
  · rw [getD_set_ne false hij] at hj
    exact getD_set_true (inv.closed j hj k hk)
theorem SInv.ancs {l0 listed : Array Bool} (inv : SInv md ops l0 listed) {t : Nat} (ht : t ∈ Region.ready md ops listed) : ∀ i ∈ ancs md ops t, listed.getD i false = true := by
  unfold Ytcbpdjenncbbeaa.ancs
  have : ∀ (l S : List Nat), (∀ i ∈ S, listed.getD i false = true) → ∀ i ∈ l.foldl (fun S j => if S.contains j then depsB md ops j ++ S else S) S, listed.getD i false = true := by
    intro l
    induction l with
    | nil => intro S h; exact h
    | cons j l ih =>
      intro S h
      refine ih _ ?_
      dsimp only
      split
      · rename_i hc
        have hj := h j (by simpa using hc)
        intro i hi
        rcases List.mem_append.1 hi with hi | hi
        · exact inv.closed j hj i hi
        · exact h i hi
      · exact h
  exact this _ _ (ready_deps ht)
theorem sinv_of {listed : Array Bool} (h : closedB md ops listed = true) : SInv md ops listed listed := by
  simp only [closedB, Bool.and_eq_true, decide_eq_true_eq] at h
  refine ⟨h.1, fun j hj i hi => ?_, fun _ h => h⟩
  have h1 := List.all_eq_true.1 h.2 j
  by_cases hlt : j < ops.size
  · have h2 := h1 (List.mem_range.2 hlt)
    rw [hj, Bool.not_true, Bool.false_or] at h2
    exact List.all_eq_true.1 h2 i hi
  · unfold depsB at hi; rw [Array.getElem?_eq_none (by omega)] at hi; cases hi

/-- so many more operations come up, all of hd, each quiet; then L -/
def headS (P : Program) (md : Region.Mode) (ops : Array Oper) (C : World → Prop) (hd : List Nat) (L : Array Bool → Act → Prop) : Nat → Array Bool → Act → Prop
  | 0, listed, a => L listed a
  | f + 1, listed, a => Region.ready md ops listed ≠ [] ∧ ∀ i ∈ Region.ready md ops listed, i ∈ hd ∧ qOp P ops C i (headS P md ops C hd L f (listed.setIfInBounds i true)) a
theorem any_of_headS {hd : List Nat} {g : Nat} {L : Array Bool → Act → Prop} {Q' : Exit → Act → World → Prop} (hL : ∀ listed a w, C w → L listed a → wpAny P md ops Q' g listed a w) (f : Nat) :
    ∀ (listed : Array Bool) (a : Act) (w : World), C w → headS P md ops C hd L f listed a → wpAny P md ops Q' (f + g) listed a w := by
  induction f with
  | zero => intro listed a w hw h; rw [Nat.zero_add]; exact hL _ _ _ hw h
  | succ f ih =>
    intro listed a w hw h
    rw [Nat.succ_add]
    exact ⟨fun h0 => absurd h0 h.1, fun i hi => wpOp_of_qOp hw (fun a' w' hw' h' => ih _ a' w' hw' h') (h.2 i hi).2⟩
theorem headS_first {hd : List Nat} {l0 : Array Bool} {i : Nat} {oi : Oper} {v : Value} {L : Array Bool → Act → Prop} (hi : ops[i]? = some oi) (hsel : ∀ (j : Nat) (o : Oper) cs b, ops[j]? = some o → o.op ≠ .select cs b)
    (htw : ∀ listed, SInv md ops l0 listed → ∀ t ∈ Region.ready md ops listed, t ∉ hd → ∀ i ∈ hd, listed.getD i false = true) (hin : i ∈ hd) (hdone : ∀ listed a, L listed a → ∀ j ∈ Region.ready md ops listed, j ∉ hd) (f : Nat) :
    ∀ (listed : Array Bool) (a : Act), SInv md ops l0 listed →
      (∀ j oj, ops[j]? = some oj → j ≠ i → listed.getD j true = false → (∀ e ∈ oj.after, Region.binds md e = true → e.on ≠ i) → oi.apart ops oj = true) →
      i ∈ Region.ready md ops listed → YieldsIn P ops C oi v a → headS P md ops C hd L f (listed.setIfInBounds i true) (a.put oi.dst v) → headS P md ops C hd L (f + 1) listed a := by
  induction f with
  | zero =>
    intro listed a inv _ hr hy H
    have hun := (mem_ready.1 hr).1
    refine ⟨fun h => (by rw [h] at hr; cases hr), fun j hj => ?_⟩
    have hjn : j ∈ hd := Classical.byContradiction fun h => by have := htw _ inv j hj h i hin; rw [getD_both hun] at this; cases this
    refine ⟨hjn, ?_⟩
    by_cases hji : j = i
    · subst hji; exact hy.qOp hi H
    · exact absurd hjn (hdone _ _ H j (ready_mono hj hji))
  | succ f ih =>
    intro listed a inv hfree hr hy H
    have hun := (mem_ready.1 hr).1
    refine ⟨fun h => (by rw [h] at hr; cases hr), fun j hj => ?_⟩
    have hjn : j ∈ hd := Classical.byContradiction fun h => by have := htw _ inv j hj h i hin; rw [getD_both hun] at this; cases this
    refine ⟨hjn, ?_⟩
    by_cases hji : j = i
    · subst hji; exact hy.qOp hi H
    obtain ⟨hjun, oj, hoj, hall⟩ := mem_ready.1 hj
    have hnot : ∀ e ∈ oj.after, Region.binds md e = true → e.on ≠ i := by
      intro e he hb heq
      have h1 := hall e he hb
      rw [heq, getD_both hun] at h1
      cases h1
    have h2 := qOp_put hoj (hfree j oj hoj hji hjun hnot) (fun cs b => hsel i oi cs b hi) (fun cs b => hsel j oj cs b hoj) hy (H.2 j (ready_mono hj hji)).2
    refine qOp_mono (fun a' h3 => ih (listed.setIfInBounds j true) a' (inv.set hj) ?_ (ready_mono hr (Ne.symm hji)) h3.1 ?_) h2
    · intro k ok hk hki hun' hno
      refine hfree k ok hk hki ?_ hno
      by_cases hjk : j = k
      · subst hjk; exact hjun
      · rw [getD_set_ne true hjk] at hun'; exact hun'
    · rw [Array.setIfInBounds_comm _ _ hji]; exact h3.2
/-- in this order they come up, each apart from what is not there yet -/
def lexS (md : Region.Mode) (ops : Array Oper) (hd : List Nat) : List Nat → Array Bool → Bool
  | [], listed => (Region.ready md ops listed).all (fun j => !hd.contains j)
  | k :: r, listed => (Region.ready md ops listed).contains k && hd.contains k && Region.free md ops listed k && lexS md ops hd r (listed.setIfInBounds k true)
def setAll (l : List Nat) (listed : Array Bool) : Array Bool := l.foldl (fun s i => s.setIfInBounds i true) listed
theorem headS_lex {hd : List Nat} {l0 : Array Bool} {Lq : Act → Prop} (hsel : Region.noSelect ops = true)
    (htw : ∀ listed, SInv md ops l0 listed → ∀ t ∈ Region.ready md ops listed, t ∉ hd → ∀ i ∈ hd, listed.getD i false = true) (l : List Nat) :
    ∀ (listed : Array Bool) (a : Act), SInv md ops l0 listed → lexS md ops hd l listed = true → wpQuiet P ops C Lq (pick ops.toList l) a →
    headS P md ops C hd (fun listed' a' => (listed' = setAll l listed ∧ ((Region.ready md ops listed').all (fun j => !hd.contains j)) = true) ∧ Lq a') l.length listed a := by
  induction l with
  | nil => intro listed a _ hB h; exact ⟨⟨rfl, by simpa [lexS] using hB⟩, h⟩
  | cons k l ih =>
    intro listed a inv hB h
    simp only [lexS, Bool.and_eq_true] at hB
    obtain ⟨⟨⟨hr, hin⟩, hf⟩, hB'⟩ := hB
    have hr' : k ∈ Region.ready md ops listed := by simpa using hr
    obtain ⟨o, h0⟩ := ready_lt hr'
    have hp : pick ops.toList (k :: l) = o :: pick ops.toList l := by simp [pick, List.getD_eq_getElem?_getD, h0]
    rw [hp] at h
    have hq : qOp P ops C k (wpQuiet P ops C Lq (pick ops.toList l)) a := by unfold qOp; simp only [h0]; exact h
    obtain ⟨v, hy, hK⟩ := yieldsIn_of_qOp h0 hq
    refine headS_first h0 (Region.noSelect_spec hsel) htw (by simpa using hin) (fun listed' a' hL j hj => ?_) l.length listed a inv (Region.free_spec h0 hf) hr' hy ?_
    · have := List.all_eq_true.1 hL.1.2 j hj
      simpa using this
    · exact ih _ _ (inv.set hr') hB' hK
/-- may a piece be taken so -/
def segB (md : Region.Mode) (ops : Array Oper) (hd : List Nat) (l0 : Array Bool) : Bool :=
  Region.noSelect ops && closedB md ops l0 && lexS md ops hd hd l0 && (List.range ops.size).all fun t => hd.contains t || l0.getD t false || hd.all fun i => (ancs md ops t).contains i
theorem wpAny_seg {Q : Exit → Act → World → Prop} {g : Nat} (C : World → Prop) (hd : List Nat) {n : Nat} (hn : hd.length + g = n) {l0 : Array Bool} {a : Act} {w : World} (hB : segB md ops hd l0 = true) (hw : C w)
    (h : wpQuiet P ops C (fun a' => ∀ w', C w' → wpAny P md ops Q g (setAll hd l0) a' w') (pick ops.toList hd) a) : wpAny P md ops Q n l0 a w := by
  subst hn
  simp only [segB, Bool.and_eq_true] at hB
  obtain ⟨⟨⟨h1, h2⟩, h3⟩, h4⟩ := hB
  have inv := sinv_of h2
  have htw : ∀ listed, SInv md ops l0 listed → ∀ t ∈ Region.ready md ops listed, t ∉ hd → ∀ i ∈ hd, listed.getD i false = true := by
    intro listed inv t ht hth i hi
    obtain ⟨hun, o, ho, _⟩ := mem_ready.1 ht
    have h5 := List.all_eq_true.1 h4 t (List.mem_range.2 (Array.getElem?_eq_some_iff.1 ho).1)
    simp only [Bool.or_eq_true] at h5
    rcases h5 with (h5 | h5) | h5
    · exact absurd (by simpa using h5) hth
    · have := inv.mono t h5; rw [getD_both hun] at this; cases this
    · exact inv.ancs ht i (by simpa using List.all_eq_true.1 h5 i hi)
  refine any_of_headS (C := C) (hd := hd) (fun listed' a' w' hw' hL => ?_) hd.length l0 a w hw (headS_lex h1 htw hd l0 a inv h3 h)
  obtain ⟨⟨rfl, _⟩, hL⟩ := hL
  exact hL w' hw'
theorem wp_then {o : Oper} {a : Act} {w : World} {K K0 : Act → World → Prop} {Q : Exit → Act → World → Prop} (h : o.wp P a w K (Exit.then K0 Q)) : o.wp P a w K Q := by
  unfold Oper.wp at *
  generalize (execOp a.eval o).run P w = r at *
  cases r with
  | ok x w' =>
    cases x <;> simp only [Oper.upon] at h ⊢ <;>
      first
        | exact h
        | exact h.mono (fun e w'' he => by cases e <;> first | exact he | exact (let ⟨a, w, h⟩ := he; ⟨a, w, h⟩))
  | halt x w' => cases x <;> simp only [Oper.upon] at h ⊢ <;> exact h
/-- one that comes up alone -/
theorem wpAny_one {Q : Exit → Act → World → Prop} {g : Nat} (i : Nat) {l0 : Array Bool} {a : Act} {w : World} (hB : decide (Region.ready md ops l0 = [i]) = true)
    (h : wpList P ops (Exit.then (wpAny P md ops Q g (l0.setIfInBounds i true)) Q) (pick ops.toList [i]) a w) : wpAny P md ops Q (g + 1) l0 a w := by
  have hr : Region.ready md ops l0 = [i] := by simpa using hB
  obtain ⟨o, ho⟩ := ready_lt (md := md) (ops := ops) (listed := l0) (i := i) (by rw [hr]; simp)
  refine wpAny_all hr (by simp) fun j hj => ?_
  obtain rfl : j = i := by simpa using hj
  have hp : pick ops.toList [j] = [o] := by simp [pick, List.getD_eq_getElem?_getD, ho]
  rw [hp] at h
  unfold wpOp
  simp only [ho]
  unfold wpList at h
  by_cases hw : Region.wanted o (yielded ops a.tmps) = true
  · rw [if_pos hw] at h ⊢
    refine h.imp (fun h => wp_then (Oper.wp_mono (fun a' w' h' => h') h)) (fun h => ⟨h.1, let ⟨a, w, h⟩ := h.2; ⟨a, w, h⟩⟩)
  · rw [if_neg hw] at h ⊢
    exact h
def pureS (md : Region.Mode) (ops : Array Oper) : List Nat → Array Bool → Bool
  | [], _ => true
  | i :: r, listed => (Region.ready md ops listed).contains i && Region.free md ops listed i && pureS md ops r (listed.setIfInBounds i true)
theorem pureS_go {Q : Exit → Act → World → Prop} {g : Nat} {w : World} (hsel : Region.noSelect ops = true) (hQ : ∀ c (a : Act) d v w, Q (.panic c) (a.put d v) w → Q (.panic c) a w) : ∀ (hd : List Nat) (l0 : Array Bool) (a : Act), pureS md ops hd l0 = true → wpPure P ops (fun a' => wpAny P md ops Q g (setAll hd l0) a' w) (pick ops.toList hd) a → wpAny P md ops Q (hd.length + g) l0 a w
  | [], l0, a, _, h => by rw [List.length_nil, Nat.zero_add]; exact h
  | i :: r, l0, a, hB, h => by
    simp only [pureS, Bool.and_eq_true] at hB
    obtain ⟨⟨hr, hf⟩, hB'⟩ := hB
    obtain ⟨o, ho⟩ := ready_lt (md := md) (ops := ops) (listed := l0) (i := i) (by simpa using hr)
    have hp : pick ops.toList (i :: r) = o :: pick ops.toList r := by simp [pick, List.getD_eq_getElem?_getD, ho]
    rw [hp] at h
    rw [List.length_cons, Nat.succ_add]
    unfold wpPure at h
    by_cases hw : Region.wanted o (yielded ops a.tmps) = true
    · rw [if_pos hw] at h
      obtain ⟨v, hv, hrest⟩ := h
      exact wpAny_take ho hsel hf hr (fun c a w => hQ c a _ _ w) (.inl ⟨hw, hv⟩) (pureS_go hsel hQ r _ _ hB' hrest)
    · rw [if_neg hw] at h
      exact wpAny_take ho hsel hf hr (fun c a w => hQ c a _ _ w) (.inr ⟨by simpa using hw, rfl⟩) (pureS_go hsel hQ r _ _ hB' h)
/-- those that only compute may be taken first -/
theorem wpAny_pure {Q : Exit → Act → World → Prop} {g n : Nat} (hd : List Nat) (hn : hd.length + g = n) {l0 : Array Bool} {a : Act} {w : World} (hB : (Region.noSelect ops && pureS md ops hd l0) = true) (hQ : ∀ c (a : Act) d v w, Q (.panic c) (a.put d v) w → Q (.panic c) a w)
    (h : wpPure P ops (fun a' => wpAny P md ops Q g (setAll hd l0) a' w) (pick ops.toList hd) a) : wpAny P md ops Q n l0 a w := by
  subst hn
  simp only [Bool.and_eq_true] at hB
  exact pureS_go hB.1 hQ hd l0 a hB.2 h
theorem wp_region_pieces {id : Nat} {Q : Exit → Act → World → Prop} {a : Act} {w : World} {l : List Oper} (hm : P.follows .mixedOrders = true)
    (h : wpAny P .any l.toArray Q l.length (Array.replicate l.length false) a w.drew) : (Code.region id l.toArray true).wp P Q a w := by
  refine wp_region_any hm ?_
  simpa using h
/-- operations that read, in every world that meets S, the same; then L -/
def wpRead (P : Program) (ops : Array Oper) (S : World → Prop) (L : Act → Prop) : List Oper → Act → Prop
  | [], a => L a
  | o :: rest, a => if Region.wanted o (yielded ops a.tmps) = true then ∃ v, (∀ w, S w → (execOp a.eval o).run P w = .ok (.value v) w) ∧ wpRead P ops S L rest (a.put o.dst v) else wpRead P ops S L rest (a.put o.dst undef)
theorem wpRead_nil {S : World → Prop} {L : Act → Prop} {a : Act} (h : L a) : wpRead P ops S L [] a := h
theorem wpRead_step {S : World → Prop} {L : Act → Prop} {a : Act} {o : Oper} {rest : List Oper}
    (h : ∀ K : Act → Prop, (∀ a, wpRead P ops S L rest a → K a) → if Region.wanted o (yielded ops a.tmps) = true then ∃ v, (∀ w, S w → (execOp a.eval o).run P w = .ok (.value v) w) ∧ K (a.put o.dst v) else K (a.put o.dst undef)) : wpRead P ops S L (o :: rest) a :=
  h _ (fun _ h => h)
theorem reads_go {S : World → Prop} {Q : Exit → Act → World → Prop} {g : Nat} {w : World} (hsel : Region.noSelect ops = true) (hS : S w) (hQ : ∀ c (a : Act) d v w, Q (.panic c) (a.put d v) w → Q (.panic c) a w) : ∀ (hd : List Nat) (l0 : Array Bool) (a : Act), pureS md ops hd l0 = true → wpRead P ops S (fun a' => wpAnyH P md ops Q S g (setAll hd l0) a' w) (pick ops.toList hd) a → wpAnyH P md ops Q S (hd.length + g) l0 a w
  | [], l0, a, _, h => by rw [List.length_nil, Nat.zero_add]; exact h
  | i :: r, l0, a, hB, h => by
    simp only [pureS, Bool.and_eq_true] at hB
    obtain ⟨⟨hr, hf⟩, hB'⟩ := hB
    obtain ⟨o, ho⟩ := ready_lt (md := md) (ops := ops) (listed := l0) (i := i) (by simpa using hr)
    have hp : pick ops.toList (i :: r) = o :: pick ops.toList r := by simp [pick, List.getD_eq_getElem?_getD, ho]
    rw [hp] at h
    rw [List.length_cons, Nat.succ_add]
    unfold wpRead at h
    by_cases hw : Region.wanted o (yielded ops a.tmps) = true
    · rw [if_pos hw] at h
      obtain ⟨v, hv, hrest⟩ := h
      exact wpAnyH_take ho hsel hf hr (fun c a w => hQ c a _ _ w) (.inl ⟨hw, hv⟩) hS (reads_go hsel hS hQ r _ _ hB' hrest)
    · rw [if_neg hw] at h
      exact wpAnyH_take ho hsel hf hr (fun c a w => hQ c a _ _ w) (.inr ⟨by simpa using hw, rfl⟩) hS (reads_go hsel hS hQ r _ _ hB' h)
/-- those that only read what S says may be taken first -/
theorem held_reads {S : World → Prop} {Q : Exit → Act → World → Prop} {g n : Nat} (hd : List Nat) (hn : hd.length + g = n) {l0 : Array Bool} {a : Act} {w : World} (hB : (Region.noSelect ops && pureS md ops hd l0) = true) (hS : S w) (hQ : ∀ c (a : Act) d v w, Q (.panic c) (a.put d v) w → Q (.panic c) a w)
    (h : wpRead P ops S (fun a' => wpAnyH P md ops Q S g (setAll hd l0) a' w) (pick ops.toList hd) a) : wpAnyH P md ops Q S n l0 a w := by
  subst hn
  simp only [Bool.and_eq_true] at hB
  exact reads_go hB.1 hS hQ hd l0 a hB.2 h
/-- one that comes up alone: behind it S holds -/
theorem held_one {S : World → Prop} {Q : Exit → Act → World → Prop} {g : Nat} (i : Nat) {l0 : Array Bool} {a : Act} {w : World} (hB : decide (Region.ready md ops l0 = [i]) = true)
    (h : wpList P ops (Exit.then (fun a' w' => S w' ∧ wpAnyH P md ops Q S g (l0.setIfInBounds i true) a' w') Q) (pick ops.toList [i]) a w) : wpAnyH P md ops Q S (g + 1) l0 a w := by
  have hr : Region.ready md ops l0 = [i] := by simpa using hB
  obtain ⟨o, ho⟩ := ready_lt (md := md) (ops := ops) (listed := l0) (i := i) (by rw [hr]; simp)
  refine wpAnyH_all hr (by simp) fun j hj => ?_
  obtain rfl : j = i := by simpa using hj
  have hp : pick ops.toList [j] = [o] := by simp [pick, List.getD_eq_getElem?_getD, ho]
  rw [hp] at h
  unfold wpOp
  simp only [ho]
  unfold wpList at h
  by_cases hw : Region.wanted o (yielded ops a.tmps) = true
  · rw [if_pos hw] at h ⊢
    refine h.imp (fun h => wp_then (Oper.wp_mono (fun a' w' h' => h') h)) (fun h => ⟨h.1, let ⟨a, w, h⟩ := h.2; ⟨a, w, h⟩⟩)
  · rw [if_neg hw] at h ⊢
    exact h
theorem wp_region_heldP {id : Nat} {Q : Exit → Act → World → Prop} {a : Act} {w : World} {l : List Oper} (S : World → Prop) (hm : P.follows .mixedOrders = true)
    (h : wpAnyH P .any l.toArray Q S l.length (Array.replicate l.length false) a w.drew) : (Code.region id l.toArray true).wp P Q a w := by
  refine wp_region_held (S := S) hm ?_
  simpa using h
end
end Go.Proofs.Ytcbpdjenncbbeaa
/- A trie's prefixes in order; what a loop's body keeps of what an iterator has laid. -/
namespace Go.Proofs.Ytcbpdjenncbbeaa
open Go.RowKit
section
variable {α : Type}
/-- the things of a branch, in order -/
def trav (M : Nat → Nat → Option α) : Nat → Nat → Nat → List (Nat × Nat)
  | 0, _, _ => []
  | f + 1, a, d => (if (M a d).isSome then [(a, d)] else []) ++ (trav M f (kid a d false) (d + 1) ++ trav M f (kid a d true) (d + 1))
variable {TN TT : TypeId} {enc : α → Value} {z : α} {w w' : World} {b n : Nat} {N : Nat → Nat → Option Nat} {M : Nat → Nat → Option α}
theorem TrieAt.trav_none (h : TrieAt TN TT enc z w b N n M) : ∀ (f a d : Nat), (Key a d ∨ 32 < d) → N a d = none → trav M f a d = []
  | 0, _, _, _, _ => rfl
  | f + 1, a, d, hk, hn => by
    have hkid : ∀ c, trav M f (kid a d c) (d + 1) = [] := fun c => by
      rcases hk with hk | hk
      · by_cases hd : d ≤ 31
        · refine h.trav_none f _ _ (.inl (hk.kid hd c)) ?_
          cases e : N (kid a d c) (d + 1) with
          | none => rfl
          | some q => have := h.up _ _ (by rw [e]; rfl); rw [kid_cut hk hd, hn] at this; cases this
        · exact h.trav_none f _ _ (.inr (by omega)) (h.none33 _ (by omega))
      · exact h.trav_none f _ _ (.inr (by omega)) (h.none33 _ (by omega))
    rw [trav, h.thing_none hn, hkid, hkid]; rfl
end

/-- the block of the slice that a box holds -/
def OwnAt (W : World) (B k : Nat) : Prop := ∃ v, W.cell? ⟨B, 0, none⟩ = some v ∧ v.ownBlock = some k
/-- what a round keeps: all cells but the box B and its slice's block -/
structure Kp (B : Nat) (W W' : World) : Prop where
  os : W'.os = W.os
  tape : W'.tape = W.tape
  output : W'.output = W.output
  size : W.heap.size ≤ W'.heap.size
  same : ∀ k, k < W.heap.size → k ≠ B → (∃ o, W.heap[k]? = some o ∧ o.isCells = true) → ¬ OwnAt W B k → W'.heap[k]? = W.heap[k]? ∧ ¬ OwnAt W' B k
  fresh : (∀ k, OwnAt W B k → k < W.heap.size) → ∀ k, OwnAt W' B k → k < W'.heap.size
theorem Kp.trans {B : Nat} {X Y Z : World} (h : Kp B X Y) (k : Kp B Y Z) : Kp B X Z :=
  ⟨k.os.trans h.os, k.tape.trans h.tape, k.output.trans h.output, Nat.le_trans h.size k.size, fun i hi hn ho hw => by
    obtain ⟨h1, h2⟩ := h.same i hi hn ho hw
    obtain ⟨h3, h4⟩ := k.same i (Nat.lt_of_lt_of_le hi h.size) hn (by rw [h1]; exact ho) h2
    exact ⟨h3.trans h1, h4⟩, fun hf => k.fresh (h.fresh hf)⟩
theorem ownAt_same {W W' : World} {B k : Nat} (e : W'.heap[B]? = W.heap[B]?) : OwnAt W' B k ↔ OwnAt W B k := by
  unfold OwnAt; rw [World.cell?_of_block (a := ⟨B, 0, none⟩) e]
theorem Kp.of_below {B : Nat} {W W' : World} (hB : B < W.heap.size) (h : Below W.heap.size W W') : Kp B W W' :=
  ⟨h.os, h.tape, h.output, h.size, fun k hk _ _ hw => ⟨h.block k hk, fun hw' => hw ((ownAt_same (h.block B hB)).1 hw')⟩, fun hf k hk => Nat.lt_of_lt_of_le (hf k ((ownAt_same (h.block B hB)).1 hk)) h.size⟩
theorem Kp.refl {B : Nat} (W : World) : Kp B W W := ⟨rfl, rfl, rfl, Nat.le_refl _, fun _ _ _ _ hw => ⟨rfl, hw⟩, fun hf => hf⟩
theorem Kp.putObj {B : Nat} {W : World} {l : Nat} {o : Obj} (o' : Obj) (hB : B < l) (hl : W.heap[l]? = some o) (ho : o.isCells = false) : Kp B W (W.putObj l o') := by
  have hne : (W.putObj l o').heap[B]? = W.heap[B]? := World.putObj_heap_other (by omega)
  refine ⟨rfl, rfl, rfl, by simp, fun k hk _ hc hw => ⟨World.putObj_heap_other (fun e => ?_), fun hw' => hw ((ownAt_same hne).1 hw')⟩, fun hf k hk => ?_⟩
  · subst e; obtain ⟨o2, h1, h2⟩ := hc; rw [hl] at h1; cases h1; rw [ho] at h2; cases h2
  · have := hf k ((ownAt_same hne).1 hk); simpa using this
/-- cells that a round keeps -/
structure Safe (B : Nat) (W : World) (k : Nat) : Prop where
  lt : k < W.heap.size
  ne : k ≠ B
  cells : ∃ o, W.heap[k]? = some o ∧ o.isCells = true
  own : ¬ OwnAt W B k
theorem Safe.kp {B : Nat} {W W' : World} {k : Nat} (h : Safe B W k) (hk : Kp B W W') : Safe B W' k ∧ W'.heap[k]? = W.heap[k]? := by
  obtain ⟨h1, h2⟩ := hk.same k h.lt h.ne h.cells h.own
  exact ⟨⟨Nat.lt_of_lt_of_le h.lt hk.size, h.ne, by rw [h1]; exact h.cells, h2⟩, h1⟩
/-- what is new is kept -/
theorem Safe.new {B : Nat} {W W' : World} {k : Nat} {cs : Array Value} {T : TypeId} {fr : Nat × Nat} (hB : B < W.heap.size) (hf : ∀ k, OwnAt W B k → k < W.heap.size) (h : Below W.heap.size W W') (hk : W.heap.size ≤ k) (hc : W'.heap[k]? = some (.cells cs T fr)) : Safe B W' k :=
  ⟨lt_of_blk hc, by omega, ⟨_, hc, rfl⟩, fun hw => by have := hf k ((ownAt_same (h.block B hB)).1 hw); omega⟩
section
variable {α : Type} {TN TT : TypeId} {enc : α → Value} {z : α} {W W' : World} {b n : Nat} {N : Nat → Nat → Option Nat} {M : Nat → Nat → Option α}
/-- a trie that no round turns -/
structure Rdy (TN TT : TypeId) (enc : α → Value) (z : α) (B : Nat) (W : World) (b : Nat) (N : Nat → Nat → Option Nat) (n : Nat) (M : Nat → Nat → Option α) : Prop where
  trie : TrieAt TN TT enc z W b N n M
  foot : ∀ k, foot b N k → k ≠ B ∧ ¬ OwnAt W B k
  box : B < W.heap.size
  fresh : ∀ k, OwnAt W B k → k < W.heap.size
theorem Rdy.safe {B : Nat} (h : Rdy TN TT enc z B W b N n M) {k : Nat} (hk : Ytcbpdjenncbbeaa.foot b N k) : Safe B W k := by
  obtain ⟨h1, h2⟩ := h.foot k hk
  refine ⟨h.trie.lt hk, h1, ?_, h2⟩
  rcases hk with rfl | ⟨a, d, hk⟩
  · obtain ⟨r, _, hb⟩ := h.trie.root; exact ⟨_, hb, rfl⟩
  · exact ⟨_, h.trie.node _ _ _ hk, rfl⟩
theorem Rdy.kp {B : Nat} (h : Rdy TN TT enc z B W b N n M) (hk : Kp B W W') : Rdy TN TT enc z B W' b N n M :=
  ⟨h.trie.keep fun _k hf => ((h.safe hf).kp hk).2, fun _k hf => let s := ((h.safe hf).kp hk).1; ⟨s.ne, s.own⟩, Nat.lt_of_lt_of_le h.box hk.size, hk.fresh h.fresh⟩
end
theorem grown_of_below {w w' : World} (h : Below w.heap.size w w') : w.grownBy w' none := ⟨h.os, h.tape, h.output, h.size, fun k hk _ => h.block k hk⟩
/-- what the iterator is told, it abides where nothing that was there has turned -/
theorem abides_below {β : Type} {B : Nat} {J : β → World → Prop} (h : AbidesFrom B J) {s : β} {W W' : World} (hs : J s W) (hb : Below W.heap.size W W') : J s W' := h s W W' none hs (grown_of_below hb) (fun r e => by cases e)
theorem room_of_none {F : Fence} (hd : F.depth = none) (k : Nat) : F.room k := fun d h => by rw [hd] at h; cases h
theorem RoundIn.anyDepth {F : Fence} (hd : F.depth = none) {m m' : Nat} {P : Program} {l : Nat} {f : FuncId} {tmps : Array Value} {assign body : Code} {w : World} {R : Ending → World → Prop}
    (h : RoundIn F m P l f tmps assign body w R) : RoundIn F m' P l f tmps assign body w R := ⟨h.1, fun c cs _ => h.2 c cs (room_of_none hd _)⟩
theorem YieldAt.anyDepth {F : Fence} (hd : F.depth = none) {m : Nat} (m' : Nat) {P : Program} {l : Nat} {args : Array Value} {W : World} {R : Ending → World → Prop} (h : YieldAt F m P l args W R) : YieldAt F m' P l args W R := by
  obtain ⟨fn, tmps, assign, body, hy, hR⟩ := h
  exact ⟨fn, tmps, assign, body, hy, RoundIn.anyDepth hd hR⟩
theorem ownAt_nil {W : World} {B k : Nat} {t : TypeId} (h : Boxed W B t (.slice none 0 0)) : ¬ OwnAt W B k := fun ⟨u, h1, h2⟩ => by rw [h.cell] at h1; cases h1; cases h2
/-- append's block is the old one, or new -/
theorem append_block {P : Program} (w : World) (base : Nat) (t ty e : TypeId) (i : TypeInfo) (z : Value) (size bytes : Nat) (ht : P.underlying t = some (.slice e)) (hi : P.info? e = some i) (hz : i.zero = some z)
    (hsize : i.size = size) (hby : i.bytes = bytes) (v : Value) (n : Nat) (xs : List Value) (hown : w.ownsRow base e size v n xs)
    (a : Addr) (m c : Nat) (news : List Value) (hl : news.length = m * size) (hnews : ∀ j u, news[j]? = some u → w.cell? (a.add j) = some u) (h1 : ∀ u ∈ news, u.oneCell' = true)
    (hm : 0 < m) (h63 : n + m ≤ maxLen) (hbytes : (n + m) * bytes ≤ 140737488355328) {v' : Value} {w' : World} (hrun : (Builtin.append_ #[t, t] ty #[v, .slice (some a) m c]).run P w = .ok v' w') :
    v'.ownBlock = v.ownBlock ∨ v'.ownBlock = some w.heap.size := by
  subst hsize
  subst hby
  have hsmall : n + m ≤ 9223372036854775807 := by simp only [maxLen] at h63; omega
  rcases hown.2 with ⟨rfl, rfl⟩ | ⟨g, cap, cur, rfl, hbg, hg, hnc, hcm, hcs, htake⟩
  · have hr := run_append_nil (P := P) w t ty e i z ht hi hz a m c news hl hnews (by omega) (by omega) (by have hb := hbytes; simp only [Nat.zero_add] at hb; omega)
    rw [hr] at hrun
    injection hrun with h2 _
    subst h2
    exact .inr rfl
  · by_cases hroom : n + m ≤ cap
    · have hfit : n * i.size + news.length ≤ cur.size := by rw [hl, hcs, ← Nat.add_mul]; exact Nat.mul_le_mul_right _ hroom
      have hr := run_append_room (P := P) w t ty e i ht hi g n cap cur hg a m c news hl hnews h1 hroom hfit
      rw [hr] at hrun
      injection hrun with h2 _
      subst h2
      exact .inl rfl
    · have holds : ∀ j u, xs[j]? = some u → w.cell? ((⟨g, 0, none⟩ : Addr).add j) = some u := hown.cells (g := g) rfl
      have hr := run_append_grow (P := P) w t ty e i z ht hi hz ⟨g, 0, none⟩ n cap xs hown.1 holds a m c news hl hnews (by omega) (by omega) (growslice_fits (by omega) hbytes)
      rw [hr] at hrun
      injection hrun with h2 _
      subst h2
      exact .inr rfl
theorem wpListIn_append_blk {F : Fence} {n : Nat} {P : Program} (w : World) {ops : Array Oper} {rest : List Oper} {o : Oper} {a : Act} {Q : Exit → Act → World → Prop}
    (hg : o.guard = none) (s x : Operand) (t : TypeId) (hop : o.op = Op.call { callee := Callee.builtin Builtin.append, args := #[s, x], argTypes := #[t, t] })
    (base : Nat) (e : TypeId) (i : TypeInfo) (z : Value) (size bytes : Nat) (h1 : P.underlying t = some (.slice e)) (h2 : P.info? e = some i) (h3 : i.zero = some z) (h4 : i.size = size) (h5 : i.bytes = bytes) (h6 : z.cells.size = size) (h7 : 0 < size)
    (v : Value) (k : Nat) (xs : List Value) (hs : a.eval s = v) (hown : w.ownsRow base e size v k xs) (ad : Addr) (m c : Nat) (news : List Value) (hx : a.eval x = .slice (some ad) m c) (hn : news.length = m * size)
    (hc : ∀ j u, news[j]? = some u → w.cell? (ad.add j) = some u) (h1c : ∀ u ∈ news, u.oneCell' = true) (hm : 0 < m) (b1 : k + m ≤ maxLen) (b2 : (k + m) * bytes ≤ 140737488355328) (b3 : base ≤ w.heap.size)
    (hK : ∀ v' w', w'.ownsRow base e size v' (k + m) (xs ++ news) → w.grownBy w' v.ownBlock → (v'.ownBlock = v.ownBlock ∨ v'.ownBlock = some w.heap.size) → wpListIn F n P ops Q rest (a.put o.dst v') w') :
    wpListIn F n P ops Q (o :: rest) a w := by
  refine wpListIn_plain hg fun K hK' => ?_
  obtain ⟨v', w', hrun, r1, r2, r3⟩ := run_append_own (P := P) w base t o.type e i z size bytes h1 h2 h3 h4 h5 h6 h7 v k xs hown ad m c news hn hc h1c b1 b2 b3
  have r4 := append_block w base t o.type e i z size bytes h1 h2 h3 h4 h5 v k xs hown ad m c news hn hc h1c hm b1 b2 hrun
  unfold Oper.wpIn
  refine ⟨?_, ?_⟩
  · simp [Oper.about, hop, resolve, Target.leads, Sem.run_pure]
  · rw [Oper.semAt_plain F _ _ (by rw [hop]; intro c hc'; cases hc')]
    simp [execOp, hop, resolve, invoke, builtin, hs, hx, hrun, Result.andThen]
    exact hK' _ _ (hK v' w' r1 r2 r4)
/-- a round that appends keeps what it must -/
theorem Kp.appended {W w1 : World} {n₀ B : Nat} {t e : TypeId} {size : Nat} {v v' : Value} {k m : Nat} {xs ys : List Value} {tmp : Obj}
    (hv : Boxed W B t v) (hte : t ≠ e) (hrow : W.ownsRow n₀ e size v k xs) (hown' : w1.ownsRow n₀ e size v' m ys) (hgrow : (W.alloc tmp).grownBy w1 v.ownBlock)
    (hblk : v'.ownBlock = v.ownBlock ∨ v'.ownBlock = some (W.alloc tmp).heap.size) : Kp B W (w1.setCell ⟨B, 0, none⟩ v') := by
  have hv1 : Boxed w1 B t v := (hv.alloc tmp).kept hgrow (hv.not_row hte hrow)
  have hv2 : Boxed (w1.setCell ⟨B, 0, none⟩ v') B t v' := hv1.set v'
  have hsz : W.heap.size + 1 ≤ w1.heap.size := by have := hgrow.size; simpa using this
  have hown : ∀ q, OwnAt (w1.setCell ⟨B, 0, none⟩ v') B q ↔ v'.ownBlock = some q := fun q => ⟨fun ⟨u, h1, h2⟩ => by rw [hv2.cell] at h1; cases h1; exact h2, fun h => ⟨v', hv2.cell, h⟩⟩
  have hownW : ∀ q, OwnAt W B q ↔ v.ownBlock = some q := fun q => ⟨fun ⟨u, h1, h2⟩ => by rw [hv.cell] at h1; cases h1; exact h2, fun h => ⟨v, hv.cell, h⟩⟩
  refine ⟨?_, ?_, ?_, by simp [World.setCell]; omega, fun q hq hn hc hw => ⟨?_, fun hw' => ?_⟩, fun hf q hq => ?_⟩
  · exact hgrow.os
  · exact hgrow.tape
  · exact hgrow.output
  · have h1 : (w1.setCell ⟨B, 0, none⟩ v').heap[q]? = w1.heap[q]? := Below.heap_setCell _ _ _ _ hn
    have h2 : w1.heap[q]? = (W.alloc tmp).heap[q]? := hgrow.block q (by simp; omega) (fun e => hw ((hownW q).2 e.symm))
    rw [h1, h2]
    exact Below.heap_alloc W tmp q hq
  · have h := (hown q).1 hw'
    rcases hblk with h2 | h2
    · exact hw ((hownW q).2 (h2 ▸ h))
    · rw [h] at h2; simp at h2; omega
  · have h := (hown q).1 hq
    rcases hown'.2 with ⟨h2, _⟩ | ⟨g, cap, cur, h2, _, h3, _⟩
    · rw [h2] at h; cases h
    · rw [h2] at h
      injection h with h
      subst h
      have := lt_of_blk h3
      simpa [World.setCell] using this
end Go.Proofs.Ytcbpdjenncbbeaa
