/- A region that draws its order: a head that reads, or calls what leaves the world in a class; then what only computes; then the rest one by one. -/
import Derived.Test.YtfmehahjjgalfaaPu
namespace Go.Proofs.Ytfmehahjjgalfaa
open Go Go.RowKit

section
variable {P : Program} {ops : Array Oper} {md : Region.Mode} {C : World → Prop}

/-- behind a head of n none comes up while one of the head has not -/
def TW (md : Region.Mode) (ops : Array Oper) (n : Nat) : Prop :=
  ∀ listed, HeadInv md ops n listed → ∀ i, i < n → listed.getD i true = false → ∀ t, n ≤ t → t ∉ Region.ready md ops listed
def restB (md : Region.Mode) (ops : Array Oper) (h : Nat) : Bool :=
  (List.range ops.size).all fun t => decide (t ≤ h) || (List.range t).any fun s => decide (h ≤ s) && Region.waitsFor md ops t s
theorem all_before {n h : Nat} {listed : Array Bool} (hs : Region.sinkB md ops h = true) (inv : HeadInv md ops n listed) (hh : listed.getD h false = true) : ∀ (d i : Nat), h - i = d → i < h → listed.getD i false = true := by
  intro d
  induction d using Nat.strongRecOn with
  | _ d ih =>
    intro i hd hi
    have h1 := List.all_eq_true.1 hs i (List.mem_range.2 hi)
    obtain ⟨j, hj, hj2⟩ := List.any_eq_true.1 h1
    simp only [Bool.and_eq_true, decide_eq_true_eq] at hj2
    obtain ⟨oj, hoj, e, he, hb, hon⟩ := Region.waitsFor_spec hj2.2
    have hjle : j ≤ h := by have := List.mem_range.1 hj; omega
    have hl : listed.getD j false = true := by
      by_cases hjh : j = h
      · rw [hjh]; exact hh
      · exact ih (h - j) (by omega) j rfl (by omega)
    rw [← hon]
    exact inv.closed j oj hoj hl e he hb
theorem tw_of {h : Nat} (hs : Region.sinkB md ops h = true) (hr : restB md ops h = true) : TW md ops (h + 1) := by
  intro listed inv i hi hun t ht htr
  obtain ⟨_, ot, hot, hall⟩ := mem_ready.1 htr
  have htlt : t < ops.size := (Array.getElem?_eq_some_iff.1 hot).1
  have h1 := List.all_eq_true.1 hr t (List.mem_range.2 htlt)
  simp only [Bool.or_eq_true, decide_eq_true_eq] at h1
  rcases h1 with h1 | h1
  · omega
  · obtain ⟨s, hs1, hs2⟩ := List.any_eq_true.1 h1
    simp only [Bool.and_eq_true, decide_eq_true_eq] at hs2
    obtain ⟨o', ho', e, he, hb, hon⟩ := Region.waitsFor_spec hs2.2
    have : o' = ot := Option.some.inj (ho'.symm.trans hot)
    subst this
    have h2 := hall e he hb
    rw [hon] at h2
    have hst : s < t := List.mem_range.1 hs1
    by_cases hsh : s = h
    · subst hsh
      by_cases his : i = s
      · subst his; rw [getD_both hun] at h2; cases h2
      · have := all_before hs inv h2 (s - i) i rfl (by omega)
        rw [getD_both hun] at this; cases this
    · rw [getD_both (inv.tail s (by omega) (by omega))] at h2; cases h2

theorem headT_first {n i : Nat} {oi : Oper} {v : Value} {L : Array Bool → Act → Prop} (hi : ops[i]? = some oi) (hsel : ∀ (j : Nat) (o : Oper) cs b, ops[j]? = some o → o.op ≠ .select cs b)
    (htw : TW md ops n) (hin : i < n) (hdone : ∀ listed a, L listed a → ∀ j ∈ Region.ready md ops listed, n ≤ j) (f : Nat) :
    ∀ (listed : Array Bool) (a : Act), HeadInv md ops n listed →
      (∀ j oj, ops[j]? = some oj → j ≠ i → listed.getD j true = false → (∀ e ∈ oj.after, Region.binds md e = true → e.on ≠ i) → oi.apart ops oj = true) →
      i ∈ Region.ready md ops listed → YieldsIn P ops C oi v a → headQ P md ops C n L f (listed.setIfInBounds i true) (a.put oi.dst v) → headQ P md ops C n L (f + 1) listed a := by
  induction f with
  | zero =>
    intro listed a inv _ hr hy H
    have hun := (mem_ready.1 hr).1
    refine ⟨fun h => (by rw [h] at hr; cases hr), fun j hj => ?_⟩
    have hjn : j < n := Nat.lt_of_not_le fun h => htw _ inv i hin hun j h hj
    refine ⟨hjn, ?_⟩
    by_cases hji : j = i
    · subst hji; exact hy.qOp hi H
    · exact absurd (hdone _ _ H j (ready_mono hj hji)) (by omega)
  | succ f ih =>
    intro listed a inv hfree hr hy H
    have hun := (mem_ready.1 hr).1
    refine ⟨fun h => (by rw [h] at hr; cases hr), fun j hj => ?_⟩
    have hjn : j < n := Nat.lt_of_not_le fun h => htw _ inv i hin hun j h hj
    refine ⟨hjn, ?_⟩
    by_cases hji : j = i
    · subst hji; exact hy.qOp hi H
    obtain ⟨hjun, oj, hoj, hall⟩ := mem_ready.1 hj
    have hnot : ∀ e ∈ oj.after, Region.binds md e = true → e.on ≠ i := by
      intro e he hb heq
      have h1 := hall e he hb
      rw [heq, getD_both hun] at h1
      cases h1
    have h2 := qOp_put hoj (hfree j oj hoj hji hjun hnot) (fun cs b => hsel i oi cs b hi) (fun cs b => hsel j oj cs b hoj) hy (H.2 j (ready_mono hj hji)).2
    refine qOp_mono (fun a' h3 => ih (listed.setIfInBounds j true) a' (inv.set hj hjn) ?_ (ready_mono hr (Ne.symm hji)) h3.1 ?_) h2
    · intro k ok hk hki hun' hno
      refine hfree k ok hk hki ?_ hno
      by_cases hjk : j = k
      · subst hjk; exact hjun
      · rw [getD_set_ne true hjk] at hun'; exact hun'
    · rw [Array.setIfInBounds_comm _ _ hji]; exact h3.2
/-- the head in the order of the text; behind it what is there comes of n on, and a check of its own -/
def lexT (md : Region.Mode) (ops : Array Oper) (n : Nat) (chk : Array Bool → Bool) : Nat → Nat → Array Bool → Bool
  | 0, _, listed => (Region.ready md ops listed).all (fun j => decide (n ≤ j)) && chk listed
  | f + 1, k, listed => (Region.ready md ops listed).contains k && Region.free md ops listed k && lexT md ops n chk f (k + 1) (listed.setIfInBounds k true)
theorem headT_lex {n : Nat} {chk : Array Bool → Bool} {Lq : Act → Prop} (hsel : Region.noSelect ops = true) (htw : TW md ops n) (l : List Oper) :
    ∀ (k : Nat) (listed : Array Bool) (a : Act), (∀ j, j < l.length → l[j]? = ops[k + j]?) → k + l.length = n → HeadInv md ops n listed →
    lexT md ops n chk l.length k listed = true → wpQuiet P ops C Lq l a → headQ P md ops C n (fun listed' a' => ((Region.ready md ops listed').all (fun j => decide (n ≤ j)) && chk listed') = true ∧ Lq a') l.length listed a := by
  induction l with
  | nil =>
    intro k listed a _ hk _ hB h
    exact ⟨by simpa [lexT] using hB, h⟩
  | cons o l ih =>
    intro k listed a hl hk inv hB h
    have h0 : ops[k]? = some o := by simpa using (hl 0 (by simp)).symm
    simp only [List.length_cons, lexT, Bool.and_eq_true] at hB
    obtain ⟨⟨hr, hf⟩, hB'⟩ := hB
    simp only [List.length_cons] at hk
    have hr' : k ∈ Region.ready md ops listed := by simpa using hr
    have hq : qOp P ops C k (wpQuiet P ops C Lq l) a := by unfold qOp; simp only [h0]; exact h
    obtain ⟨v, hy, hK⟩ := yieldsIn_of_qOp h0 hq
    refine headT_first h0 (Region.noSelect_spec hsel) htw (by omega) (fun listed' a' hL j hj => ?_) l.length listed a inv (Region.free_spec h0 hf) hr' hy ?_
    · have := hL.1
      simp only [Bool.and_eq_true, List.all_eq_true, decide_eq_true_eq] at this
      exact this.1 j hj
    refine ih (k + 1) _ _ (fun j hj => ?_) (by omega) (inv.set hr' (by omega)) hB' hK
    have := hl (j + 1) (by simp; omega)
    simpa [Nat.add_assoc, Nat.add_comm 1 j] using this

/-- the region: a head of h + 1 in class C; then pu, which only computes; then tl, one by one -/
theorem wp_region_mixed {id : Nat} {Q : Exit → Act → World → Prop} {a : Act} {w : World} {l : List Oper} (C : World → Prop) (h : Nat) (pu tl : List Nat) (hm : P.follows .mixedOrders = true)
    (hB : (Region.noSelect l.toArray && decide (h + 1 ≤ l.length) && decide (pu.length + tl.length = l.length - (h + 1)) && Region.sinkB .any l.toArray h && restB .any l.toArray h && lexT .any l.toArray (h + 1) (pureB .any l.toArray tl pu) (h + 1) 0 (Array.replicate l.length false)) = true)
    (hQ : ∀ c (a : Act) d v w, Q (.panic c) (a.put d v) w → Q (.panic c) a w) (hC : C w.drew)
    (hw : wpQuiet P l.toArray C (fun a' => ∀ w', C w' → wpPure P l.toArray (fun a'' => wpList P l.toArray Q (pick l tl) a'' w') (pick l pu) a') (l.take (h + 1)) a) : (Code.region id l.toArray true).wp P Q a w := by
  simp only [Bool.and_eq_true, decide_eq_true_eq] at hB
  obtain ⟨⟨⟨⟨⟨h1, h2⟩, h3⟩, h4⟩, h5⟩, h6⟩ := hB
  have htl : (l.take (h + 1)).length = h + 1 := by simp; omega
  have inv0 : HeadInv .any l.toArray (h + 1) (Array.replicate l.toArray.size false) :=
    ⟨by simp, fun j oj _ hl => (by rw [getD_replicate_false] at hl; cases hl), fun t _ ht => getD_in (by simpa using ht) (getD_replicate_false _ _)⟩
  have H := headT_lex (md := .any) (chk := pureB .any l.toArray tl pu) h1 (tw_of h4 h5) (l.take (h + 1)) 0 _ a (fun j hj => by
    have hj' : j < h + 1 := by rw [htl] at hj; exact hj
    simp [hj']) (by simpa using htl) inv0 (by rw [htl]; simpa using h6) hw
  refine wp_region_any hm ?_
  have := any_of_headQ (Q' := Q) (g := pu.length + tl.length) (fun listed a' w' hw' hL => by
    have hc := hL.1
    simp only [Bool.and_eq_true] at hc
    exact wpAny_of_pure (P := P) (md := .any) (w := w') h1 hQ pu listed a' hc.2 (hL.2 w' hw')) _ _ _ _ hC H
  rw [htl, show h + 1 + (pu.length + tl.length) = l.toArray.size by simp; omega] at this
  exact this
end
end Go.Proofs.Ytfmehahjjgalfaa
