/- Tries in memory: nodes by what prefixes they stand for. -/
import Derived.Test.YtfmehahjjgalfaaMem
namespace Go.Proofs.Ytfmehahjjgalfaa
open Go.RowKit

/-- the first n bits of an address -/
def pcut (a n : Nat) : Nat := a / 2 ^ (32 - n) * 2 ^ (32 - n)
theorem cut_le (a n : Nat) : pcut a n ≤ a := Nat.div_mul_le_self _ _
theorem cut_32 (a : Nat) : pcut a 32 = a := by simp [pcut]
theorem cut_0 {a : Nat} (h : a < 4294967296) : pcut a 0 = 0 := by simp [pcut]; omega
theorem pow_pos2 (k : Nat) : 0 < 2 ^ k := Nat.pow_pos (by decide)
theorem cut_cut (a : Nat) {m n : Nat} (h : m ≤ n) : pcut (pcut a n) m = pcut a m := by
  unfold pcut
  obtain ⟨j, hj⟩ : ∃ j, 32 - m = (32 - n) + j := ⟨(32 - m) - (32 - n), by omega⟩
  have hp := pow_pos2 (32 - n)
  rw [hj, Nat.pow_add, ← Nat.div_div_eq_div_mul, ← Nat.div_div_eq_div_mul, Nat.mul_div_cancel _ hp]
theorem pcut_succ (a : Nat) {n : Nat} (h : n ≤ 31) : pcut a (n + 1) = pcut a n + (if a.testBit (31 - n) then 2 ^ (31 - n) else 0) := by
  unfold pcut
  rw [show 32 - (n + 1) = 31 - n by omega, show 32 - n = (31 - n) + 1 by omega, Nat.testBit_eq_decide_div_mod_eq, Nat.pow_succ, ← Nat.div_div_eq_div_mul]
  generalize 2 ^ (31 - n) = p
  generalize a / p = q
  have h2 : q = 2 * (q / 2) + q % 2 := by omega
  rcases Nat.mod_two_eq_zero_or_one q with h0 | h1
  · rw [h0] at h2
    simp only [h0]
    have e : q / 2 * (p * 2) = q * p := by rw [Nat.mul_comm p 2, ← Nat.mul_assoc]; congr 1; omega
    simp [e]
  · simp only [h1]
    have e : q / 2 * (p * 2) + p = q * p := by
      rw [Nat.mul_comm p 2, ← Nat.mul_assoc]
      have : q = q / 2 * 2 + 1 := by omega
      conv => rhs; rw [this, Nat.succ_mul]
    simp [e]
/-- may (a, n) be a prefix -/
structure Key (a n : Nat) : Prop where
  le : n ≤ 32
  is : pcut a n = a
  lt : a < 4294967296
theorem key_cut {a n : Nat} (ha : a < 4294967296) (hn : n ≤ 32) : Key (pcut a n) n := ⟨hn, cut_cut a (Nat.le_refl _), Nat.lt_of_le_of_lt (cut_le a n) ha⟩
/-- the branch of a bit -/
def kid (a n : Nat) (c : Bool) : Nat := if c then a + 2 ^ (31 - n) else a
theorem cut_kid (a : Nat) {n : Nat} (h : n ≤ 31) : pcut a (n + 1) = kid (pcut a n) n (a.testBit (31 - n)) := by
  rw [pcut_succ a h]; unfold kid; split <;> simp
theorem kid_ne (a n : Nat) {c c' : Bool} (h : kid a n c = kid a n c') : c = c' := by
  have := pow_pos2 (31 - n)
  cases c <;> cases c' <;> simp [kid] at h ⊢ <;> omega
theorem Key.div {a n : Nat} (h : Key a n) : ∃ q, a = q * 2 ^ (32 - n) ∧ q < 2 ^ n := by
  refine ⟨a / 2 ^ (32 - n), h.is.symm, ?_⟩
  refine Nat.div_lt_of_lt_mul ?_
  rw [← Nat.pow_add, show 32 - n + n = 32 by have := h.le; omega]
  exact h.lt
theorem Key.of_div {a n q : Nat} (hn : n ≤ 32) (h : a = q * 2 ^ (32 - n)) (hq : q < 2 ^ n) : Key a n := by
  subst h
  refine ⟨hn, ?_, ?_⟩
  · unfold pcut; rw [Nat.mul_div_cancel _ (pow_pos2 _)]
  · have h1 : q * 2 ^ (32 - n) < 2 ^ n * 2 ^ (32 - n) := Nat.mul_lt_mul_of_pos_right hq (pow_pos2 _)
    rwa [← Nat.pow_add, show n + (32 - n) = 32 by omega] at h1
theorem mul_two_out (q p : Nat) : q * (p * 2) = 2 * q * p := by rw [Nat.mul_comm p 2, ← Nat.mul_assoc, Nat.mul_comm q 2]
theorem Key.kid {a n : Nat} (h : Key a n) (hn : n ≤ 31) (c : Bool) : Key (kid a n c) (n + 1) := by
  obtain ⟨q, e, hq⟩ := h.div
  have e1 : 32 - n = (31 - n) + 1 := by omega
  rw [e1, Nat.pow_succ] at e
  cases c with
  | false => exact Key.of_div (q := 2 * q) (by omega) (by rw [show 32 - (n + 1) = 31 - n by omega, e, mul_two_out]; rfl) (by rw [Nat.pow_succ]; omega)
  | true => exact Key.of_div (q := 2 * q + 1) (by omega) (by rw [show 32 - (n + 1) = 31 - n by omega, Nat.succ_mul, ← mul_two_out, ← e]; rfl) (by rw [Nat.pow_succ]; omega)
theorem kid_cut {a n : Nat} (h : Key a n) (hn : n ≤ 31) (c : Bool) : pcut (kid a n c) n = a := by
  obtain ⟨q, e, hq⟩ := h.div
  cases c with
  | false => exact h.is
  | true =>
    have hp := pow_pos2 (31 - n)
    have e1 : 32 - n = (31 - n) + 1 := by omega
    unfold pcut Ytfmehahjjgalfaa.kid
    rw [e1] at e ⊢
    rw [Nat.pow_succ] at e ⊢
    generalize 2 ^ (31 - n) = p at *
    subst e
    simp only [if_true]
    have : (q * (p * 2) + p) / (p * 2) = q := by
      rw [Nat.mul_comm q, Nat.mul_add_div (by omega), Nat.div_eq_of_lt (by omega)]; rfl
    rw [this]

def ptr (o : Option Nat) : Value := .pointer (o.map fun k => ⟨k, 0, none⟩)

section
variable {α : Type}
/-- the cells of a node -/
def nodeCells (enc : α → Value) (z : α) (l r : Option Nat) (x : Option α) : Array Value := #[ptr l, ptr r, enc (x.getD z), .bool x.isSome]
/-- a trie: its nodes N, its count n, its things M -/
structure TrieAt (TN TT : TypeId) (enc : α → Value) (z : α) (w : World) (b : Nat) (N : Nat → Nat → Option Nat) (n : Nat) (M : Nat → Nat → Option α) : Prop where
  root : ∃ r, N 0 0 = some r ∧ w.heap[b]? = some (.cells #[ptr (some r), .int .i64 n] TT (0, 0))
  key : ∀ a d k, N a d = some k → Key a d
  up : ∀ a d, (N a (d + 1)).isSome → (N (pcut a d) d).isSome
  node : ∀ a d k, N a d = some k → w.heap[k]? = some (.cells (nodeCells enc z (N (kid a d false) (d + 1)) (N (kid a d true) (d + 1)) (M a d)) TN (0, 0))
  inj : ∀ a d a' d' k, N a d = some k → N a' d' = some k → a = a' ∧ d = d'
  nb : ∀ a d, N a d ≠ some b
  thing : ∀ a d, (M a d).isSome → (N a d).isSome
/-- its blocks -/
def foot (b : Nat) (N : Nat → Nat → Option Nat) (k : Nat) : Prop := k = b ∨ ∃ a d, N a d = some k
def upd {β : Type} (f : Nat → Nat → Option β) (a d : Nat) (v : Option β) : Nat → Nat → Option β := fun a' d' => if a' = a ∧ d' = d then v else f a' d'
theorem upd_same {β : Type} (f : Nat → Nat → Option β) (a d : Nat) (v : Option β) : upd f a d v a d = v := by simp [upd]
theorem upd_other {β : Type} (f : Nat → Nat → Option β) {a d a' d' : Nat} (v : Option β) (h : ¬ (a' = a ∧ d' = d)) : upd f a d v a' d' = f a' d' := by simp only [upd, if_neg h]

variable {TN TT : TypeId} {enc : α → Value} {z : α} {w w' : World} {b n : Nat} {N : Nat → Nat → Option Nat} {M : Nat → Nat → Option α}
namespace TrieAt
theorem keep (h : TrieAt TN TT enc z w b N n M) (e : ∀ k, foot b N k → w'.heap[k]? = w.heap[k]?) : TrieAt TN TT enc z w' b N n M :=
  ⟨by obtain ⟨r, h1, h2⟩ := h.root; exact ⟨r, h1, (e b (.inl rfl)).trans h2⟩, h.key, h.up, fun a d k hk => (e k (.inr ⟨a, d, hk⟩)).trans (h.node a d k hk), h.inj, h.nb, h.thing⟩
theorem lt (h : TrieAt TN TT enc z w b N n M) {k : Nat} (hk : foot b N k) : k < w.heap.size := by
  rcases hk with rfl | ⟨a, d, hk⟩
  · obtain ⟨r, h1, h2⟩ := h.root; exact lt_of_blk h2
  · exact lt_of_blk (h.node a d k hk)
theorem below (h : TrieAt TN TT enc z w b N n M) (hb : Below w.heap.size w w') : TrieAt TN TT enc z w' b N n M := h.keep fun k hk => hb.block k (h.lt hk)
theorem blk (h : TrieAt TN TT enc z w b N n M) {r : Nat} (hr : N 0 0 = some r) : w.heap[b]? = some (.cells #[ptr (some r), .int .i64 n] TT (0, 0)) := by
  obtain ⟨r', h1, h2⟩ := h.root; rw [h1] at hr; cases hr; exact h2
theorem none33 (h : TrieAt TN TT enc z w b N n M) (a : Nat) {d : Nat} (hd : 32 < d) : N a d = none := by
  cases e : N a d with
  | none => rfl
  | some k => have := (h.key _ _ _ e).le; omega
theorem none_down (h : TrieAt TN TT enc z w b N n M) {a d : Nat} (hn : N (pcut a d) d = none) : ∀ j, d + j ≤ 32 → N (pcut a (d + j)) (d + j) = none := by
  intro j
  induction j with
  | zero => intro _; exact hn
  | succ j ih =>
    intro hj
    have h1 := ih (by omega)
    cases e : N (pcut a (d + (j + 1))) (d + (j + 1)) with
    | none => rfl
    | some k =>
      have h2 := h.up (pcut a (d + (j + 1))) (d + j) (by rw [← Nat.add_assoc] at e; rw [← Nat.add_assoc, e]; rfl)
      rw [cut_cut a (by omega), h1] at h2
      cases h2
theorem thing_none (h : TrieAt TN TT enc z w b N n M) {a d : Nat} (hn : N a d = none) : M a d = none := by
  cases e : M a d with
  | none => rfl
  | some x => have := h.thing a d (by rw [e]; rfl); rw [hn] at this; cases this
theorem setNode (h : TrieAt TN TT enc z w b N n M) {a d k : Nat} (hk : N a d = some k) (v : Option α)
    (hs : SetB w w' k (.cells (nodeCells enc z (N (kid a d false) (d + 1)) (N (kid a d true) (d + 1)) v) TN (0, 0))) : TrieAt TN TT enc z w' b N n (upd M a d v) := by
  have hkb : k ≠ b := fun e => h.nb a d (e ▸ hk)
  refine ⟨?_, h.key, h.up, fun a' d' k' hk' => ?_, h.inj, h.nb, fun a' d' hm => ?_⟩
  · obtain ⟨r, h1, h2⟩ := h.root; exact ⟨r, h1, (hs.other (Ne.symm hkb)).trans h2⟩
  · by_cases e : a' = a ∧ d' = d
    · obtain ⟨rfl, rfl⟩ := e
      rw [hk] at hk'; cases hk'
      rw [upd_same]
      exact hs.at (h.lt (.inr ⟨_, _, hk⟩))
    · rw [upd_other _ _ e]
      have hne : k' ≠ k := fun e' => e (by subst e'; exact h.inj _ _ _ _ _ hk' hk)
      rw [hs.other hne]; exact h.node a' d' k' hk'
  · by_cases e : a' = a ∧ d' = d
    · obtain ⟨rfl, rfl⟩ := e; rw [hk]; rfl
    · rw [upd_other _ _ e] at hm; exact h.thing a' d' hm
theorem setCount (h : TrieAt TN TT enc z w b N n M) {r n' : Nat} (hr : N 0 0 = some r) (hs : SetB w w' b (.cells #[ptr (some r), .int .i64 n'] TT (0, 0))) : TrieAt TN TT enc z w' b N n' M :=
  ⟨⟨r, hr, hs.at (h.lt (.inl rfl))⟩, h.key, h.up, fun a d k hk => (hs.other (fun e => h.nb a d (e ▸ hk))).trans (h.node a d k hk), h.inj, h.nb, h.thing⟩
/-- a new node on a branch -/
theorem grow (h : TrieAt TN TT enc z w b N n M) {a d k : Nat} (hk : N a d = some k) (hd : d ≤ 31) (c : Bool) (hc : N (kid a d c) (d + 1) = none) {o : Obj} (ho : o = .cells (nodeCells enc z none none (none : Option α)) TN (0, 0))
    (hs : SetB (w.alloc o) w' k (.cells (nodeCells enc z (if c then N (kid a d false) (d + 1) else some w.heap.size) (if c then some w.heap.size else N (kid a d true) (d + 1)) (M a d)) TN (0, 0))) :
    TrieAt TN TT enc z w' b (upd N (kid a d c) (d + 1) (some w.heap.size)) n M := by
  subst ho
  have hkb : k ≠ b := fun e => h.nb a d (e ▸ hk)
  have hkk := h.key _ _ _ hk
  have hkl := h.lt (.inr ⟨_, _, hk⟩)
  have hnew : ∀ a' d', N a' d' ≠ some w.heap.size := fun a' d' e => by have := h.lt (.inr ⟨_, _, e⟩); omega
  have hold : ∀ j, j < w.heap.size → j ≠ k → w'.heap[j]? = w.heap[j]? := fun j hj hjk => (hs.other hjk).trans (Below.heap_alloc w _ j hj)
  have hup := h.up
  refine ⟨?_, fun a' d' k' hk' => ?_, fun a' d' hm => ?_, fun a' d' k' hk' => ?_, fun a1 d1 a2 d2 k' h1 h2 => ?_, fun a' d' e => ?_, fun a' d' hm => ?_⟩
  · obtain ⟨r, h1, h2⟩ := h.root
    exact ⟨r, by rw [upd_other _ _ (by omega)]; exact h1, (hold b (lt_of_blk h2) (Ne.symm hkb)).trans h2⟩
  · by_cases e : a' = kid a d c ∧ d' = d + 1
    · obtain ⟨rfl, rfl⟩ := e; exact hkk.kid hd c
    · rw [upd_other _ _ e] at hk'; exact h.key _ _ _ hk'
  · have hu : (N (pcut a' d') d').isSome := by
      by_cases e : a' = kid a d c ∧ d' + 1 = d + 1
      · obtain ⟨rfl, e2⟩ := e
        obtain rfl : d' = d := by omega
        rw [kid_cut hkk hd, hk]; rfl
      · rw [upd_other _ _ e] at hm; exact h.up _ _ hm
    by_cases e : pcut a' d' = kid a d c ∧ d' = d + 1
    · obtain ⟨e1, rfl⟩ := e
      rw [e1, upd_same]; rfl
    · rw [upd_other _ _ e]; exact hu
  · by_cases e : a' = kid a d c ∧ d' = d + 1
    · obtain ⟨rfl, rfl⟩ := e
      rw [upd_same] at hk'; cases hk'
      have h0 : ∀ c', N (kid (kid a d c) (d + 1) c') (d + 1 + 1) = none := fun c' => by
        cases e : N (kid (kid a d c) (d + 1) c') (d + 1 + 1) with
        | none => rfl
        | some j =>
          have hd2 : d + 1 ≤ 31 := by have := (h.key _ _ _ e).le; omega
          have := h.up _ _ (by rw [e]; rfl)
          rw [kid_cut (hkk.kid hd c) hd2, hc] at this; cases this
      rw [upd_other _ _ (by omega), upd_other _ _ (by omega), h0, h0, h.thing_none hc]
      rw [hs.other (by omega)]
      exact hnewAt rfl
    · rw [upd_other _ _ e] at hk'
      by_cases e2 : a' = a ∧ d' = d
      · obtain ⟨rfl, rfl⟩ := e2
        rw [hk] at hk'; cases hk'
        rw [hs.at (by simp; omega)]
        cases c with
        | true =>
          rw [upd_same, upd_other _ _ (fun e => by have := kid_ne _ _ e.1; cases this)]
          simp
        | false =>
          rw [upd_same, upd_other _ _ (fun e => by have := kid_ne _ _ e.1; cases this)]
          simp
      · have hne : k' ≠ k := fun e' => e2 (by subst e'; exact h.inj _ _ _ _ _ hk' hk)
        rw [hold k' (h.lt (.inr ⟨_, _, hk'⟩)) hne, h.node a' d' k' hk']
        have hq : ∀ c', upd N (kid a d c) (d + 1) (some w.heap.size) (kid a' d' c') (d' + 1) = N (kid a' d' c') (d' + 1) := fun c' => upd_other _ _ (fun e3 => by
          obtain ⟨e4, e5⟩ := e3
          obtain rfl : d' = d := by omega
          have h1 := kid_cut (h.key _ _ _ hk') hd c'
          rw [e4, kid_cut hkk hd] at h1
          exact e2 ⟨h1.symm, rfl⟩)
        rw [hq, hq]
  · by_cases e1 : a1 = kid a d c ∧ d1 = d + 1
    · obtain ⟨rfl, rfl⟩ := e1
      rw [upd_same] at h1; cases h1
      by_cases e2 : a2 = kid a d c ∧ d2 = d + 1
      · exact ⟨e2.1.symm, e2.2.symm⟩
      · rw [upd_other _ _ e2] at h2; exact absurd h2 (hnew _ _)
    · rw [upd_other _ _ e1] at h1
      by_cases e2 : a2 = kid a d c ∧ d2 = d + 1
      · obtain ⟨rfl, rfl⟩ := e2
        rw [upd_same] at h2; cases h2
        exact absurd h1 (hnew _ _)
      · rw [upd_other _ _ e2] at h2; exact h.inj _ _ _ _ _ h1 h2
  · by_cases e1 : a' = kid a d c ∧ d' = d + 1
    · obtain ⟨rfl, rfl⟩ := e1
      rw [upd_same] at e
      have := h.lt (.inl rfl)
      injection e with e; omega
    · rw [upd_other _ _ e1] at e; exact h.nb _ _ e
  · by_cases e : a' = kid a d c ∧ d' = d + 1
    · obtain ⟨rfl, rfl⟩ := e; rw [upd_same]; rfl
    · rw [upd_other _ _ e]; exact h.thing _ _ hm
/-- a node with nothing is taken off its branch -/
theorem drop (h : TrieAt TN TT enc z w b N n M) {a d k j : Nat} (hk : N a d = some k) (c : Bool) (hj : N (kid a d c) (d + 1) = some j) (hl : ∀ c', N (kid (kid a d c) (d + 1) c') (d + 1 + 1) = none) (hm0 : M (kid a d c) (d + 1) = none)
    (hs : SetB w w' k (.cells (nodeCells enc z (if c then N (kid a d false) (d + 1) else none) (if c then none else N (kid a d true) (d + 1)) (M a d)) TN (0, 0))) :
    TrieAt TN TT enc z w' b (upd N (kid a d c) (d + 1) none) n M := by
  have hkb : k ≠ b := fun e => h.nb a d (e ▸ hk)
  have hkk := h.key _ _ _ hk
  have hd : d ≤ 31 := by have := (h.key _ _ _ hj).le; omega
  have hck := hkk.kid hd c
  refine ⟨?_, fun a' d' k' hk' => ?_, fun a' d' hm => ?_, fun a' d' k' hk' => ?_, fun a1 d1 a2 d2 k' h1 h2 => ?_, fun a' d' e => ?_, fun a' d' hm => ?_⟩
  · obtain ⟨r, h1, h2⟩ := h.root
    exact ⟨r, by rw [upd_other _ _ (by omega)]; exact h1, (hs.other (Ne.symm hkb)).trans h2⟩
  · by_cases e : a' = kid a d c ∧ d' = d + 1
    · obtain ⟨rfl, rfl⟩ := e; rw [upd_same] at hk'; cases hk'
    · rw [upd_other _ _ e] at hk'; exact h.key _ _ _ hk'
  · by_cases e1 : a' = kid a d c ∧ d' + 1 = d + 1
    · rw [e1.1, e1.2, upd_same] at hm; cases hm
    · rw [upd_other _ _ e1] at hm
      by_cases e : pcut a' d' = kid a d c ∧ d' = d + 1
      · obtain ⟨e3, rfl⟩ := e
        exfalso
        have hka : Key a' (d + 1 + 1) := by
          cases e4 : N a' (d + 1 + 1) with
          | none => rw [e4] at hm; cases hm
          | some q => exact h.key _ _ _ e4
        have hd2 : d + 1 ≤ 31 := by have := hka.le; omega
        have h4 := cut_kid a' hd2
        rw [hka.is, e3] at h4
        rw [h4, hl] at hm; cases hm
      · rw [upd_other _ _ e]; exact h.up _ _ hm
  · by_cases e : a' = kid a d c ∧ d' = d + 1
    · obtain ⟨rfl, rfl⟩ := e
      rw [upd_same] at hk'; cases hk'
    · rw [upd_other _ _ e] at hk'
      by_cases e2 : a' = a ∧ d' = d
      · obtain ⟨rfl, rfl⟩ := e2
        rw [hk] at hk'; cases hk'
        rw [hs.at (h.lt (.inr ⟨_, _, hk⟩))]
        cases c with
        | true =>
          rw [upd_same, upd_other _ _ (fun e => by have := kid_ne _ _ e.1; cases this)]
          simp
        | false =>
          rw [upd_same, upd_other _ _ (fun e => by have := kid_ne _ _ e.1; cases this)]
          simp
      · have hne : k' ≠ k := fun e' => e2 (by subst e'; exact h.inj _ _ _ _ _ hk' hk)
        rw [hs.other hne, h.node a' d' k' hk']
        have hq : ∀ c', upd N (kid a d c) (d + 1) none (kid a' d' c') (d' + 1) = N (kid a' d' c') (d' + 1) := fun c' => upd_other _ _ (fun e3 => by
          obtain ⟨e4, e5⟩ := e3
          obtain rfl : d' = d := by omega
          have h1 := kid_cut (h.key _ _ _ hk') hd c'
          rw [e4, kid_cut hkk hd] at h1
          exact e2 ⟨h1.symm, rfl⟩)
        rw [hq, hq]
  · by_cases e1 : a1 = kid a d c ∧ d1 = d + 1
    · obtain ⟨rfl, rfl⟩ := e1; rw [upd_same] at h1; cases h1
    · rw [upd_other _ _ e1] at h1
      by_cases e2 : a2 = kid a d c ∧ d2 = d + 1
      · obtain ⟨rfl, rfl⟩ := e2; rw [upd_same] at h2; cases h2
      · rw [upd_other _ _ e2] at h2; exact h.inj _ _ _ _ _ h1 h2
  · by_cases e1 : a' = kid a d c ∧ d' = d + 1
    · obtain ⟨rfl, rfl⟩ := e1; rw [upd_same] at e; cases e
    · rw [upd_other _ _ e1] at e; exact h.nb _ _ e
  · by_cases e : a' = kid a d c ∧ d' = d + 1
    · obtain ⟨rfl, rfl⟩ := e; rw [hm0] at hm; cases hm
    · rw [upd_other _ _ e]; exact h.thing _ _ hm
end TrieAt
/-- what a call on a trie may turn: its blocks; its blocks behind the call are those, or new -/
structure Moved (w w' : World) (F F' : Nat → Prop) : Prop where
  os : w'.os = w.os
  tape : w'.tape = w.tape
  output : w'.output = w.output
  size : w.heap.size ≤ w'.heap.size
  same : ∀ k, k < w.heap.size → ¬ F k → w'.heap[k]? = w.heap[k]?
  foot : ∀ k, F' k → F k ∨ w.heap.size ≤ k
theorem Moved.trans {a b c : World} {F G H : Nat → Prop} (h : Moved a b F G) (k : Moved b c G H) : Moved a c F H :=
  ⟨k.os.trans h.os, k.tape.trans h.tape, k.output.trans h.output, Nat.le_trans h.size k.size, fun i hi hn => (k.same i (Nat.lt_of_lt_of_le hi h.size) (fun hg => by rcases h.foot i hg with h1 | h1; exact hn h1; omega)).trans (h.same i hi hn),
   fun i hi => by rcases k.foot i hi with h1 | h1; exact h.foot i h1; exact .inr (Nat.le_trans h.size h1)⟩
theorem Moved.of_below {w w' : World} (h : Below w.heap.size w w') (F : Nat → Prop) : Moved w w' F F := ⟨h.os, h.tape, h.output, h.size, fun k hk _ => h.block k hk, fun _ h => .inl h⟩
theorem Moved.drew {w w' : World} {F F' : Nat → Prop} (h : Moved w w' F F') : Moved w w'.drew F F' := ⟨h.os, h.tape, h.output, h.size, h.same, h.foot⟩
theorem Moved.below {w w' : World} {F F' : Nat → Prop} (h : Moved w w' F F') {B : Nat} (hB : B ≤ w.heap.size) (hF : ∀ k, F k → B ≤ k) : Below B w w' :=
  ⟨h.os, h.tape, h.output, h.size, fun k hk => h.same k (by omega) (fun e => by have := hF k e; omega)⟩
theorem Moved.of_set {w w' : World} {k : Nat} {o : Obj} (h : SetB w w' k o) {F : Nat → Prop} (hk : F k) : Moved w w' F F := ⟨h.os, h.tape, h.output, by rw [h.size]; exact Nat.le_refl _, fun i _ hn => h.other (fun e => hn (e ▸ hk)), fun _ h => .inl h⟩
end
end Go.Proofs.Ytfmehahjjgalfaa
