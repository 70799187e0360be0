/- Tries in memory: nodes by what prefixes they stand for. -/
import Derived.Test.YtadoflcomienoaaQaa
import Derived.Test.YtadoflcomienoaaRows
import Derived.Laws.BitsLemmas
import Derived.Maps.RangeRun
import Derived.Maps.Keyed
import Derived.Maps.Own
namespace Go.Proofs.Ytadoflcomienoaa
open Go.RowKit

/-- the first n bits of an address -/
def cut (a n : Nat) : Nat := a / 2 ^ (32 - n) * 2 ^ (32 - n)
theorem cut_le (a n : Nat) : cut a n ≤ a := Nat.div_mul_le_self _ _
theorem cut_32 (a : Nat) : cut a 32 = a := by simp [cut]
theorem cut_0 {a : Nat} (h : a < 4294967296) : cut a 0 = 0 := by simp [cut]; omega
theorem pow_pos2 (k : Nat) : 0 < 2 ^ k := Nat.pow_pos (by decide)
theorem cut_cut (a : Nat) {m n : Nat} (h : m ≤ n) : cut (cut a n) m = cut a m := by
  unfold cut
  obtain ⟨j, hj⟩ : ∃ j, 32 - m = (32 - n) + j := ⟨(32 - m) - (32 - n), by omega⟩
  have hp := pow_pos2 (32 - n)
  rw [hj, Nat.pow_add, ← Nat.div_div_eq_div_mul, ← Nat.div_div_eq_div_mul, Nat.mul_div_cancel _ hp]
theorem cut_succ (a : Nat) {n : Nat} (h : n ≤ 31) : cut a (n + 1) = cut a n + (if a.testBit (31 - n) then 2 ^ (31 - n) else 0) := by
  unfold cut
  rw [show 32 - (n + 1) = 31 - n by omega, show 32 - n = (31 - n) + 1 by omega, Nat.testBit_eq_decide_div_mod_eq, Nat.pow_succ, ← Nat.div_div_eq_div_mul]
  generalize 2 ^ (31 - n) = p
  generalize a / p = q
  have h2 : q = 2 * (q / 2) + q % 2 := by omega
  rcases Nat.mod_two_eq_zero_or_one q with h0 | h1
  · rw [h0] at h2
    simp only [h0]
    have e : q / 2 * (p * 2) = q * p := by rw [Nat.mul_comm p 2, ← Nat.mul_assoc]; congr 1; omega
    simp [e]
  · simp only [h1]
    have e : q / 2 * (p * 2) + p = q * p := by
      rw [Nat.mul_comm p 2, ← Nat.mul_assoc]
      have : q = q / 2 * 2 + 1 := by omega
      conv => rhs; rw [this, Nat.succ_mul]
    simp [e]
/-- may (a, n) be a prefix -/
structure Key (a n : Nat) : Prop where
  le : n ≤ 32
  is : cut a n = a
  lt : a < 4294967296
theorem key_cut {a n : Nat} (ha : a < 4294967296) (hn : n ≤ 32) : Key (cut a n) n := ⟨hn, cut_cut a (Nat.le_refl _), Nat.lt_of_le_of_lt (cut_le a n) ha⟩
/-- the branch of a bit -/
def kid (a n : Nat) (c : Bool) : Nat := if c then a + 2 ^ (31 - n) else a
theorem cut_kid (a : Nat) {n : Nat} (h : n ≤ 31) : cut a (n + 1) = kid (cut a n) n (a.testBit (31 - n)) := by
  rw [cut_succ a h]; unfold kid; split <;> simp
theorem kid_ne (a n : Nat) {c c' : Bool} (h : kid a n c = kid a n c') : c = c' := by
  have := pow_pos2 (31 - n)
  cases c <;> cases c' <;> simp [kid] at h ⊢ <;> omega
theorem Key.div {a n : Nat} (h : Key a n) : ∃ q, a = q * 2 ^ (32 - n) ∧ q < 2 ^ n := by
  refine ⟨a / 2 ^ (32 - n), h.is.symm, ?_⟩
  refine Nat.div_lt_of_lt_mul ?_
  rw [← Nat.pow_add, show 32 - n + n = 32 by have := h.le; omega]
  exact h.lt
theorem Key.of_div {a n q : Nat} (hn : n ≤ 32) (h : a = q * 2 ^ (32 - n)) (hq : q < 2 ^ n) : Key a n := by
  subst h
  refine ⟨hn, ?_, ?_⟩
  · unfold cut; rw [Nat.mul_div_cancel _ (pow_pos2 _)]
  · have h1 : q * 2 ^ (32 - n) < 2 ^ n * 2 ^ (32 - n) := Nat.mul_lt_mul_of_pos_right hq (pow_pos2 _)
    rwa [← Nat.pow_add, show n + (32 - n) = 32 by omega] at h1
theorem mul_two_out (q p : Nat) : q * (p * 2) = 2 * q * p := by rw [Nat.mul_comm p 2, ← Nat.mul_assoc, Nat.mul_comm q 2]
theorem Key.kid {a n : Nat} (h : Key a n) (hn : n ≤ 31) (c : Bool) : Key (kid a n c) (n + 1) := by
  obtain ⟨q, e, hq⟩ := h.div
  have e1 : 32 - n = (31 - n) + 1 := by omega
  rw [e1, Nat.pow_succ] at e
  cases c with
  | false => exact Key.of_div (q := 2 * q) (by omega) (by rw [show 32 - (n + 1) = 31 - n by omega, e, mul_two_out]; rfl) (by rw [Nat.pow_succ]; omega)
  | true => exact Key.of_div (q := 2 * q + 1) (by omega) (by rw [show 32 - (n + 1) = 31 - n by omega, Nat.succ_mul, ← mul_two_out, ← e]; rfl) (by rw [Nat.pow_succ]; omega)
theorem kid_cut {a n : Nat} (h : Key a n) (hn : n ≤ 31) (c : Bool) : cut (kid a n c) n = a := by
  obtain ⟨q, e, hq⟩ := h.div
  cases c with
  | false => exact h.is
  | true =>
    have hp := pow_pos2 (31 - n)
    have e1 : 32 - n = (31 - n) + 1 := by omega
    unfold cut Ytadoflcomienoaa.kid
    rw [e1] at e ⊢
    rw [Nat.pow_succ] at e ⊢
    generalize 2 ^ (31 - n) = p at *
    subst e
    simp only [if_true]
    have : (q * (p * 2) + p) / (p * 2) = q := by
      rw [Nat.mul_comm q, Nat.mul_add_div (by omega), Nat.div_eq_of_lt (by omega)]; rfl
    rw [this]

def ptr (o : Option Nat) : Value := .pointer (o.map fun k => ⟨k, 0, none⟩)

section
variable {α : Type}
/-- the cells of a node -/
def nodeCells (enc : α → Value) (z : α) (l r : Option Nat) (x : Option α) : Array Value := #[ptr l, ptr r, enc (x.getD z), .bool x.isSome]
/-- a trie: its nodes N, its count n, its things M -/
structure TrieAt (TN TT : TypeId) (enc : α → Value) (z : α) (w : World) (b : Nat) (N : Nat → Nat → Option Nat) (n : Nat) (M : Nat → Nat → Option α) : Prop where
  root : ∃ r, N 0 0 = some r ∧ w.heap[b]? = some (.cells #[ptr (some r), .int .i64 n] TT (0, 0))
  key : ∀ a d k, N a d = some k → Key a d
  up : ∀ a d, (N a (d + 1)).isSome → (N (cut a d) d).isSome
  node : ∀ a d k, N a d = some k → w.heap[k]? = some (.cells (nodeCells enc z (N (kid a d false) (d + 1)) (N (kid a d true) (d + 1)) (M a d)) TN (0, 0))
  inj : ∀ a d a' d' k, N a d = some k → N a' d' = some k → a = a' ∧ d = d'
  nb : ∀ a d, N a d ≠ some b
  thing : ∀ a d, (M a d).isSome → (N a d).isSome
/-- its blocks -/
def foot (b : Nat) (N : Nat → Nat → Option Nat) (k : Nat) : Prop := k = b ∨ ∃ a d, N a d = some k
def upd {β : Type} (f : Nat → Nat → Option β) (a d : Nat) (v : Option β) : Nat → Nat → Option β := fun a' d' => if a' = a ∧ d' = d then v else f a' d'
theorem upd_same {β : Type} (f : Nat → Nat → Option β) (a d : Nat) (v : Option β) : upd f a d v a d = v := by simp [upd]
theorem upd_other {β : Type} (f : Nat → Nat → Option β) {a d a' d' : Nat} (v : Option β) (h : ¬ (a' = a ∧ d' = d)) : upd f a d v a' d' = f a' d' := by simp only [upd, if_neg h]

variable {TN TT : TypeId} {enc : α → Value} {z : α} {w w' : World} {b n : Nat} {N : Nat → Nat → Option Nat} {M : Nat → Nat → Option α}
namespace TrieAt
theorem keep (h : TrieAt TN TT enc z w b N n M) (e : ∀ k, foot b N k → w'.heap[k]? = w.heap[k]?) : TrieAt TN TT enc z w' b N n M :=
  ⟨by obtain ⟨r, h1, h2⟩ := h.root; exact ⟨r, h1, (e b (.inl rfl)).trans h2⟩, h.key, h.up, fun a d k hk => (e k (.inr ⟨a, d, hk⟩)).trans (h.node a d k hk), h.inj, h.nb, h.thing⟩
theorem lt (h : TrieAt TN TT enc z w b N n M) {k : Nat} (hk : foot b N k) : k < w.heap.size := by
  rcases hk with rfl | ⟨a, d, hk⟩
  · obtain ⟨r, h1, h2⟩ := h.root; exact lt_of_blk h2
  · exact lt_of_blk (h.node a d k hk)
theorem below (h : TrieAt TN TT enc z w b N n M) (hb : Below w.heap.size w w') : TrieAt TN TT enc z w' b N n M := h.keep fun k hk => hb.block k (h.lt hk)
theorem blk (h : TrieAt TN TT enc z w b N n M) {r : Nat} (hr : N 0 0 = some r) : w.heap[b]? = some (.cells #[ptr (some r), .int .i64 n] TT (0, 0)) := by
  obtain ⟨r', h1, h2⟩ := h.root; rw [h1] at hr; cases hr; exact h2
theorem none33 (h : TrieAt TN TT enc z w b N n M) (a : Nat) {d : Nat} (hd : 32 < d) : N a d = none := by
  cases e : N a d with
  | none => rfl
  | some k => have := (h.key _ _ _ e).le; omega
theorem none_down (h : TrieAt TN TT enc z w b N n M) {a d : Nat} (hn : N (cut a d) d = none) : ∀ j, d + j ≤ 32 → N (cut a (d + j)) (d + j) = none := by
  intro j
  induction j with
  | zero => intro _; exact hn
  | succ j ih =>
    intro hj
    have h1 := ih (by omega)
    cases e : N (cut a (d + (j + 1))) (d + (j + 1)) with
    | none => rfl
    | some k =>
      have h2 := h.up (cut a (d + (j + 1))) (d + j) (by rw [← Nat.add_assoc] at e; rw [← Nat.add_assoc, e]; rfl)
      rw [cut_cut a (by omega), h1] at h2
      cases h2
theorem thing_none (h : TrieAt TN TT enc z w b N n M) {a d : Nat} (hn : N a d = none) : M a d = none := by
  cases e : M a d with
  | none => rfl
  | some x => have := h.thing a d (by rw [e]; rfl); rw [hn] at this; cases this
theorem setNode (h : TrieAt TN TT enc z w b N n M) {a d k : Nat} (hk : N a d = some k) (v : Option α)
    (hs : SetB w w' k (.cells (nodeCells enc z (N (kid a d false) (d + 1)) (N (kid a d true) (d + 1)) v) TN (0, 0))) : TrieAt TN TT enc z w' b N n (upd M a d v) := by
  have hkb : k ≠ b := fun e => h.nb a d (e ▸ hk)
  refine ⟨?_, h.key, h.up, fun a' d' k' hk' => ?_, h.inj, h.nb, fun a' d' hm => ?_⟩
  · obtain ⟨r, h1, h2⟩ := h.root; exact ⟨r, h1, (hs.other (Ne.symm hkb)).trans h2⟩
  · by_cases e : a' = a ∧ d' = d
    · obtain ⟨rfl, rfl⟩ := e
      rw [hk] at hk'; cases hk'
      rw [upd_same]
      exact hs.at (h.lt (.inr ⟨_, _, hk⟩))
    · rw [upd_other _ _ e]
      have hne : k' ≠ k := fun e' => e (by subst e'; exact h.inj _ _ _ _ _ hk' hk)
      rw [hs.other hne]; exact h.node a' d' k' hk'
  · by_cases e : a' = a ∧ d' = d
    · obtain ⟨rfl, rfl⟩ := e; rw [hk]; rfl
    · rw [upd_other _ _ e] at hm; exact h.thing a' d' hm
theorem setCount (h : TrieAt TN TT enc z w b N n M) {r n' : Nat} (hr : N 0 0 = some r) (hs : SetB w w' b (.cells #[ptr (some r), .int .i64 n'] TT (0, 0))) : TrieAt TN TT enc z w' b N n' M :=
  ⟨⟨r, hr, hs.at (h.lt (.inl rfl))⟩, h.key, h.up, fun a d k hk => (hs.other (fun e => h.nb a d (e ▸ hk))).trans (h.node a d k hk), h.inj, h.nb, h.thing⟩
/-- a new node on a branch -/
theorem grow (h : TrieAt TN TT enc z w b N n M) {a d k : Nat} (hk : N a d = some k) (hd : d ≤ 31) (c : Bool) (hc : N (kid a d c) (d + 1) = none) {o : Obj} (ho : o = .cells (nodeCells enc z none none (none : Option α)) TN (0, 0))
    (hs : SetB (w.alloc o) w' k (.cells (nodeCells enc z (if c then N (kid a d false) (d + 1) else some w.heap.size) (if c then some w.heap.size else N (kid a d true) (d + 1)) (M a d)) TN (0, 0))) :
    TrieAt TN TT enc z w' b (upd N (kid a d c) (d + 1) (some w.heap.size)) n M := by
  subst ho
  have hkb : k ≠ b := fun e => h.nb a d (e ▸ hk)
  have hkk := h.key _ _ _ hk
  have hkl := h.lt (.inr ⟨_, _, hk⟩)
  have hnew : ∀ a' d', N a' d' ≠ some w.heap.size := fun a' d' e => by have := h.lt (.inr ⟨_, _, e⟩); omega
  have hold : ∀ j, j < w.heap.size → j ≠ k → w'.heap[j]? = w.heap[j]? := fun j hj hjk => (hs.other hjk).trans (Below.heap_alloc w _ j hj)
  have hup := h.up
  refine ⟨?_, fun a' d' k' hk' => ?_, fun a' d' hm => ?_, fun a' d' k' hk' => ?_, fun a1 d1 a2 d2 k' h1 h2 => ?_, fun a' d' e => ?_, fun a' d' hm => ?_⟩
  · obtain ⟨r, h1, h2⟩ := h.root
    exact ⟨r, by rw [upd_other _ _ (by omega)]; exact h1, (hold b (lt_of_blk h2) (Ne.symm hkb)).trans h2⟩
  · by_cases e : a' = kid a d c ∧ d' = d + 1
    · obtain ⟨rfl, rfl⟩ := e; exact hkk.kid hd c
    · rw [upd_other _ _ e] at hk'; exact h.key _ _ _ hk'
  · have hu : (N (cut a' d') d').isSome := by
      by_cases e : a' = kid a d c ∧ d' + 1 = d + 1
      · obtain ⟨rfl, e2⟩ := e
        obtain rfl : d' = d := by omega
        rw [kid_cut hkk hd, hk]; rfl
      · rw [upd_other _ _ e] at hm; exact h.up _ _ hm
    by_cases e : cut a' d' = kid a d c ∧ d' = d + 1
    · obtain ⟨e1, rfl⟩ := e
      rw [e1, upd_same]; rfl
    · rw [upd_other _ _ e]; exact hu
  · by_cases e : a' = kid a d c ∧ d' = d + 1
    · obtain ⟨rfl, rfl⟩ := e
      rw [upd_same] at hk'; cases hk'
      have h0 : ∀ c', N (kid (kid a d c) (d + 1) c') (d + 1 + 1) = none := fun c' => by
        cases e : N (kid (kid a d c) (d + 1) c') (d + 1 + 1) with
        | none => rfl
        | some j =>
          have hd2 : d + 1 ≤ 31 := by have := (h.key _ _ _ e).le; omega
          have := h.up _ _ (by rw [e]; rfl)
          rw [kid_cut (hkk.kid hd c) hd2, hc] at this; cases this
      rw [upd_other _ _ (by omega), upd_other _ _ (by omega), h0, h0, h.thing_none hc]
      rw [hs.other (by omega)]
      exact hnewAt rfl
    · rw [upd_other _ _ e] at hk'
      by_cases e2 : a' = a ∧ d' = d
      · obtain ⟨rfl, rfl⟩ := e2
        rw [hk] at hk'; cases hk'
        rw [hs.at (by simp; omega)]
        cases c with
        | true =>
          rw [upd_same, upd_other _ _ (fun e => by have := kid_ne _ _ e.1; cases this)]
          simp
        | false =>
          rw [upd_same, upd_other _ _ (fun e => by have := kid_ne _ _ e.1; cases this)]
          simp
      · have hne : k' ≠ k := fun e' => e2 (by subst e'; exact h.inj _ _ _ _ _ hk' hk)
        rw [hold k' (h.lt (.inr ⟨_, _, hk'⟩)) hne, h.node a' d' k' hk']
        have hq : ∀ c', upd N (kid a d c) (d + 1) (some w.heap.size) (kid a' d' c') (d' + 1) = N (kid a' d' c') (d' + 1) := fun c' => upd_other _ _ (fun e3 => by
          obtain ⟨e4, e5⟩ := e3
          obtain rfl : d' = d := by omega
          have h1 := kid_cut (h.key _ _ _ hk') hd c'
          rw [e4, kid_cut hkk hd] at h1
          exact e2 ⟨h1.symm, rfl⟩)
        rw [hq, hq]
  · by_cases e1 : a1 = kid a d c ∧ d1 = d + 1
    · obtain ⟨rfl, rfl⟩ := e1
      rw [upd_same] at h1; cases h1
      by_cases e2 : a2 = kid a d c ∧ d2 = d + 1
      · exact ⟨e2.1.symm, e2.2.symm⟩
      · rw [upd_other _ _ e2] at h2; exact absurd h2 (hnew _ _)
    · rw [upd_other _ _ e1] at h1
      by_cases e2 : a2 = kid a d c ∧ d2 = d + 1
      · obtain ⟨rfl, rfl⟩ := e2
        rw [upd_same] at h2; cases h2
        exact absurd h1 (hnew _ _)
      · rw [upd_other _ _ e2] at h2; exact h.inj _ _ _ _ _ h1 h2
  · by_cases e1 : a' = kid a d c ∧ d' = d + 1
    · obtain ⟨rfl, rfl⟩ := e1
      rw [upd_same] at e
      have := h.lt (.inl rfl)
      injection e with e; omega
    · rw [upd_other _ _ e1] at e; exact h.nb _ _ e
  · by_cases e : a' = kid a d c ∧ d' = d + 1
    · obtain ⟨rfl, rfl⟩ := e; rw [upd_same]; rfl
    · rw [upd_other _ _ e]; exact h.thing _ _ hm
/-- a node with nothing is taken off its branch -/
theorem drop (h : TrieAt TN TT enc z w b N n M) {a d k j : Nat} (hk : N a d = some k) (c : Bool) (hj : N (kid a d c) (d + 1) = some j) (hl : ∀ c', N (kid (kid a d c) (d + 1) c') (d + 1 + 1) = none) (hm0 : M (kid a d c) (d + 1) = none)
    (hs : SetB w w' k (.cells (nodeCells enc z (if c then N (kid a d false) (d + 1) else none) (if c then none else N (kid a d true) (d + 1)) (M a d)) TN (0, 0))) :
    TrieAt TN TT enc z w' b (upd N (kid a d c) (d + 1) none) n M := by
  have hkb : k ≠ b := fun e => h.nb a d (e ▸ hk)
  have hkk := h.key _ _ _ hk
  have hd : d ≤ 31 := by have := (h.key _ _ _ hj).le; omega
  have hck := hkk.kid hd c
  refine ⟨?_, fun a' d' k' hk' => ?_, fun a' d' hm => ?_, fun a' d' k' hk' => ?_, fun a1 d1 a2 d2 k' h1 h2 => ?_, fun a' d' e => ?_, fun a' d' hm => ?_⟩
  · obtain ⟨r, h1, h2⟩ := h.root
    exact ⟨r, by rw [upd_other _ _ (by omega)]; exact h1, (hs.other (Ne.symm hkb)).trans h2⟩
  · by_cases e : a' = kid a d c ∧ d' = d + 1
    · obtain ⟨rfl, rfl⟩ := e; rw [upd_same] at hk'; cases hk'
    · rw [upd_other _ _ e] at hk'; exact h.key _ _ _ hk'
  · by_cases e1 : a' = kid a d c ∧ d' + 1 = d + 1
    · rw [e1.1, e1.2, upd_same] at hm; cases hm
    · rw [upd_other _ _ e1] at hm
      by_cases e : cut a' d' = kid a d c ∧ d' = d + 1
      · obtain ⟨e3, rfl⟩ := e
        exfalso
        have hka : Key a' (d + 1 + 1) := by
          cases e4 : N a' (d + 1 + 1) with
          | none => rw [e4] at hm; cases hm
          | some q => exact h.key _ _ _ e4
        have hd2 : d + 1 ≤ 31 := by have := hka.le; omega
        have h4 := cut_kid a' hd2
        rw [hka.is, e3] at h4
        rw [h4, hl] at hm; cases hm
      · rw [upd_other _ _ e]; exact h.up _ _ hm
  · by_cases e : a' = kid a d c ∧ d' = d + 1
    · obtain ⟨rfl, rfl⟩ := e
      rw [upd_same] at hk'; cases hk'
    · rw [upd_other _ _ e] at hk'
      by_cases e2 : a' = a ∧ d' = d
      · obtain ⟨rfl, rfl⟩ := e2
        rw [hk] at hk'; cases hk'
        rw [hs.at (h.lt (.inr ⟨_, _, hk⟩))]
        cases c with
        | true =>
          rw [upd_same, upd_other _ _ (fun e => by have := kid_ne _ _ e.1; cases this)]
          simp
        | false =>
          rw [upd_same, upd_other _ _ (fun e => by have := kid_ne _ _ e.1; cases this)]
          simp
      · have hne : k' ≠ k := fun e' => e2 (by subst e'; exact h.inj _ _ _ _ _ hk' hk)
        rw [hs.other hne, h.node a' d' k' hk']
        have hq : ∀ c', upd N (kid a d c) (d + 1) none (kid a' d' c') (d' + 1) = N (kid a' d' c') (d' + 1) := fun c' => upd_other _ _ (fun e3 => by
          obtain ⟨e4, e5⟩ := e3
          obtain rfl : d' = d := by omega
          have h1 := kid_cut (h.key _ _ _ hk') hd c'
          rw [e4, kid_cut hkk hd] at h1
          exact e2 ⟨h1.symm, rfl⟩)
        rw [hq, hq]
  · by_cases e1 : a1 = kid a d c ∧ d1 = d + 1
    · obtain ⟨rfl, rfl⟩ := e1; rw [upd_same] at h1; cases h1
    · rw [upd_other _ _ e1] at h1
      by_cases e2 : a2 = kid a d c ∧ d2 = d + 1
      · obtain ⟨rfl, rfl⟩ := e2; rw [upd_same] at h2; cases h2
      · rw [upd_other _ _ e2] at h2; exact h.inj _ _ _ _ _ h1 h2
  · by_cases e1 : a' = kid a d c ∧ d' = d + 1
    · obtain ⟨rfl, rfl⟩ := e1; rw [upd_same] at e; cases e
    · rw [upd_other _ _ e1] at e; exact h.nb _ _ e
  · by_cases e : a' = kid a d c ∧ d' = d + 1
    · obtain ⟨rfl, rfl⟩ := e; rw [hm0] at hm; cases hm
    · rw [upd_other _ _ e]; exact h.thing _ _ hm
end TrieAt
/-- what a call on a trie may turn: its blocks; its blocks behind the call are those, or new -/
structure Moved (w w' : World) (F F' : Nat → Prop) : Prop where
  os : w'.os = w.os
  tape : w'.tape = w.tape
  output : w'.output = w.output
  size : w.heap.size ≤ w'.heap.size
  same : ∀ k, k < w.heap.size → ¬ F k → w'.heap[k]? = w.heap[k]?
  foot : ∀ k, F' k → F k ∨ w.heap.size ≤ k
theorem Moved.trans {a b c : World} {F G H : Nat → Prop} (h : Moved a b F G) (k : Moved b c G H) : Moved a c F H :=
  ⟨k.os.trans h.os, k.tape.trans h.tape, k.output.trans h.output, Nat.le_trans h.size k.size, fun i hi hn => (k.same i (Nat.lt_of_lt_of_le hi h.size) (fun hg => by rcases h.foot i hg with h1 | h1; exact hn h1; omega)).trans (h.same i hi hn),
   fun i hi => by rcases k.foot i hi with h1 | h1; exact h.foot i h1; exact .inr (Nat.le_trans h.size h1)⟩
theorem Moved.of_below {w w' : World} (h : Below w.heap.size w w') (F : Nat → Prop) : Moved w w' F F := ⟨h.os, h.tape, h.output, h.size, fun k hk _ => h.block k hk, fun _ h => .inl h⟩
theorem Moved.drew {w w' : World} {F F' : Nat → Prop} (h : Moved w w' F F') : Moved w w'.drew F F' := ⟨h.os, h.tape, h.output, h.size, h.same, h.foot⟩
theorem Moved.below {w w' : World} {F F' : Nat → Prop} (h : Moved w w' F F') {B : Nat} (hB : B ≤ w.heap.size) (hF : ∀ k, F k → B ≤ k) : Below B w w' :=
  ⟨h.os, h.tape, h.output, h.size, fun k hk => h.same k (by omega) (fun e => by have := hF k e; omega)⟩
theorem Moved.of_set {w w' : World} {k : Nat} {o : Obj} (h : SetB w w' k o) {F : Nat → Prop} (hk : F k) : Moved w w' F F := ⟨h.os, h.tape, h.output, by rw [h.size]; exact Nat.le_refl _, fun i _ hn => h.other (fun e => hn (e ▸ hk)), fun _ h => .inl h⟩
end
end Go.Proofs.Ytadoflcomienoaa
/- Mask, Make, Check, Bit. -/
namespace Go.Proofs.Ytadoflcomienoaa
open Go.RowKit

def pfx (a : Nat) (n : Int) : Value := .agg #[.int .u32 a, .int .i64 n]
/-- a number of bits, within bounds -/
def cl (n : Int) : Nat := if n < 0 then 0 else if 32 < n then 32 else n.toNat
theorem cl_le (n : Int) : cl n ≤ 32 := by unfold cl; split; omega; split; omega; omega
def okP (a : Nat) (n : Int) : Bool := decide (0 ≤ n) && decide (n ≤ 32) && decide (cut a n.toNat = a)
theorem okP_iff {a : Nat} {n : Int} : okP a n = true ↔ 0 ≤ n ∧ n ≤ 32 ∧ cut a n.toNat = a := by simp [okP, and_assoc]
theorem u64_mask (n : Nat) (hn : n ≤ 32) : IntKind.u64.wrap (18446744073709551615 * 2 ^ (32 - n)) % 4294967296 = ((2 ^ 32 - 2 ^ (32 - n) : Nat) : Int) := by
  have : ∀ m, m < 33 → IntKind.u64.wrap (18446744073709551615 * 2 ^ m) % 4294967296 = ((2 ^ 32 - 2 ^ m : Nat) : Int) := by decide
  exact this (32 - n) (by omega)
theorem mask_any (n : Nat) (hn : n ≤ 32) (w : World) : Calls Try.prog 68 #[.int .i64 n] w fun e w' => e = .returned (.int .u32 ((2 ^ 32 - 2 ^ (32 - n) : Nat) : Int)) ∧ w' = w := by
  have h1 : ¬ ((n : Int) < 0) := by omega
  have h2 : ¬ ((32 : Int) < n) := by omega
  go_enter Try.func68, Try.ntmps68
  go_wp2_with fail
  go_ret
  exact ⟨ret_int (u64_mask n hn), rfl⟩
theorem and_cut (a n : Nat) (ha : a < 4294967296) (hn : n ≤ 32) : bits .and .u32 (a : Int) ((2 ^ 32 - 2 ^ (32 - n) : Nat) : Int) = ((cut a n : Nat) : Int) := by
  have hp := pow_pos2 (32 - n)
  have hm : 2 ^ (32 - n) ≤ 2 ^ 32 := Nat.pow_le_pow_right (by decide) (by omega)
  rw [(bits_nat .u32 32 (by decide) (fun n h0 h1 => by rw [IntKind.wrap_u32]; omega) a (2 ^ 32 - 2 ^ (32 - n)) ha (by omega)).1]
  congr 1
  apply Nat.eq_of_testBit_eq
  intro i
  have e : 2 ^ 32 - 2 ^ (32 - n) = 2 ^ 32 - ((2 ^ (32 - n) - 1) + 1) := by omega
  rw [Nat.testBit_and, e, Nat.testBit_two_pow_sub_succ (by omega), Nat.testBit_two_pow_sub_one]
  unfold cut
  rw [Nat.testBit_mul_two_pow, Nat.testBit_div_two_pow]
  by_cases h1 : 32 - n ≤ i
  · by_cases h2 : i < 32
    · simp [h1, h2, show ¬ i < 32 - n by omega]
    · have : a.testBit i = false := Nat.testBit_lt_two_pow (Nat.lt_of_lt_of_le ha (by
        have : 2 ^ 32 ≤ 2 ^ i := Nat.pow_le_pow_right (by decide) (by omega)
        omega))
      simp [h2, h1, this]
  · simp [show i < 32 - n by omega]; intro h; omega
theorem mask_ex (n : Nat) (hn : n ≤ 32) (a : Nat) (ha : a < 4294967296) : ∃ m : Int, (∀ w, Calls Try.prog 68 #[.int .i64 n] w fun e w' => e = .returned (.int .u32 m) ∧ w' = w) ∧ bits .and .u32 (a : Int) m = ((cut a n : Nat) : Int) :=
  ⟨_, fun w => mask_any n hn w, and_cut a n ha hn⟩
theorem make_any (a : Nat) (n : Int) (ha : a < 4294967296) (w : World) : Calls Try.prog 50 #[.int .u32 a, .int .i64 n] w fun e w' => e = .returned (pfx (cut a (cl n)) (cl n)) ∧ Below w.heap.size w w' := by
  have hle := cl_le n
  obtain ⟨m, hm, hb⟩ := mask_ex (cl n) hle a ha
  have HM := Lib.hid hm
  have HB := Lib.hid hb
  clear hm hb
  rcases Decidable.em (n < 0) with h | h
  · have e : cl n = 0 := by simp [cl, h]
    rw [e] at HM HB ⊢
    clear hle e
    go_enter Try.func50, Try.ntmps50
    go_wp2_with (go_at_call 68; refine (HM.out _).mono ?_; rintro e w1 ⟨rfl, rfl⟩)
    rw [HB.out]
    refine ret_cell rfl rfl rfl (hnew _ _) Try.underlying33 rfl (by kernel_rfl) ⟨rfl, (Below.refl _ _).alloc (Nat.le_refl _) _⟩
  · rcases Decidable.em (32 < n) with h2 | h2
    · have e : cl n = 32 := by simp [cl, h, h2]
      rw [e] at HM HB ⊢
      clear hle e
      go_enter Try.func50, Try.ntmps50
      go_wp2_with (go_at_call 68; refine (HM.out _).mono ?_; rintro e w1 ⟨rfl, rfl⟩)
      rw [HB.out]
      refine ret_cell rfl rfl rfl (hnew _ _) Try.underlying33 rfl (by kernel_rfl) ⟨rfl, (Below.refl _ _).alloc (Nat.le_refl _) _⟩
    · obtain ⟨k, rfl⟩ := Int.eq_ofNat_of_zero_le (show 0 ≤ n by omega)
      have e : cl k = k := by unfold cl; rw [if_neg h, if_neg h2]; exact Int.toNat_natCast k
      rw [e] at HM HB hle ⊢
      clear e
      have h1 : ¬ ((k : Int) < 0) := by omega
      go_enter Try.func50, Try.ntmps50
      go_wp2_with (go_at_call 68; refine (HM.out _).mono ?_; rintro e w1 ⟨rfl, rfl⟩)
      rw [HB.out]
      refine ret_cell rfl rfl rfl (hnew _ _) Try.underlying33 rfl (by kernel_rfl) ⟨rfl, (Below.refl _ _).alloc (Nat.le_refl _) _⟩
theorem bit_nat (a j : Nat) (ha : a < 4294967296) : bits .and .u32 ((a : Int) / 2 ^ j) 1 = if a.testBit j then 1 else 0 := by
  have h : ((a : Int) / 2 ^ j) = ((a / 2 ^ j : Nat) : Int) := by simp
  have hl : a / 2 ^ j < 2 ^ 32 := Nat.lt_of_le_of_lt (Nat.div_le_self _ _) ha
  rw [h]
  have := (bits_nat .u32 32 (by decide) (fun n h0 h1 => by rw [IntKind.wrap_u32]; omega) (a / 2 ^ j) 1 hl (by decide)).1
  rw [show ((1 : Nat) : Int) = 1 from rfl] at this
  rw [this, Nat.and_one_is_mod, Nat.testBit_eq_decide_div_mod_eq]
  rcases Nat.mod_two_eq_zero_or_one (a / 2 ^ j) with h0 | h0 <;> simp [h0]
theorem okP_cl {a : Nat} {n : Int} : okP a n = true ↔ ((cut a (cl n) : Nat) : Int) = a ∧ ((cl n : Nat) : Int) = n := by
  rw [okP_iff]
  constructor
  · rintro ⟨h0, h1, h2⟩
    have e : cl n = n.toNat := by unfold cl; rw [if_neg (by omega), if_neg (by omega)]
    rw [e, h2]; exact ⟨rfl, by omega⟩
  · rintro ⟨h1, h2⟩
    have := cl_le n
    have e : n.toNat = cl n := by omega
    rw [e]; exact ⟨by omega, by omega, by omega⟩
theorem check_any (a : Nat) (n : Int) (ha : a < 4294967296) (w : World) : Calls Try.prog 34 #[pfx a n] w fun e w' => e = .returned (.int .i64 (if okP a n then 0 else 20)) ∧ Below w.heap.size w w' := by
  have HM := Lib.hid (make_any a n ha)
  have HK := Lib.hid (okP_cl (a := a) (n := n))
  clear ha
  generalize hv : (if okP a n = true then (0 : Int) else 20) = v
  have HV := Lib.hid hv
  clear hv
  unfold pfx at HM ⊢
  generalize hx : cut a (cl n) = x at HM HK
  generalize hm : cl n = m at HM HK
  clear hx hm
  go_enter Try.func34, Try.ntmps34
  go_wp2_with fail
  refine wp_region_quiet_tail (fun w' => Below (w.heap.size + 1) (w.alloc (.cells #[.int .u32 a, .int .i64 n] 33)) w') 6 (by kernel_rfl) (by kernel_rfl) (Below.drew (Below.refl _ _)) ?_
  simp only [List.take_succ_cons, List.take_zero, List.drop_succ_cons, List.drop_zero]
  iterate 5 (((with_reducible refine wpQuiet_step (fun K hK => ?_)); go_simp; first | ((with_reducible refine hK _ ?_); clear hK K) | (apply Exists.intro; refine ⟨fun w' hw' => ?_, hK _ ?_⟩; first | (go_at_call 50; (with_reducible refine (HM.out w').mono ?_); rintro e w2 ⟨rfl, hb⟩; exact ⟨rfl, hw'.trans (hb.mono (by have := hw'.size; simp at this; omega))⟩) | (have hc0 := fun j => Below.cell hw' (p := ⟨w.heap.size, j, none⟩) (by simp); go_simp; first | exact rfl | exact ⟨rfl, rfl⟩); clear hK K)))
  with_reducible refine wpQuiet_step (fun K hK => ?_)
  go_simp
  apply Exists.intro; refine ⟨fun w' hw' => ?_, hK _ ?_⟩
  · have hb : w'.heap[w.heap.size]? = some (.cells #[.int .u32 a, .int .i64 n] 33) := (hw'.block _ (by simp)).trans (hnew _ _)
    have c0 : w'.cell? ⟨w.heap.size, 0, none⟩ = some (.int .u32 a) := cell_of hb rfl
    have c1 : w'.cell? ⟨w.heap.size, 1, none⟩ = some (.int .i64 n) := cell_of hb rfl
    go_simp
    first | exact rfl | exact ⟨rfl, rfl⟩
  clear hK K
  refine wpQuiet_nil ?_
  intro wq hq
  have HQ := Lib.hid (((Below.refl w.heap.size w).alloc (Nat.le_refl _) _).trans (hq.mono (by omega)))
  clear HM hq
  go_wp2_with fail
  all_goals
    go_ret
    refine ⟨ret_int ?_, HQ.out⟩
    have h1 := HV.out
    have h2 := HK.out
    rw [← h1]
    simp_all
end Go.Proofs.Ytadoflcomienoaa
/- What a trie tells, of its things. -/
namespace Go.Proofs.Ytadoflcomienoaa
open Go.RowKit
section
variable {α : Type}
def look (M : Nat → Nat → Option α) (a : Nat) (l : Int) : Option α := if okP a l then M a l.toNat else none
/-- the longest one of fewer bits than i that holds an address -/
def lng (M : Nat → Nat → Option α) (a : Nat) : Nat → Option Nat
  | 0 => none
  | i + 1 => if (M (cut a i) i).isSome then some i else lng M a i
def lngX (z : α) (M : Nat → Nat → Option α) (a i : Nat) : α := match lng M a i with | none => z | some j => (M (cut a j) j).getD z
def lngN (M : Nat → Nat → Option α) (a i : Nat) : Int := match lng M a i with | none => -1 | some j => (j : Int)
theorem lng_none {z : α} {M : Nat → Nat → Option α} {a i : Nat} (h : M (cut a i) i = none) : lngX z M a (i + 1) = lngX z M a i ∧ lngN M a (i + 1) = lngN M a i := by simp [lngX, lngN, lng, h]
theorem lng_some {z x : α} {M : Nat → Nat → Option α} {a i : Nat} (h : M (cut a i) i = some x) : lngX z M a (i + 1) = x ∧ lngN M a (i + 1) = i := by simp [lngX, lngN, lng, h]
theorem lng_lt {M : Nat → Nat → Option α} {a : Nat} : ∀ {i j : Nat}, lng M a i = some j → j < i
  | 0, _, h => by cases h
  | i + 1, j, h => by
    rw [lng] at h
    split at h
    · injection h with h; omega
    · have := lng_lt h; omega
theorem lng_stop {M : Nat → Nat → Option α} {a i : Nat} (h : ∀ j, i ≤ j → j < 33 → M (cut a j) j = none) (hi : i ≤ 33) : lng M a 33 = lng M a i := by
  have : ∀ d, i + d ≤ 33 → lng M a (i + d) = lng M a i := by
    intro d
    induction d with
    | zero => intro _; rfl
    | succ d ih =>
      intro hd
      rw [← Nat.add_assoc, lng, h (i + d) (by omega) (by omega)]
      simpa using ih (by omega)
  have h2 := this (33 - i) (by omega)
  rwa [show i + (33 - i) = 33 by omega] at h2
end
theorem or_kid {x e : Nat} (h : Key x e) (he : e ≤ 31) : bits .or .u32 (x : Int) (2 ^ (31 - e) % 4294967296) = ((kid x e true : Nat) : Int) := by
  have hle : 2 ^ (31 - e) ≤ 2 ^ 31 := Nat.pow_le_pow_right (by decide) (by omega)
  have hlt := h.lt
  have hc : ((2 : Int) ^ (31 - e) % 4294967296) = ((2 ^ (31 - e) : Nat) : Int) := by
    rw [Int.emod_eq_of_lt]
    · simp
    · exact Int.pow_nonneg (by decide)
    · have : ((2 ^ (31 - e) : Nat) : Int) < 4294967296 := by omega
      simpa using this
  have hk := (h.kid he true).lt
  obtain ⟨q, e1, _⟩ := h.div
  have hmod : x % 2 ^ (32 - e) = 0 := by rw [e1]; exact Nat.mul_mod_left _ _
  rw [hc, bits_join .u32 32 (by decide) (fun n h0 h1 => by rw [IntKind.wrap_u32]; omega) (32 - e) x ((2 ^ (31 - e) : Nat) : Int) (by omega) (by exact_mod_cast hmod) (by exact_mod_cast hlt) (by omega) (by
    have : 2 ^ (31 - e) < 2 ^ (32 - e) := Nat.pow_lt_pow_right (by decide) (by omega)
    exact_mod_cast this) (by exact_mod_cast (by omega : 2 ^ (31 - e) < 4294967296))]
  simp [kid]
section
variable {P : Program} {a : Act} {w : World}
/-- three results, the first of which lies in a cell -/
theorem ret_cell3 {fn : Func} {R : Ending → World → Prop} {p q r : Tmp} {ty T : TypeId} {b : Nat} {cells : Array Value} {fr : Nat × Nat} (hr : fn.results = #[.cell p ty, .tmp q, .tmp r]) (hp : a.tmps.getD p undef = .pointer (some ⟨b, 0, none⟩)) (hd : a.defers = [])
    (hb : w.heap[b]? = some (.cells cells T fr)) {d : TypeDesc} (hu : P.underlying ty = some d) (hdr : d.isRow = true) (hi : (P.info? ty).map (·.size) = some cells.size) (h : R (.returned (.tuple #[.agg cells, a.tmps.getD q undef, a.tmps.getD r undef])) w) : bodyPost P fn R .ret a w := by
  refine bodyPost_ret ?_ hd h
  simp only [results, hr]
  have hp' : a.tmps[p]?.getD undef = .pointer (some ⟨b, 0, none⟩) := by simpa using hp
  simp [asAddr, hp', run_load_whole (P := P) hb hu hdr hi]
end
end Go.Proofs.Ytadoflcomienoaa
/- The reference's prefixes: bit, Make, Check. -/
namespace Go.Proofs.Ytadoflcomienoaa
open Go.RowKit

theorem rbit_nat (a j : Nat) (hj : j < 32) : ((a : Int) / (2 ^ j % 4294967296)) % 2 = if a.testBit j then 1 else 0 := by
  have h1 : ((2 : Int) ^ j % 4294967296) = ((2 ^ j : Nat) : Int) := by
    have : 2 ^ j < 2 ^ 32 := Nat.pow_lt_pow_right (by decide) hj
    rw [Int.emod_eq_of_lt]
    · exact (Int.natCast_pow 2 j).symm
    · exact Int.pow_nonneg (by decide)
    · have h5 : ((2 ^ j : Nat) : Int) < 4294967296 := by
        have h6 : 2 ^ j < 4294967296 := this
        omega
      exact h5
  rw [h1, Nat.testBit_eq_decide_div_mod_eq]
  have h2 : ((a : Int) / ((2 ^ j : Nat) : Int)) % 2 = ((a / 2 ^ j % 2 : Nat) : Int) := by simp
  rw [h2]
  rcases Nat.mod_two_eq_zero_or_one (a / 2 ^ j) with h0 | h0 <;> rw [h0] <;> decide
theorem rbit_any (a i : Nat) (hi : i < 32) (w : World) : Calls Try.prog 67 #[.int .u32 a, .int .i64 i] w fun e w' => e = .returned (.int .u32 (if a.testBit (31 - i) then 1 else 0)) ∧ w' = w := by
  have h1 : ¬ ((i : Int) < 0) := by omega
  have h2 : ¬ ((31 : Int) < i) := by omega
  have hw31 : IntKind.i64.wrap ((31 : Int) - i) = 31 - i := IntWalk.i64_in _ (by omega)
  have hn31 : ¬ ((31 : Int) - i < 0) := by omega
  have hp : ((2 : Int) ^ (31 - i) % 4294967296 = 0) = False := by
    have : 0 < 2 ^ (31 - i) := pow_pos2 _
    have h3 : 2 ^ (31 - i) < 2 ^ 32 := Nat.pow_lt_pow_right (by decide) (by omega)
    have h4 : ((2 : Int) ^ (31 - i)) = ((2 ^ (31 - i) : Nat) : Int) := by simp
    rw [h4]
    simp only [eq_iff_iff, iff_false]
    omega
  have HB := Lib.hid (rbit_nat a (31 - i) (by omega))
  generalize (if a.testBit (31 - i) = true then (1 : Int) else 0) = v at *
  go_enter Try.func67, Try.ntmps67
  go_wp2_with fail
  go_ret
  exact ⟨ret_int HB.out, rfl⟩
theorem cut_lt {a : Nat} (h : a < 4294967296) (n : Nat) : cut a n < 4294967296 := Nat.lt_of_le_of_lt (cut_le a n) h
set_option maxHeartbeats 1000000 in
theorem rmake_at (a m : Nat) (n : Int) (ha : a < 4294967296) (hm : m = cl n) (w : World) : Calls Try.prog 46 #[.int .u32 a, .int .i64 n] w fun e w' => e = .returned (pfx (cut a m) m) ∧ Below w.heap.size w w' := by
  have hm32 : m ≤ 32 := by rw [hm]; exact cl_le n
  have HA := Lib.hid ha
  have hcase : (n < 0 ∧ m = 0) ∨ (32 < n ∧ m = 32) ∨ (¬ n < 0 ∧ ¬ 32 < n ∧ n = m) := by
    unfold cl at hm
    rcases Decidable.em (n < 0) with h | h
    · rw [if_pos h] at hm; exact .inl ⟨h, hm⟩
    · rw [if_neg h] at hm
      rcases Decidable.em (32 < n) with h2 | h2
      · rw [if_pos h2] at hm; exact .inr (.inl ⟨h2, hm⟩)
      · rw [if_neg h2] at hm; exact .inr (.inr ⟨h, h2, by omega⟩)
  clear hm ha
  rcases hcase with ⟨h1, rfl⟩ | ⟨h1, rfl⟩ | ⟨h1, h2, rfl⟩
  · have hlt0 : (0 : Int) ≤ 0 := by omega
    go_enter Try.func46, Try.ntmps46
    go_wp2_with fail
    obtain ⟨w2, hw2⟩ : ∃ w2 : World, w2 = (w.alloc (.cells #[.int .u32 0, .int .i64 0] 33)).alloc (.cells #[.int .u32 0, .int .i64 0] 33) := ⟨_, rfl⟩
    have hb2 : Below w.heap.size w w2 := by rw [hw2]; exact ((Below.refl _ _).alloc (Nat.le_refl _) _).alloc (by simp) _
    have hc2 : w2.heap[w.heap.size + 1]? = some (.cells #[.int .u32 (cut a 0 : Nat), .int .i64 0] 33) := by rw [hw2, cut_0 HA.out]; exact hnewAt (by simp)
    have hr2 : w2.heap[w.heap.size]? = some (.cells #[.int .u32 0, .int .i64 0] 33) := by rw [hw2]; exact hold (hnew _ _)
    rw [← hw2]
    have H2 := Lib.hid (And.intro hb2 (And.intro hc2 hr2))
    clear hw2 hb2 hc2 hr2
    go_loopw [6] (fun iv wr => ∃ i : Nat, i ≤ 0 ∧ iv = .int .i64 i ∧ SetB w2 wr (w.heap.size + 1) (.cells #[.int .u32 (cut a i : Nat), .int .i64 0] 33)) (fun iv _ => 0 - (intOf iv).toNat)
    case atStart => exact ⟨0, Nat.zero_le _, rfl, SetB.self H2.out.2.1⟩
    case round =>
      obtain ⟨i, hi, rfl, hs⟩ := hrel
      have hcell := hs.at (lt_of_blk H2.out.2.1)
      have d0 : wr.cell? ⟨w.heap.size + 1, 0, none⟩ = some (.int .u32 (cut a i : Nat)) := cell_of hcell rfl
      have d1 : wr.cell? ⟨w.heap.size + 1, 1, none⟩ = some (.int .i64 0) := cell_of hcell rfl
      have e0 : wr.frozen? ⟨w.heap.size + 1, 0, none⟩ = false := free_of hcell
      have HS := Lib.hid hs
      by_cases hlt : (i : Int) < 0
      · exact absurd hlt (by omega)
      · obtain rfl : i = 0 := by omega
        have hrc := (hs.other (by omega)).trans H2.out.2.2
        have f0 : wr.cell? ⟨w.heap.size, 0, none⟩ = some (.int .u32 0) := cell_of hrc rfl
        have f1 : wr.cell? ⟨w.heap.size, 1, none⟩ = some (.int .i64 0) := cell_of hrc rfl
        have f2 : ∀ o, wr.frozen? ⟨w.heap.size, o, none⟩ = false := fun o => free_of hrc
        have HRC := Lib.hid hrc
        clear hs hcell hrc
        go_wp2_with fail
        have hst := ((SetB.self HRC.out).store (o := 0) (lt_of_blk HRC.out) (.int .u32 (cut a 0 : Nat))).store (o := 1) (lt_of_blk HRC.out) (.int .i64 0)
        exact ret_cell rfl rfl rfl (hst.at (lt_of_blk HRC.out)) Try.underlying33 rfl (by kernel_rfl) ⟨rfl, (H2.out.1.trans (HS.out.below (by omega))).trans (hst.below (Nat.le_refl _))⟩
  · have hlt0 : (0 : Int) ≤ 32 := by omega
    go_enter Try.func46, Try.ntmps46
    go_wp2_with fail
    obtain ⟨w2, hw2⟩ : ∃ w2 : World, w2 = (w.alloc (.cells #[.int .u32 0, .int .i64 0] 33)).alloc (.cells #[.int .u32 0, .int .i64 32] 33) := ⟨_, rfl⟩
    have hb2 : Below w.heap.size w w2 := by rw [hw2]; exact ((Below.refl _ _).alloc (Nat.le_refl _) _).alloc (by simp) _
    have hc2 : w2.heap[w.heap.size + 1]? = some (.cells #[.int .u32 (cut a 0 : Nat), .int .i64 32] 33) := by rw [hw2, cut_0 HA.out]; exact hnewAt (by simp)
    have hr2 : w2.heap[w.heap.size]? = some (.cells #[.int .u32 0, .int .i64 0] 33) := by rw [hw2]; exact hold (hnew _ _)
    rw [← hw2]
    have H2 := Lib.hid (And.intro hb2 (And.intro hc2 hr2))
    clear hw2 hb2 hc2 hr2
    go_loopw [6] (fun iv wr => ∃ i : Nat, i ≤ 32 ∧ iv = .int .i64 i ∧ SetB w2 wr (w.heap.size + 1) (.cells #[.int .u32 (cut a i : Nat), .int .i64 32] 33)) (fun iv _ => 32 - (intOf iv).toNat)
    case atStart => exact ⟨0, Nat.zero_le _, rfl, SetB.self H2.out.2.1⟩
    case round =>
      obtain ⟨i, hi, rfl, hs⟩ := hrel
      have hcell := hs.at (lt_of_blk H2.out.2.1)
      have d0 : wr.cell? ⟨w.heap.size + 1, 0, none⟩ = some (.int .u32 (cut a i : Nat)) := cell_of hcell rfl
      have d1 : wr.cell? ⟨w.heap.size + 1, 1, none⟩ = some (.int .i64 32) := cell_of hcell rfl
      have e0 : wr.frozen? ⟨w.heap.size + 1, 0, none⟩ = false := free_of hcell
      have HS := Lib.hid hs
      by_cases hlt : (i : Int) < 32
      · have hi31 : i ≤ 31 := by omega
        have hcs := cut_succ a hi31
        have hlt2 := cut_lt HA.out (i + 1)
        have HBit := Lib.hid (rbit_any a i (by omega))
        have h31 : ¬ ((31 : Int) < i) := by omega
        have hw31 : IntKind.i64.wrap ((31 : Int) - i) = 31 - i := IntWalk.i64_in _ (by omega)
        have hn31 : ¬ ((31 : Int) - i < 0) := by omega
        clear hs hcell
        cases hbit : a.testBit (31 - i)
        all_goals
          rw [hbit] at HBit hcs
          simp only [Bool.false_eq_true, if_false, if_true, Nat.add_zero] at HBit hcs
          have HCS := Lib.hid (And.intro hcs hlt2)
          clear hbit hcs hlt2
          go_wp2_with fail
          refine wp_region_quiet_tail (fun w' => w' = wr.drew) 10 (by kernel_rfl) (by kernel_rfl) rfl ?_
          simp only [List.take_succ_cons, List.take_zero, List.drop_succ_cons, List.drop_zero]
          iterate 10 (((with_reducible refine wpQuiet_step (fun K hK => ?_)); go_simp; first | ((with_reducible refine hK _ ?_); clear hK K) | (apply Exists.intro; refine ⟨?_, hK _ ?_⟩; (with_reducible refine (HBit.out _).mono ?_); rintro e w2 ⟨rfl, rfl⟩; exact ⟨rfl, rfl⟩; clear hK K)))
          refine wpQuiet_nil ?_
          rintro _ rfl
          clear HBit
          go_wp2_with fail
          obtain ⟨hcs, hlt2⟩ := HCS.out
          have hpow : ((2 : Int) ^ (31 - i)) = ((2 ^ (31 - i) : Nat) : Int) := (Int.natCast_pow 2 (31 - i)).symm
          first
            | exact ⟨⟨i + 1, by omega, by go_num, by
                have hst := (HS.out.store (o := 0) (lt_of_blk H2.out.2.1) (.int .u32 ((cut a i : Int) % 4294967296))).drew
                have hv : (cut a i : Int) % 4294967296 = ((cut a (i + 1) : Nat) : Int) := by omega
                rw [hv] at hst ⊢
                exact hst⟩, by simp [intOf]; omega⟩
            | exact ⟨⟨i + 1, by omega, by go_num, by
                have hst := (HS.out.store (o := 0) (lt_of_blk H2.out.2.1) (.int .u32 (((cut a i : Int) + 2 ^ (31 - i)) % 4294967296))).drew
                have hv : ((cut a i : Int) + 2 ^ (31 - i)) % 4294967296 = ((cut a (i + 1) : Nat) : Int) := by rw [hpow]; omega
                rw [hv] at hst ⊢
                exact hst⟩, by simp [intOf]; omega⟩
      · obtain rfl : i = 32 := by omega
        have hrc := (hs.other (by omega)).trans H2.out.2.2
        have f0 : wr.cell? ⟨w.heap.size, 0, none⟩ = some (.int .u32 0) := cell_of hrc rfl
        have f1 : wr.cell? ⟨w.heap.size, 1, none⟩ = some (.int .i64 0) := cell_of hrc rfl
        have f2 : ∀ o, wr.frozen? ⟨w.heap.size, o, none⟩ = false := fun o => free_of hrc
        have HRC := Lib.hid hrc
        clear hs hcell hrc
        go_wp2_with fail
        have hst := ((SetB.self HRC.out).store (o := 0) (lt_of_blk HRC.out) (.int .u32 (cut a 32 : Nat))).store (o := 1) (lt_of_blk HRC.out) (.int .i64 32)
        exact ret_cell rfl rfl rfl (hst.at (lt_of_blk HRC.out)) Try.underlying33 rfl (by kernel_rfl) ⟨rfl, (H2.out.1.trans (HS.out.below (by omega))).trans (hst.below (Nat.le_refl _))⟩
  · have hlt0 : (0 : Int) ≤ m := by omega
    go_enter Try.func46, Try.ntmps46
    go_wp2_with fail
    obtain ⟨w2, hw2⟩ : ∃ w2 : World, w2 = (w.alloc (.cells #[.int .u32 0, .int .i64 0] 33)).alloc (.cells #[.int .u32 0, .int .i64 m] 33) := ⟨_, rfl⟩
    have hb2 : Below w.heap.size w w2 := by rw [hw2]; exact ((Below.refl _ _).alloc (Nat.le_refl _) _).alloc (by simp) _
    have hc2 : w2.heap[w.heap.size + 1]? = some (.cells #[.int .u32 (cut a 0 : Nat), .int .i64 m] 33) := by rw [hw2, cut_0 HA.out]; exact hnewAt (by simp)
    have hr2 : w2.heap[w.heap.size]? = some (.cells #[.int .u32 0, .int .i64 0] 33) := by rw [hw2]; exact hold (hnew _ _)
    rw [← hw2]
    have H2 := Lib.hid (And.intro hb2 (And.intro hc2 hr2))
    clear hw2 hb2 hc2 hr2
    go_loopw [6] (fun iv wr => ∃ i : Nat, i ≤ m ∧ iv = .int .i64 i ∧ SetB w2 wr (w.heap.size + 1) (.cells #[.int .u32 (cut a i : Nat), .int .i64 m] 33)) (fun iv _ => m - (intOf iv).toNat)
    case atStart => exact ⟨0, Nat.zero_le _, rfl, SetB.self H2.out.2.1⟩
    case round =>
      obtain ⟨i, hi, rfl, hs⟩ := hrel
      have hcell := hs.at (lt_of_blk H2.out.2.1)
      have d0 : wr.cell? ⟨w.heap.size + 1, 0, none⟩ = some (.int .u32 (cut a i : Nat)) := cell_of hcell rfl
      have d1 : wr.cell? ⟨w.heap.size + 1, 1, none⟩ = some (.int .i64 m) := cell_of hcell rfl
      have e0 : wr.frozen? ⟨w.heap.size + 1, 0, none⟩ = false := free_of hcell
      have HS := Lib.hid hs
      by_cases hlt : (i : Int) < m
      · have hi31 : i ≤ 31 := by omega
        have hcs := cut_succ a hi31
        have hlt2 := cut_lt HA.out (i + 1)
        have HBit := Lib.hid (rbit_any a i (by omega))
        have h31 : ¬ ((31 : Int) < i) := by omega
        have hw31 : IntKind.i64.wrap ((31 : Int) - i) = 31 - i := IntWalk.i64_in _ (by omega)
        have hn31 : ¬ ((31 : Int) - i < 0) := by omega
        clear hs hcell
        cases hbit : a.testBit (31 - i)
        all_goals
          rw [hbit] at HBit hcs
          simp only [Bool.false_eq_true, if_false, if_true, Nat.add_zero] at HBit hcs
          have HCS := Lib.hid (And.intro hcs hlt2)
          clear hbit hcs hlt2
          go_wp2_with fail
          refine wp_region_quiet_tail (fun w' => w' = wr.drew) 10 (by kernel_rfl) (by kernel_rfl) rfl ?_
          simp only [List.take_succ_cons, List.take_zero, List.drop_succ_cons, List.drop_zero]
          iterate 10 (((with_reducible refine wpQuiet_step (fun K hK => ?_)); go_simp; first | ((with_reducible refine hK _ ?_); clear hK K) | (apply Exists.intro; refine ⟨?_, hK _ ?_⟩; (with_reducible refine (HBit.out _).mono ?_); rintro e w2 ⟨rfl, rfl⟩; exact ⟨rfl, rfl⟩; clear hK K)))
          refine wpQuiet_nil ?_
          rintro _ rfl
          clear HBit
          go_wp2_with fail
          obtain ⟨hcs, hlt2⟩ := HCS.out
          have hpow : ((2 : Int) ^ (31 - i)) = ((2 ^ (31 - i) : Nat) : Int) := (Int.natCast_pow 2 (31 - i)).symm
          first
            | exact ⟨⟨i + 1, by omega, by go_num, by
                have hst := (HS.out.store (o := 0) (lt_of_blk H2.out.2.1) (.int .u32 ((cut a i : Int) % 4294967296))).drew
                have hv : (cut a i : Int) % 4294967296 = ((cut a (i + 1) : Nat) : Int) := by omega
                rw [hv] at hst ⊢
                exact hst⟩, by simp [intOf]; omega⟩
            | exact ⟨⟨i + 1, by omega, by go_num, by
                have hst := (HS.out.store (o := 0) (lt_of_blk H2.out.2.1) (.int .u32 (((cut a i : Int) + 2 ^ (31 - i)) % 4294967296))).drew
                have hv : ((cut a i : Int) + 2 ^ (31 - i)) % 4294967296 = ((cut a (i + 1) : Nat) : Int) := by rw [hpow]; omega
                rw [hv] at hst ⊢
                exact hst⟩, by simp [intOf]; omega⟩
      · obtain rfl : i = m := by omega
        have hrc := (hs.other (by omega)).trans H2.out.2.2
        have f0 : wr.cell? ⟨w.heap.size, 0, none⟩ = some (.int .u32 0) := cell_of hrc rfl
        have f1 : wr.cell? ⟨w.heap.size, 1, none⟩ = some (.int .i64 0) := cell_of hrc rfl
        have f2 : ∀ o, wr.frozen? ⟨w.heap.size, o, none⟩ = false := fun o => free_of hrc
        have HRC := Lib.hid hrc
        clear hs hcell hrc
        go_wp2_with fail
        have hst := ((SetB.self HRC.out).store (o := 0) (lt_of_blk HRC.out) (.int .u32 (cut a i : Nat))).store (o := 1) (lt_of_blk HRC.out) (.int .i64 i)
        exact ret_cell rfl rfl rfl (hst.at (lt_of_blk HRC.out)) Try.underlying33 rfl (by kernel_rfl) ⟨rfl, (H2.out.1.trans (HS.out.below (by omega))).trans (hst.below (Nat.le_refl _))⟩
end Go.Proofs.Ytadoflcomienoaa
/- The reference's prefixes: Check, Holds, Within, Compare. -/
namespace Go.Proofs.Ytadoflcomienoaa
open Go.RowKit

theorem rcheck_any (a : Nat) (n : Int) (ha : a < 4294967296) (w : World) : Calls Try.prog 28 #[pfx a n] w fun e w' => e = .returned (.bool (okP a n)) ∧ Below w.heap.size w w' := by
  have HM := Lib.hid (fun w' => rmake_at a (cl n) n ha rfl w')
  have HK := Lib.hid (okP_cl (a := a) (n := n))
  have HO := Lib.hid (okP_iff (a := a) (n := n))
  have hmn : 0 ≤ n → n ≤ 32 → ((cl n : Nat) : Int) = n := fun h0 h1 => by unfold cl; rw [if_neg (by omega), if_neg (by omega)]; omega
  clear ha
  generalize hv : okP a n = v
  rw [hv] at HK HO
  clear hv
  unfold pfx at HM ⊢
  generalize hx : cut a (cl n) = x at HM HK
  generalize hm : cl n = m at HM HK hmn
  clear hx hm
  have hcase : ((0 ≤ n) = False ∧ v = false) ∨ ((0 ≤ n) = True ∧ (n ≤ 32) = False ∧ v = false) ∨ ((0 ≤ n) = True ∧ (n ≤ 32) = True ∧ ((m : Int) = n) = True ∧ ((x : Int) = a) = True ∧ v = true) ∨ ((0 ≤ n) = True ∧ (n ≤ 32) = True ∧ ((m : Int) = n) = True ∧ ((x : Int) = a) = False ∧ v = false) := by
    have h3 := HK.out
    have h4 := HO.out
    by_cases h1 : 0 ≤ n <;> by_cases h2 : n ≤ 32 <;> by_cases h5 : (x : Int) = a <;> cases v <;> simp_all
  clear HK HO hmn
  rcases hcase with ⟨h1, rfl⟩ | ⟨h1, h2, rfl⟩ | ⟨h1, h2, h3, h4, rfl⟩ | ⟨h1, h2, h3, h4, rfl⟩
  all_goals
    go_enter Try.func28, Try.ntmps28
    go_wp2_with fail
    refine wp_region_quiet_tail (fun w' => Below (w.heap.size + 1) (w.alloc (.cells #[.int .u32 a, .int .i64 n] 33)) w') 17 (by kernel_rfl) (by kernel_rfl) (Below.drew (Below.refl _ _)) ?_
    simp only [List.take_succ_cons, List.take_zero, List.drop_succ_cons, List.drop_zero]
    iterate 17 ((with_reducible refine wpQuiet_step (fun K hK => ?_)); go_simp; first | ((with_reducible refine hK _ ?_); clear hK K) | (apply Exists.intro; (with_reducible refine ⟨fun w' hw' => ?_, hK _ ?_⟩); first | (go_at_call 46; (with_reducible refine (HM.out w').mono ?_); rintro e w2 ⟨rfl, hb⟩; exact ⟨rfl, hw'.trans (hb.mono (by have := hw'.size; simp at this; omega))⟩) | (have hb := (hw'.block w.heap.size (by simp)).trans (hnew _ _); have c0 : w'.cell? ⟨w.heap.size, 0, none⟩ = some (.int .u32 a) := cell_of hb rfl; have c1 : w'.cell? ⟨w.heap.size, 1, none⟩ = some (.int .i64 n) := cell_of hb rfl; clear hb; go_simp; first | exact rfl | exact ⟨rfl, rfl⟩); clear hK K))
    with_reducible refine wpQuiet_nil ?_
    intro wq hq
    have HQ := Lib.hid (((Below.refl w.heap.size w).alloc (Nat.le_refl _) _).trans (hq.mono (by omega)))
    clear HM hq
    go_wp2_with fail
    go_ret
    exact ⟨rfl, HQ.out⟩
def holdsP (a : Nat) (n : Int) (x : Nat) : Bool := okP a n && decide (cut x n.toNat = a)
def inP (a : Nat) (n : Int) (b : Nat) (m : Int) : Bool := okP a n && okP b m && decide (n ≤ m) && decide (cut b n.toNat = a)
def cmpP (a : Nat) (n : Int) (b : Nat) (m : Int) : Int := if a < b ∨ (a = b ∧ n < m) then -1 else if a = b ∧ n = m then 0 else 1
theorem rcompare_any (a : Nat) (n : Int) (b : Nat) (m : Int) (w : World) : Calls Try.prog 31 #[pfx a n, pfx b m] w fun e w' => e = .returned (.int .i64 (cmpP a n b m)) ∧ Below w.heap.size w w' := by
  have hb0 := Lib.hid (((Below.refl w.heap.size w).alloc (Nat.le_refl _) (.cells #[.int .u32 a, .int .i64 n] 33)).alloc (by simp) (.cells #[.int .u32 b, .int .i64 m] 33))
  have hcase : (((a : Int) < b) = True ∧ cmpP a n b m = -1) ∨ (((a : Int) < b) = False ∧ ((a : Int) = b) = False ∧ cmpP a n b m = 1) ∨ (((a : Int) < b) = False ∧ ((a : Int) = b) = True ∧ (n < m) = True ∧ cmpP a n b m = -1) ∨ (((a : Int) < b) = False ∧ ((a : Int) = b) = True ∧ (n < m) = False ∧ (n = m) = True ∧ cmpP a n b m = 0) ∨ (((a : Int) < b) = False ∧ ((a : Int) = b) = True ∧ (n < m) = False ∧ (n = m) = False ∧ cmpP a n b m = 1) := by
    unfold cmpP
    by_cases h1 : a < b
    · exact .inl ⟨by simp; omega, by simp [h1]⟩
    · by_cases h2 : a = b
      · by_cases h3 : n < m
        · exact .inr (.inr (.inl ⟨by simp; omega, by simp [h2], by simp [h3], by simp [h2, h3]⟩))
        · by_cases h4 : n = m
          · exact .inr (.inr (.inr (.inl ⟨by simp; omega, by simp [h2], by simp [h3], by simp [h4], by simp [h2, h4]⟩)))
          · exact .inr (.inr (.inr (.inr ⟨by simp; omega, by simp [h2], by simp [h3], by simp [h4], by simp [h2, h3, h4]⟩)))
      · exact .inr (.inl ⟨by simp; omega, by simp; omega, by simp [h1, h2]⟩)
  unfold pfx
  generalize cmpP a n b m = v at hcase ⊢
  have hbeq : ((a : Int) == (b : Int)) = decide ((a : Int) = b) := by rw [Bool.eq_iff_iff]; simp
  rcases hcase with ⟨h1, rfl⟩ | ⟨h1, h2, rfl⟩ | ⟨h1, h2, h3, rfl⟩ | ⟨h1, h2, h3, h4, rfl⟩ | ⟨h1, h2, h3, h4, rfl⟩
  all_goals
    (try simp only [h2, decide_true, decide_false] at hbeq)
    go_enter Try.func31, Try.ntmps31
    go_wp2_with fail
    go_ret
    exact ⟨rfl, hb0.out⟩
end Go.Proofs.Ytadoflcomienoaa
/- Maps, as lists of entries: look-up, store, delete, length, and the steps of a range. -/
namespace Go.Proofs.Ytadoflcomienoaa.MR
open Go.Maps Go.MapKept
open Go.ChangeMaps (setBlock)

/-- how keys are written in memory -/
structure Enc (P : Program) (K : TypeId) (κ : Type) where
  enc : κ → Value
  ok : κ → Prop
  law : Keyed P K
  reads : ∀ k, ok k → ∃ l, keyOf P K (enc k) = some l
  inj : ∀ a b, enc a = enc b → a = b

abbrev Ent (κ : Type) := κ × Value × Nat
def ents {κ : Type} (enc : κ → Value) (l : List (Ent κ)) : List MapEntry := l.map fun e => ⟨enc e.1, e.2.1, e.2.2⟩

section
variable {P : Program} {K : TypeId} {κ : Type} (N : Enc P K κ)

structure MapAt (w : World) (b : Nat) (l : List (Ent κ)) (clock : Nat) : Prop where
  blk : w.heap[b]? = some (.map (ents N.enc l).toArray clock)
  ok : ∀ e ∈ l, N.ok e.1
  nodup : (l.map (·.1)).Nodup
  born : ∀ e ∈ l, e.2.2 < clock
  bnodup : (l.map (·.2.2)).Nodup

theorem ents_length (enc : κ → Value) (l : List (Ent κ)) : (ents enc l).length = l.length := by simp [ents]

theorem find_cases {w w' : World} {b clock : Nat} {l : List (Ent κ)} (h : MapAt N w b l clock) {x : κ} (hx : N.ok x) :
    ((Instr.findKey K (N.enc x) (ents N.enc l)).run P w' = .ok none w' ∧ x ∉ l.map (·.1)) ∨
    ∃ j v bn, (Instr.findKey K (N.enc x) (ents N.enc l)).run P w' = .ok (some (j, v)) w' ∧ l[j]? = some (x, v, bn) := by
  obtain ⟨lx, hlx⟩ := N.reads x hx
  have hr : ∀ e ∈ ents N.enc l, ∃ l', keyOf P K e.key = some l' := by
    intro e he
    obtain ⟨y, hy, rfl⟩ := List.mem_map.1 he
    exact N.reads _ (h.ok y hy)
  rcases N.law.find w' hlx (ents N.enc l) hr with ⟨h1, h2⟩ | ⟨j, e, h1, h2, h3⟩
  · left
    refine ⟨h1, fun hm => ?_⟩
    obtain ⟨y, hy, rfl⟩ := List.mem_map.1 hm
    exact h2 ⟨N.enc y.1, y.2.1, y.2.2⟩ (List.mem_map.2 ⟨y, hy, rfl⟩) rfl
  · right
    simp only [ents, List.getElem?_map, Option.map_eq_some_iff] at h2
    obtain ⟨⟨yk, yv, yb⟩, hy, rfl⟩ := h2
    obtain rfl : yk = x := N.inj _ _ h3
    exact ⟨j, yv, yb, h1, hy⟩

theorem run_len {w : World} {b clock : Nat} {l : List (Ent κ)} (h : MapAt N w b l clock) {T E : TypeId} (ht : P.underlying T = some (.map K E)) (ty : TypeId) :
    (Builtin.len_ #[T] ty #[.map (some b)]).run P w = .ok (.int .i64 l.length) w := by
  unfold Builtin.len_
  simp [run_underlying ht, Result.andThen, getObj, Sem.run, h.blk, goInt, ents]

theorem MapAt.blk_iff {w w' : World} {b clock : Nat} {l : List (Ent κ)} (h : MapAt N w b l clock) (e : w'.heap[b]? = w.heap[b]?) : MapAt N w' b l clock := ⟨e.trans h.blk, h.ok, h.nodup, h.born, h.bnodup⟩
theorem mapAt_made {w : World} {b : Nat} (h : w.heap[b]? = some (.map #[] 0)) : MapAt N w b [] 0 := ⟨h, by simp, by simp, by simp, by simp⟩
section
variable [DecidableEq κ]
def get? (l : List (Ent κ)) (x : κ) : Option Value := (l.find? (fun e => decide (e.1 = x))).map (·.2.1)
def put (l : List (Ent κ)) (x : κ) (v : Value) (clock : Nat) : List (Ent κ) :=
  if x ∈ l.map (·.1) then l.map (fun e => if e.1 = x then (x, v, e.2.2) else e) else l ++ [(x, v, clock)]
def clock' (l : List (Ent κ)) (x : κ) (clock : Nat) : Nat := if x ∈ l.map (·.1) then clock else clock + 1
def del (l : List (Ent κ)) (x : κ) : List (Ent κ) := l.filter (fun e => decide (e.1 ≠ x))

theorem get?_none {l : List (Ent κ)} {x : κ} (h : x ∉ l.map (·.1)) : get? l x = none := by
  unfold get?
  rw [List.find?_eq_none.2]
  · rfl
  · intro e he
    simp only [decide_eq_true_eq]
    rintro rfl
    exact h (List.mem_map.2 ⟨e, he, rfl⟩)
theorem get?_mem {l : List (Ent κ)} (hn : (l.map (·.1)).Nodup) {e : Ent κ} (he : e ∈ l) : get? l e.1 = some e.2.1 := by
  induction l with
  | nil => cases he
  | cons y r ih =>
    simp only [List.map_cons, List.nodup_cons] at hn
    unfold get?
    rw [List.find?_cons]
    rcases List.mem_cons.1 he with rfl | he'
    · simp
    · have hne : y.1 ≠ e.1 := fun h => hn.1 (List.mem_map.2 ⟨e, he', h.symm⟩)
      simp only [hne, decide_false]
      exact ih hn.2 he'
theorem mem_of_get? {l : List (Ent κ)} {x : κ} {v : Value} (h : get? l x = some v) : ∃ e ∈ l, e.1 = x ∧ e.2.1 = v := by
  unfold get? at h
  simp only [Option.map_eq_some_iff] at h
  obtain ⟨e, he, rfl⟩ := h
  have h1 := List.find?_some he
  exact ⟨e, List.mem_of_find?_eq_some he, by simpa using h1, rfl⟩

theorem get?_put (l : List (Ent κ)) (x y : κ) (v : Value) (c : Nat) : get? (put l x v c) y = if y = x then some v else get? l y := by
  unfold put
  split
  · rename_i hx
    clear c
    induction l with
    | nil => simp at hx
    | cons e r ih =>
      unfold get?
      simp only [List.map_cons, List.find?_cons]
      by_cases he : e.1 = x
      · by_cases hy : y = x
        · subst hy; simp [he]
        · have : ¬ (x = y) := fun h => hy h.symm
          have hey : ¬ (e.1 = y) := by rw [he]; exact this
          simp only [he, if_true, this, decide_false, hy, if_false]
          by_cases hxr : x ∈ r.map (·.1)
          · have := ih hxr
            unfold get? at this
            rw [this, if_neg hy]
          · have : r.map (fun e => if e.1 = x then (x, v, e.2.2) else e) = r := by
              conv => rhs; rw [← List.map_id r]
              refine List.map_congr_left fun e' he' => ?_
              rw [if_neg]
              · rfl
              · rintro rfl; exact hxr (List.mem_map.2 ⟨e', he', rfl⟩)
            rw [this]
      · simp only [he, if_false]
        have hxr : x ∈ r.map (·.1) := by
          simp only [List.map_cons, List.mem_cons] at hx
          rcases hx with h | h
          · exact absurd h.symm he
          · exact h
        have ih' := ih hxr
        unfold get? at ih'
        by_cases hey : e.1 = y
        · have : y ≠ x := by rintro rfl; exact he hey
          simp [hey, this]
        · simp only [hey, decide_false]
          exact ih'
  · rename_i hx
    unfold get?
    rw [List.find?_append]
    by_cases hy : y = x
    · subst hy
      have := get?_none hx
      unfold get? at this
      simp only [Option.map_eq_none_iff] at this
      simp [this]
    · have : ¬ (x = y) := fun h => hy h.symm
      simp [hy, this]

theorem get?_del (l : List (Ent κ)) (x y : κ) : get? (del l x) y = if y = x then none else get? l y := by
  unfold del get?
  rw [List.find?_filter]
  by_cases hy : y = x
  · subst hy
    rw [if_pos rfl, List.find?_eq_none.2]
    · rfl
    · intro e he; simp
  · rw [if_neg hy]
    congr 2
    funext e
    by_cases h : e.1 = y
    · have : ¬ (e.1 = x) := by rw [h]; exact hy
      simp [h, hy]
    · simp [h]

theorem run_lookup {w : World} {b clock : Nat} {l : List (Ent κ)} (h : MapAt N w b l clock) {x : κ} (hx : N.ok x) {T E : TypeId} (ht : P.underlying T = some (.map K E)) {z : Value} (hz : ∀ w, (zeroValue E).run P w = .ok z w) (ok : Bool) :
    (Instr.lookup T (.map (some b)) (N.enc x) ok).run P w = .ok (if ok then .tuple #[(get? l x).getD z, .bool (get? l x).isSome] else (get? l x).getD z) w := by
  obtain ⟨lx, hlx⟩ := N.reads x hx
  unfold Instr.lookup
  simp only [Sem.run_bind, run_underlying ht, Result.andThen, getObj, Sem.run, h.blk, N.law.check w _ hlx, Sem.run_pure]
  rcases find_cases N h (w' := w) hx with ⟨h1, h2⟩ | ⟨j, v, bn, h1, h2⟩
  · simp only [h1, Sem.run_bind, Result.andThen, hz, Sem.run_pure, get?_none h2]
    cases ok <;> rfl
  · have hm : (x, v, bn) ∈ l := List.mem_of_getElem? h2
    have := get?_mem h.nodup hm
    simp only [h1, this]
    cases ok <;> rfl

theorem setBlock_heap (w : World) (b : Nat) (o : Obj) (hb : b < w.heap.size) : (setBlock w b o).heap[b]? = some o := by
  simp [setBlock, hb]

theorem ents_put_old (enc : κ → Value) (_inj : ∀ a b, enc a = enc b → a = b) {l : List (Ent κ)} (hn : (l.map (·.1)).Nodup) {j : Nat} {x : κ} {u v : Value} {bn : Nat} (hj : l[j]? = some (x, u, bn)) :
    (ents enc l).toArray.modify j (fun e => { e with key := enc x, val := v }) = (ents enc (l.map fun e => if e.1 = x then (x, v, e.2.2) else e)).toArray := by
  apply Array.ext_getElem?
  intro i
  simp only [Array.getElem?_modify, List.getElem?_toArray, ents, List.getElem?_map]
  by_cases hij : j = i
  · subst hij
    simp [hj]
  · rw [if_neg hij]
    cases hi : l[i]? with
    | none => rfl
    | some e =>
      have hne : ¬ (e.1 = x) := by
        rintro rfl
        have hi' := List.getElem?_eq_some_iff.1 hi
        have hj' := List.getElem?_eq_some_iff.1 hj
        obtain ⟨a1, a2⟩ := hi'
        obtain ⟨b1, b2⟩ := hj'
        have h1 : (l.map (·.1))[i]'(by simpa using a1) = (l.map (·.1))[j]'(by simpa using b1) := by simp [a2, b2]
        exact hij ((List.getElem_inj hn).1 h1.symm)
      simp [hne]

theorem mapAt_put {w' : World} {b clock : Nat} {l : List (Ent κ)} {w : World} (h : MapAt N w b l clock) {x : κ} (hx : N.ok x) (v : Value) (hw : w'.heap[b]? = some (.map (ents N.enc (put l x v clock)).toArray (clock' l x clock))) : MapAt N w' b (put l x v clock) (clock' l x clock) := by
  refine ⟨hw, ?_, ?_, ?_, ?_⟩
  all_goals unfold put
  all_goals try unfold clock'
  all_goals split
  · intro e he
    obtain ⟨y, hy, rfl⟩ := List.mem_map.1 he
    split
    · exact hx
    · exact h.ok y hy
  · intro e he
    rcases List.mem_append.1 he with he | he
    · exact h.ok e he
    · simp at he; subst he; exact hx
  · have : (l.map fun e => if e.1 = x then (x, v, e.2.2) else e).map (·.1) = l.map (·.1) := by
      rw [List.map_map]
      refine List.map_congr_left fun e _ => ?_
      simp only [Function.comp]
      split
      · rename_i h'; exact h'.symm
      · rfl
    rw [this]; exact h.nodup
  · rename_i hni
    rw [List.map_append, List.nodup_append]
    refine ⟨h.nodup, by simp, ?_⟩
    intro a ha c hc
    simp at hc
    subst hc
    rintro rfl
    exact hni ha
  · intro e he
    obtain ⟨y, hy, rfl⟩ := List.mem_map.1 he
    have := h.born y hy
    split <;> exact this
  · intro e he
    rcases List.mem_append.1 he with he | he
    · have := h.born e he; omega
    · simp at he; subst he; simp
  · have : (l.map fun e => if e.1 = x then (x, v, e.2.2) else e).map (·.2.2) = l.map (·.2.2) := by
      rw [List.map_map]
      refine List.map_congr_left fun e _ => ?_
      simp only [Function.comp]
      split <;> rfl
    rw [this]; exact h.bnodup
  · rw [List.map_append, List.nodup_append]
    refine ⟨h.bnodup, by simp, ?_⟩
    intro a ha c hc
    simp at hc
    subst hc
    obtain ⟨y, hy, rfl⟩ := List.mem_map.1 ha
    have := h.born y hy
    omega

theorem run_update {w : World} {b clock : Nat} {l : List (Ent κ)} (h : MapAt N w b l clock) {x : κ} (hx : N.ok x) {T E : TypeId} (ht : P.underlying T = some (.map K E)) (v : Value) :
    (Instr.mapUpdate T (.map (some b)) (N.enc x) v).run P w = .ok () (setBlock w b (.map (ents N.enc (put l x v clock)).toArray (clock' l x clock))) ∧
    MapAt N (setBlock w b (.map (ents N.enc (put l x v clock)).toArray (clock' l x clock))) b (put l x v clock) (clock' l x clock) := by
  have hlt : b < w.heap.size := by
    rcases Nat.lt_or_ge b w.heap.size with h' | h'
    · exact h'
    · have := h.blk; rw [Array.getElem?_eq_none h'] at this; cases this
  refine ⟨?_, mapAt_put N h hx v (setBlock_heap _ _ _ hlt)⟩
  obtain ⟨lx, hlx⟩ := N.reads x hx
  unfold Instr.mapUpdate
  simp only [Sem.run_bind, run_underlying ht, Result.andThen, getObj, Sem.run, h.blk, N.law.check w _ hlx]
  have hset : ∀ o : Obj, (setObj b o).run P w = .ok () (setBlock w b o) := by
    intro o; simp [setObj, Sem.run, h.blk, setBlock]
  rcases find_cases N h (w' := w) hx with ⟨h1, h2⟩ | ⟨j, u, bn, h1, h2⟩
  · simp only [h1, hset]
    unfold put clock'
    rw [if_neg h2, if_neg h2]
    simp [ents]
  · have hm : x ∈ l.map (·.1) := List.mem_map.2 ⟨_, List.mem_of_getElem? h2, rfl⟩
    have hk : ((((ents N.enc l).toArray[j]?).map (·.key)).getD (N.enc x)) = N.enc x := by simp [ents, h2]
    simp only [h1, Sem.run_bind, hk, N.law.stays w hlx, Result.andThen, hset]
    unfold put clock'
    rw [if_pos hm, if_pos hm, ents_put_old N.enc N.inj h.nodup h2]

theorem ents_del (_enc : κ → Value) {l : List (Ent κ)} (hn : (l.map (·.1)).Nodup) {j : Nat} {x : κ} {u : Value} {bn : Nat} (hj : l[j]? = some (x, u, bn)) :
    l.eraseIdx j = del l x := by
  induction l generalizing j with
  | nil => simp at hj
  | cons y r ih =>
    simp only [List.map_cons, List.nodup_cons] at hn
    cases j with
    | zero =>
      simp at hj
      subst hj
      simp only [List.eraseIdx_zero, List.tail_cons, del, List.filter_cons]
      simp only [ne_eq, not_true_eq_false, decide_false, Bool.false_eq_true, if_false]
      symm
      rw [List.filter_eq_self]
      intro e he
      simp only [decide_eq_true_eq]
      rintro rfl
      exact hn.1 (List.mem_map.2 ⟨e, he, rfl⟩)
    | succ j =>
      simp at hj
      have hne : y.1 ≠ x := by
        rintro rfl
        exact hn.1 (List.mem_map.2 ⟨_, List.mem_of_getElem? hj, rfl⟩)
      simp only [List.eraseIdx_cons_succ, del, List.filter_cons]
      simp only [ne_eq, hne, not_false_eq_true, decide_true, if_true]
      rw [ih hn.2 hj]
      rfl

theorem mapAt_del {w w' : World} {b clock : Nat} {l : List (Ent κ)} (h : MapAt N w b l clock) (x : κ) (hw : w'.heap[b]? = some (.map (ents N.enc (del l x)).toArray clock)) : MapAt N w' b (del l x) clock :=
  ⟨hw, fun e he => h.ok e (List.mem_filter.1 he).1, (List.filter_sublist.map _).nodup h.nodup, fun e he => h.born e (List.mem_filter.1 he).1, (List.filter_sublist.map _).nodup h.bnodup⟩

theorem del_none {l : List (Ent κ)} {x : κ} (h : x ∉ l.map (·.1)) : del l x = l := by
  unfold del
  rw [List.filter_eq_self]
  intro e he
  simp only [decide_eq_true_eq]
  rintro rfl
  exact h (List.mem_map.2 ⟨e, he, rfl⟩)

theorem run_delete {w : World} {b clock : Nat} {l : List (Ent κ)} (h : MapAt N w b l clock) {x : κ} (hx : N.ok x) {T E K' : TypeId} (ht : P.underlying T = some (.map K E)) (ty : TypeId) :
    (Builtin.delete_ #[T, K'] ty #[.map (some b), N.enc x]).run P w = .ok (.tuple #[]) (setBlock w b (.map (ents N.enc (del l x)).toArray clock)) ∧
    MapAt N (setBlock w b (.map (ents N.enc (del l x)).toArray clock)) b (del l x) clock := by
  have hlt : b < w.heap.size := by
    rcases Nat.lt_or_ge b w.heap.size with h' | h'
    · exact h'
    · have := h.blk; rw [Array.getElem?_eq_none h'] at this; cases this
  refine ⟨?_, mapAt_del N h x (setBlock_heap _ _ _ hlt)⟩
  obtain ⟨lx, hlx⟩ := N.reads x hx
  have hset : ∀ o : Obj, (setObj b o).run P w = .ok () (setBlock w b o) := by
    intro o; simp [setObj, Sem.run, h.blk, setBlock]
  unfold Builtin.delete_
  simp only [Sem.run_bind, run_underlying ht, Result.andThen, getObj, Sem.run, h.blk, N.law.check w _ hlx, List.getElem?_toArray, List.getElem?_cons_zero, List.getElem?_cons_succ]
  rcases find_cases N h (w' := w) hx with ⟨h1, h2⟩ | ⟨j, u, bn, h1, h2⟩
  · simp only [h1, Sem.run_bind, Result.andThen, hset, del_none h2, Sem.run_pure]
  · have := ents_del N.enc h.nodup h2
    simp only [h1, Sem.run_bind, Result.andThen, hset, Sem.run_pure]
    rw [show (ents N.enc l).toArray.eraseIdxIfInBounds j = (ents N.enc (del l x)).toArray by
      rw [← this]; simp [ents, ChangeMaps.map_eraseIdx]]

end
end
end Go.Proofs.Ytadoflcomienoaa.MR
