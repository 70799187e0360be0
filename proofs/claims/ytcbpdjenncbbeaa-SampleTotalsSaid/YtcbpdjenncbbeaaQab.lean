/- Tries in memory: nodes by what prefixes they stand for. -/
import Derived.Test.YtcbpdjenncbbeaaQaa
import Derived.Test.YtcbpdjenncbbeaaRows
import Derived.Laws.BitsLemmas
namespace Go.Proofs.Ytcbpdjenncbbeaa
open Go.RowKit

/-- the first n bits of an address -/
def cut (a n : Nat) : Nat := a / 2 ^ (32 - n) * 2 ^ (32 - n)
theorem cut_le (a n : Nat) : cut a n ≤ a := Nat.div_mul_le_self _ _
theorem cut_32 (a : Nat) : cut a 32 = a := by simp [cut]
theorem cut_0 {a : Nat} (h : a < 4294967296) : cut a 0 = 0 := by simp [cut]; omega
theorem pow_pos2 (k : Nat) : 0 < 2 ^ k := Nat.pow_pos (by decide)
theorem cut_cut (a : Nat) {m n : Nat} (h : m ≤ n) : cut (cut a n) m = cut a m := by
  unfold cut
  obtain ⟨j, hj⟩ : ∃ j, 32 - m = (32 - n) + j := ⟨(32 - m) - (32 - n), by omega⟩
  have hp := pow_pos2 (32 - n)
  rw [hj, Nat.pow_add, ← Nat.div_div_eq_div_mul, ← Nat.div_div_eq_div_mul, Nat.mul_div_cancel _ hp]
theorem cut_succ (a : Nat) {n : Nat} (h : n ≤ 31) : cut a (n + 1) = cut a n + (if a.testBit (31 - n) then 2 ^ (31 - n) else 0) := by
  unfold cut
  rw [show 32 - (n + 1) = 31 - n by omega, show 32 - n = (31 - n) + 1 by omega, Nat.testBit_eq_decide_div_mod_eq, Nat.pow_succ, ← Nat.div_div_eq_div_mul]
  generalize 2 ^ (31 - n) = p
  generalize a / p = q
  have h2 : q = 2 * (q / 2) + q % 2 := by omega
  rcases Nat.mod_two_eq_zero_or_one q with h0 | h1
  · rw [h0] at h2
    simp only [h0]
    have e : q / 2 * (p * 2) = q * p := by rw [Nat.mul_comm p 2, ← Nat.mul_assoc]; congr 1; omega
    simp [e]
  · simp only [h1]
    have e : q / 2 * (p * 2) + p = q * p := by
      rw [Nat.mul_comm p 2, ← Nat.mul_assoc]
      have : q = q / 2 * 2 + 1 := by omega
      conv => rhs; rw [this, Nat.succ_mul]
    simp [e]
/-- may (a, n) be a prefix -/
structure Key (a n : Nat) : Prop where
  le : n ≤ 32
  is : cut a n = a
  lt : a < 4294967296
theorem key_cut {a n : Nat} (ha : a < 4294967296) (hn : n ≤ 32) : Key (cut a n) n := ⟨hn, cut_cut a (Nat.le_refl _), Nat.lt_of_le_of_lt (cut_le a n) ha⟩
/-- the branch of a bit -/
def kid (a n : Nat) (c : Bool) : Nat := if c then a + 2 ^ (31 - n) else a
theorem cut_kid (a : Nat) {n : Nat} (h : n ≤ 31) : cut a (n + 1) = kid (cut a n) n (a.testBit (31 - n)) := by
  rw [cut_succ a h]; unfold kid; split <;> simp
theorem kid_ne (a n : Nat) {c c' : Bool} (h : kid a n c = kid a n c') : c = c' := by
  have := pow_pos2 (31 - n)
  cases c <;> cases c' <;> simp [kid] at h ⊢ <;> omega
theorem Key.div {a n : Nat} (h : Key a n) : ∃ q, a = q * 2 ^ (32 - n) ∧ q < 2 ^ n := by
  refine ⟨a / 2 ^ (32 - n), h.is.symm, ?_⟩
  refine Nat.div_lt_of_lt_mul ?_
  rw [← Nat.pow_add, show 32 - n + n = 32 by have := h.le; omega]
  exact h.lt
theorem Key.of_div {a n q : Nat} (hn : n ≤ 32) (h : a = q * 2 ^ (32 - n)) (hq : q < 2 ^ n) : Key a n := by
  subst h
  refine ⟨hn, ?_, ?_⟩
  · unfold cut; rw [Nat.mul_div_cancel _ (pow_pos2 _)]
  · have h1 : q * 2 ^ (32 - n) < 2 ^ n * 2 ^ (32 - n) := Nat.mul_lt_mul_of_pos_right hq (pow_pos2 _)
    rwa [← Nat.pow_add, show n + (32 - n) = 32 by omega] at h1
theorem mul_two_out (q p : Nat) : q * (p * 2) = 2 * q * p := by rw [Nat.mul_comm p 2, ← Nat.mul_assoc, Nat.mul_comm q 2]
theorem Key.kid {a n : Nat} (h : Key a n) (hn : n ≤ 31) (c : Bool) : Key (kid a n c) (n + 1) := by
  obtain ⟨q, e, hq⟩ := h.div
  have e1 : 32 - n = (31 - n) + 1 := by omega
  rw [e1, Nat.pow_succ] at e
  cases c with
  | false => exact Key.of_div (q := 2 * q) (by omega) (by rw [show 32 - (n + 1) = 31 - n by omega, e, mul_two_out]; rfl) (by rw [Nat.pow_succ]; omega)
  | true => exact Key.of_div (q := 2 * q + 1) (by omega) (by rw [show 32 - (n + 1) = 31 - n by omega, Nat.succ_mul, ← mul_two_out, ← e]; rfl) (by rw [Nat.pow_succ]; omega)
theorem kid_cut {a n : Nat} (h : Key a n) (hn : n ≤ 31) (c : Bool) : cut (kid a n c) n = a := by
  obtain ⟨q, e, hq⟩ := h.div
  cases c with
  | false => exact h.is
  | true =>
    have hp := pow_pos2 (31 - n)
    have e1 : 32 - n = (31 - n) + 1 := by omega
    unfold cut Ytcbpdjenncbbeaa.kid
    rw [e1] at e ⊢
    rw [Nat.pow_succ] at e ⊢
    generalize 2 ^ (31 - n) = p at *
    subst e
    simp only [if_true]
    have : (q * (p * 2) + p) / (p * 2) = q := by
      rw [Nat.mul_comm q, Nat.mul_add_div (by omega), Nat.div_eq_of_lt (by omega)]; rfl
    rw [this]

def ptr (o : Option Nat) : Value := .pointer (o.map fun k => ⟨k, 0, none⟩)

section
variable {α : Type}
/-- the cells of a node -/
def nodeCells (enc : α → Value) (z : α) (l r : Option Nat) (x : Option α) : Array Value := #[ptr l, ptr r, enc (x.getD z), .bool x.isSome]
/-- a trie: its nodes N, its count n, its things M -/
structure TrieAt (TN TT : TypeId) (enc : α → Value) (z : α) (w : World) (b : Nat) (N : Nat → Nat → Option Nat) (n : Nat) (M : Nat → Nat → Option α) : Prop where
  root : ∃ r, N 0 0 = some r ∧ w.heap[b]? = some (.cells #[ptr (some r), .int .i64 n] TT (0, 0))
  key : ∀ a d k, N a d = some k → Key a d
  up : ∀ a d, (N a (d + 1)).isSome → (N (cut a d) d).isSome
  node : ∀ a d k, N a d = some k → w.heap[k]? = some (.cells (nodeCells enc z (N (kid a d false) (d + 1)) (N (kid a d true) (d + 1)) (M a d)) TN (0, 0))
  inj : ∀ a d a' d' k, N a d = some k → N a' d' = some k → a = a' ∧ d = d'
  nb : ∀ a d, N a d ≠ some b
  thing : ∀ a d, (M a d).isSome → (N a d).isSome
/-- its blocks -/
def foot (b : Nat) (N : Nat → Nat → Option Nat) (k : Nat) : Prop := k = b ∨ ∃ a d, N a d = some k
def upd {β : Type} (f : Nat → Nat → Option β) (a d : Nat) (v : Option β) : Nat → Nat → Option β := fun a' d' => if a' = a ∧ d' = d then v else f a' d'
theorem upd_same {β : Type} (f : Nat → Nat → Option β) (a d : Nat) (v : Option β) : upd f a d v a d = v := by simp [upd]
theorem upd_other {β : Type} (f : Nat → Nat → Option β) {a d a' d' : Nat} (v : Option β) (h : ¬ (a' = a ∧ d' = d)) : upd f a d v a' d' = f a' d' := by simp only [upd, if_neg h]

variable {TN TT : TypeId} {enc : α → Value} {z : α} {w w' : World} {b n : Nat} {N : Nat → Nat → Option Nat} {M : Nat → Nat → Option α}
namespace TrieAt
theorem keep (h : TrieAt TN TT enc z w b N n M) (e : ∀ k, foot b N k → w'.heap[k]? = w.heap[k]?) : TrieAt TN TT enc z w' b N n M :=
  ⟨by obtain ⟨r, h1, h2⟩ := h.root; exact ⟨r, h1, (e b (.inl rfl)).trans h2⟩, h.key, h.up, fun a d k hk => (e k (.inr ⟨a, d, hk⟩)).trans (h.node a d k hk), h.inj, h.nb, h.thing⟩
theorem lt (h : TrieAt TN TT enc z w b N n M) {k : Nat} (hk : foot b N k) : k < w.heap.size := by
  rcases hk with rfl | ⟨a, d, hk⟩
  · obtain ⟨r, h1, h2⟩ := h.root; exact lt_of_blk h2
  · exact lt_of_blk (h.node a d k hk)
theorem below (h : TrieAt TN TT enc z w b N n M) (hb : Below w.heap.size w w') : TrieAt TN TT enc z w' b N n M := h.keep fun k hk => hb.block k (h.lt hk)
theorem blk (h : TrieAt TN TT enc z w b N n M) {r : Nat} (hr : N 0 0 = some r) : w.heap[b]? = some (.cells #[ptr (some r), .int .i64 n] TT (0, 0)) := by
  obtain ⟨r', h1, h2⟩ := h.root; rw [h1] at hr; cases hr; exact h2
theorem none33 (h : TrieAt TN TT enc z w b N n M) (a : Nat) {d : Nat} (hd : 32 < d) : N a d = none := by
  cases e : N a d with
  | none => rfl
  | some k => have := (h.key _ _ _ e).le; omega
theorem none_down (h : TrieAt TN TT enc z w b N n M) {a d : Nat} (hn : N (cut a d) d = none) : ∀ j, d + j ≤ 32 → N (cut a (d + j)) (d + j) = none := by
  intro j
  induction j with
  | zero => intro _; exact hn
  | succ j ih =>
    intro hj
    have h1 := ih (by omega)
    cases e : N (cut a (d + (j + 1))) (d + (j + 1)) with
    | none => rfl
    | some k =>
      have h2 := h.up (cut a (d + (j + 1))) (d + j) (by rw [← Nat.add_assoc] at e; rw [← Nat.add_assoc, e]; rfl)
      rw [cut_cut a (by omega), h1] at h2
      cases h2
theorem thing_none (h : TrieAt TN TT enc z w b N n M) {a d : Nat} (hn : N a d = none) : M a d = none := by
  cases e : M a d with
  | none => rfl
  | some x => have := h.thing a d (by rw [e]; rfl); rw [hn] at this; cases this
theorem setNode (h : TrieAt TN TT enc z w b N n M) {a d k : Nat} (hk : N a d = some k) (v : Option α)
    (hs : SetB w w' k (.cells (nodeCells enc z (N (kid a d false) (d + 1)) (N (kid a d true) (d + 1)) v) TN (0, 0))) : TrieAt TN TT enc z w' b N n (upd M a d v) := by
  have hkb : k ≠ b := fun e => h.nb a d (e ▸ hk)
  refine ⟨?_, h.key, h.up, fun a' d' k' hk' => ?_, h.inj, h.nb, fun a' d' hm => ?_⟩
  · obtain ⟨r, h1, h2⟩ := h.root; exact ⟨r, h1, (hs.other (Ne.symm hkb)).trans h2⟩
  · by_cases e : a' = a ∧ d' = d
    · obtain ⟨rfl, rfl⟩ := e
      rw [hk] at hk'; cases hk'
      rw [upd_same]
      exact hs.at (h.lt (.inr ⟨_, _, hk⟩))
    · rw [upd_other _ _ e]
      have hne : k' ≠ k := fun e' => e (by subst e'; exact h.inj _ _ _ _ _ hk' hk)
      rw [hs.other hne]; exact h.node a' d' k' hk'
  · by_cases e : a' = a ∧ d' = d
    · obtain ⟨rfl, rfl⟩ := e; rw [hk]; rfl
    · rw [upd_other _ _ e] at hm; exact h.thing a' d' hm
theorem setCount (h : TrieAt TN TT enc z w b N n M) {r n' : Nat} (hr : N 0 0 = some r) (hs : SetB w w' b (.cells #[ptr (some r), .int .i64 n'] TT (0, 0))) : TrieAt TN TT enc z w' b N n' M :=
  ⟨⟨r, hr, hs.at (h.lt (.inl rfl))⟩, h.key, h.up, fun a d k hk => (hs.other (fun e => h.nb a d (e ▸ hk))).trans (h.node a d k hk), h.inj, h.nb, h.thing⟩
/-- a new node on a branch -/
theorem grow (h : TrieAt TN TT enc z w b N n M) {a d k : Nat} (hk : N a d = some k) (hd : d ≤ 31) (c : Bool) (hc : N (kid a d c) (d + 1) = none) {o : Obj} (ho : o = .cells (nodeCells enc z none none (none : Option α)) TN (0, 0))
    (hs : SetB (w.alloc o) w' k (.cells (nodeCells enc z (if c then N (kid a d false) (d + 1) else some w.heap.size) (if c then some w.heap.size else N (kid a d true) (d + 1)) (M a d)) TN (0, 0))) :
    TrieAt TN TT enc z w' b (upd N (kid a d c) (d + 1) (some w.heap.size)) n M := by
  subst ho
  have hkb : k ≠ b := fun e => h.nb a d (e ▸ hk)
  have hkk := h.key _ _ _ hk
  have hkl := h.lt (.inr ⟨_, _, hk⟩)
  have hnew : ∀ a' d', N a' d' ≠ some w.heap.size := fun a' d' e => by have := h.lt (.inr ⟨_, _, e⟩); omega
  have hold : ∀ j, j < w.heap.size → j ≠ k → w'.heap[j]? = w.heap[j]? := fun j hj hjk => (hs.other hjk).trans (Below.heap_alloc w _ j hj)
  have hup := h.up
  refine ⟨?_, fun a' d' k' hk' => ?_, fun a' d' hm => ?_, fun a' d' k' hk' => ?_, fun a1 d1 a2 d2 k' h1 h2 => ?_, fun a' d' e => ?_, fun a' d' hm => ?_⟩
  · obtain ⟨r, h1, h2⟩ := h.root
    exact ⟨r, by rw [upd_other _ _ (by omega)]; exact h1, (hold b (lt_of_blk h2) (Ne.symm hkb)).trans h2⟩
  · by_cases e : a' = kid a d c ∧ d' = d + 1
    · obtain ⟨rfl, rfl⟩ := e; exact hkk.kid hd c
    · rw [upd_other _ _ e] at hk'; exact h.key _ _ _ hk'
  · have hu : (N (cut a' d') d').isSome := by
      by_cases e : a' = kid a d c ∧ d' + 1 = d + 1
      · obtain ⟨rfl, e2⟩ := e
        obtain rfl : d' = d := by omega
        rw [kid_cut hkk hd, hk]; rfl
      · rw [upd_other _ _ e] at hm; exact h.up _ _ hm
    by_cases e : cut a' d' = kid a d c ∧ d' = d + 1
    · obtain ⟨e1, rfl⟩ := e
      rw [e1, upd_same]; rfl
    · rw [upd_other _ _ e]; exact hu
  · by_cases e : a' = kid a d c ∧ d' = d + 1
    · obtain ⟨rfl, rfl⟩ := e
      rw [upd_same] at hk'; cases hk'
      have h0 : ∀ c', N (kid (kid a d c) (d + 1) c') (d + 1 + 1) = none := fun c' => by
        cases e : N (kid (kid a d c) (d + 1) c') (d + 1 + 1) with
        | none => rfl
        | some j =>
          have hd2 : d + 1 ≤ 31 := by have := (h.key _ _ _ e).le; omega
          have := h.up _ _ (by rw [e]; rfl)
          rw [kid_cut (hkk.kid hd c) hd2, hc] at this; cases this
      rw [upd_other _ _ (by omega), upd_other _ _ (by omega), h0, h0, h.thing_none hc]
      rw [hs.other (by omega)]
      exact hnewAt rfl
    · rw [upd_other _ _ e] at hk'
      by_cases e2 : a' = a ∧ d' = d
      · obtain ⟨rfl, rfl⟩ := e2
        rw [hk] at hk'; cases hk'
        rw [hs.at (by simp; omega)]
        cases c with
        | true =>
          rw [upd_same, upd_other _ _ (fun e => by have := kid_ne _ _ e.1; cases this)]
          simp
        | false =>
          rw [upd_same, upd_other _ _ (fun e => by have := kid_ne _ _ e.1; cases this)]
          simp
      · have hne : k' ≠ k := fun e' => e2 (by subst e'; exact h.inj _ _ _ _ _ hk' hk)
        rw [hold k' (h.lt (.inr ⟨_, _, hk'⟩)) hne, h.node a' d' k' hk']
        have hq : ∀ c', upd N (kid a d c) (d + 1) (some w.heap.size) (kid a' d' c') (d' + 1) = N (kid a' d' c') (d' + 1) := fun c' => upd_other _ _ (fun e3 => by
          obtain ⟨e4, e5⟩ := e3
          obtain rfl : d' = d := by omega
          have h1 := kid_cut (h.key _ _ _ hk') hd c'
          rw [e4, kid_cut hkk hd] at h1
          exact e2 ⟨h1.symm, rfl⟩)
        rw [hq, hq]
  · by_cases e1 : a1 = kid a d c ∧ d1 = d + 1
    · obtain ⟨rfl, rfl⟩ := e1
      rw [upd_same] at h1; cases h1
      by_cases e2 : a2 = kid a d c ∧ d2 = d + 1
      · exact ⟨e2.1.symm, e2.2.symm⟩
      · rw [upd_other _ _ e2] at h2; exact absurd h2 (hnew _ _)
    · rw [upd_other _ _ e1] at h1
      by_cases e2 : a2 = kid a d c ∧ d2 = d + 1
      · obtain ⟨rfl, rfl⟩ := e2
        rw [upd_same] at h2; cases h2
        exact absurd h1 (hnew _ _)
      · rw [upd_other _ _ e2] at h2; exact h.inj _ _ _ _ _ h1 h2
  · by_cases e1 : a' = kid a d c ∧ d' = d + 1
    · obtain ⟨rfl, rfl⟩ := e1
      rw [upd_same] at e
      have := h.lt (.inl rfl)
      injection e with e; omega
    · rw [upd_other _ _ e1] at e; exact h.nb _ _ e
  · by_cases e : a' = kid a d c ∧ d' = d + 1
    · obtain ⟨rfl, rfl⟩ := e; rw [upd_same]; rfl
    · rw [upd_other _ _ e]; exact h.thing _ _ hm
/-- a node with nothing is taken off its branch -/
theorem drop (h : TrieAt TN TT enc z w b N n M) {a d k j : Nat} (hk : N a d = some k) (c : Bool) (hj : N (kid a d c) (d + 1) = some j) (hl : ∀ c', N (kid (kid a d c) (d + 1) c') (d + 1 + 1) = none) (hm0 : M (kid a d c) (d + 1) = none)
    (hs : SetB w w' k (.cells (nodeCells enc z (if c then N (kid a d false) (d + 1) else none) (if c then none else N (kid a d true) (d + 1)) (M a d)) TN (0, 0))) :
    TrieAt TN TT enc z w' b (upd N (kid a d c) (d + 1) none) n M := by
  have hkb : k ≠ b := fun e => h.nb a d (e ▸ hk)
  have hkk := h.key _ _ _ hk
  have hd : d ≤ 31 := by have := (h.key _ _ _ hj).le; omega
  have hck := hkk.kid hd c
  refine ⟨?_, fun a' d' k' hk' => ?_, fun a' d' hm => ?_, fun a' d' k' hk' => ?_, fun a1 d1 a2 d2 k' h1 h2 => ?_, fun a' d' e => ?_, fun a' d' hm => ?_⟩
  · obtain ⟨r, h1, h2⟩ := h.root
    exact ⟨r, by rw [upd_other _ _ (by omega)]; exact h1, (hs.other (Ne.symm hkb)).trans h2⟩
  · by_cases e : a' = kid a d c ∧ d' = d + 1
    · obtain ⟨rfl, rfl⟩ := e; rw [upd_same] at hk'; cases hk'
    · rw [upd_other _ _ e] at hk'; exact h.key _ _ _ hk'
  · by_cases e1 : a' = kid a d c ∧ d' + 1 = d + 1
    · rw [e1.1, e1.2, upd_same] at hm; cases hm
    · rw [upd_other _ _ e1] at hm
      by_cases e : cut a' d' = kid a d c ∧ d' = d + 1
      · obtain ⟨e3, rfl⟩ := e
        exfalso
        have hka : Key a' (d + 1 + 1) := by
          cases e4 : N a' (d + 1 + 1) with
          | none => rw [e4] at hm; cases hm
          | some q => exact h.key _ _ _ e4
        have hd2 : d + 1 ≤ 31 := by have := hka.le; omega
        have h4 := cut_kid a' hd2
        rw [hka.is, e3] at h4
        rw [h4, hl] at hm; cases hm
      · rw [upd_other _ _ e]; exact h.up _ _ hm
  · by_cases e : a' = kid a d c ∧ d' = d + 1
    · obtain ⟨rfl, rfl⟩ := e
      rw [upd_same] at hk'; cases hk'
    · rw [upd_other _ _ e] at hk'
      by_cases e2 : a' = a ∧ d' = d
      · obtain ⟨rfl, rfl⟩ := e2
        rw [hk] at hk'; cases hk'
        rw [hs.at (h.lt (.inr ⟨_, _, hk⟩))]
        cases c with
        | true =>
          rw [upd_same, upd_other _ _ (fun e => by have := kid_ne _ _ e.1; cases this)]
          simp
        | false =>
          rw [upd_same, upd_other _ _ (fun e => by have := kid_ne _ _ e.1; cases this)]
          simp
      · have hne : k' ≠ k := fun e' => e2 (by subst e'; exact h.inj _ _ _ _ _ hk' hk)
        rw [hs.other hne, h.node a' d' k' hk']
        have hq : ∀ c', upd N (kid a d c) (d + 1) none (kid a' d' c') (d' + 1) = N (kid a' d' c') (d' + 1) := fun c' => upd_other _ _ (fun e3 => by
          obtain ⟨e4, e5⟩ := e3
          obtain rfl : d' = d := by omega
          have h1 := kid_cut (h.key _ _ _ hk') hd c'
          rw [e4, kid_cut hkk hd] at h1
          exact e2 ⟨h1.symm, rfl⟩)
        rw [hq, hq]
  · by_cases e1 : a1 = kid a d c ∧ d1 = d + 1
    · obtain ⟨rfl, rfl⟩ := e1; rw [upd_same] at h1; cases h1
    · rw [upd_other _ _ e1] at h1
      by_cases e2 : a2 = kid a d c ∧ d2 = d + 1
      · obtain ⟨rfl, rfl⟩ := e2; rw [upd_same] at h2; cases h2
      · rw [upd_other _ _ e2] at h2; exact h.inj _ _ _ _ _ h1 h2
  · by_cases e1 : a' = kid a d c ∧ d' = d + 1
    · obtain ⟨rfl, rfl⟩ := e1; rw [upd_same] at e; cases e
    · rw [upd_other _ _ e1] at e; exact h.nb _ _ e
  · by_cases e : a' = kid a d c ∧ d' = d + 1
    · obtain ⟨rfl, rfl⟩ := e; rw [hm0] at hm; cases hm
    · rw [upd_other _ _ e]; exact h.thing _ _ hm
end TrieAt
/-- what a call on a trie may turn: its blocks; its blocks behind the call are those, or new -/
structure Moved (w w' : World) (F F' : Nat → Prop) : Prop where
  os : w'.os = w.os
  tape : w'.tape = w.tape
  output : w'.output = w.output
  size : w.heap.size ≤ w'.heap.size
  same : ∀ k, k < w.heap.size → ¬ F k → w'.heap[k]? = w.heap[k]?
  foot : ∀ k, F' k → F k ∨ w.heap.size ≤ k
theorem Moved.trans {a b c : World} {F G H : Nat → Prop} (h : Moved a b F G) (k : Moved b c G H) : Moved a c F H :=
  ⟨k.os.trans h.os, k.tape.trans h.tape, k.output.trans h.output, Nat.le_trans h.size k.size, fun i hi hn => (k.same i (Nat.lt_of_lt_of_le hi h.size) (fun hg => by rcases h.foot i hg with h1 | h1; exact hn h1; omega)).trans (h.same i hi hn),
   fun i hi => by rcases k.foot i hi with h1 | h1; exact h.foot i h1; exact .inr (Nat.le_trans h.size h1)⟩
theorem Moved.of_below {w w' : World} (h : Below w.heap.size w w') (F : Nat → Prop) : Moved w w' F F := ⟨h.os, h.tape, h.output, h.size, fun k hk _ => h.block k hk, fun _ h => .inl h⟩
theorem Moved.drew {w w' : World} {F F' : Nat → Prop} (h : Moved w w' F F') : Moved w w'.drew F F' := ⟨h.os, h.tape, h.output, h.size, h.same, h.foot⟩
theorem Moved.below {w w' : World} {F F' : Nat → Prop} (h : Moved w w' F F') {B : Nat} (hB : B ≤ w.heap.size) (hF : ∀ k, F k → B ≤ k) : Below B w w' :=
  ⟨h.os, h.tape, h.output, h.size, fun k hk => h.same k (by omega) (fun e => by have := hF k e; omega)⟩
theorem Moved.of_set {w w' : World} {k : Nat} {o : Obj} (h : SetB w w' k o) {F : Nat → Prop} (hk : F k) : Moved w w' F F := ⟨h.os, h.tape, h.output, by rw [h.size]; exact Nat.le_refl _, fun i _ hn => h.other (fun e => hn (e ▸ hk)), fun _ h => .inl h⟩
end
end Go.Proofs.Ytcbpdjenncbbeaa
/- Mask, Make, Check, Bit. -/
namespace Go.Proofs.Ytcbpdjenncbbeaa
open Go.RowKit

def pfx (a : Nat) (n : Int) : Value := .agg #[.int .u32 a, .int .i64 n]
/-- a number of bits, within bounds -/
def cl (n : Int) : Nat := if n < 0 then 0 else if 32 < n then 32 else n.toNat
theorem cl_le (n : Int) : cl n ≤ 32 := by unfold cl; split; omega; split; omega; omega
def okP (a : Nat) (n : Int) : Bool := decide (0 ≤ n) && decide (n ≤ 32) && decide (cut a n.toNat = a)
theorem okP_iff {a : Nat} {n : Int} : okP a n = true ↔ 0 ≤ n ∧ n ≤ 32 ∧ cut a n.toNat = a := by simp [okP, and_assoc]
theorem u64_mask (n : Nat) (hn : n ≤ 32) : IntKind.u64.wrap (18446744073709551615 * 2 ^ (32 - n)) % 4294967296 = ((2 ^ 32 - 2 ^ (32 - n) : Nat) : Int) := by
  have : ∀ m, m < 33 → IntKind.u64.wrap (18446744073709551615 * 2 ^ m) % 4294967296 = ((2 ^ 32 - 2 ^ m : Nat) : Int) := by decide
  exact this (32 - n) (by omega)
theorem mask_any (n : Nat) (hn : n ≤ 32) (w : World) : Calls Try.prog 62 #[.int .i64 n] w fun e w' => e = .returned (.int .u32 ((2 ^ 32 - 2 ^ (32 - n) : Nat) : Int)) ∧ w' = w := by
  have h1 : ¬ ((n : Int) < 0) := by omega
  have h2 : ¬ ((32 : Int) < n) := by omega
  go_enter Try.func62, Try.ntmps62
  go_wp2_with fail
  go_ret
  exact ⟨ret_int (u64_mask n hn), rfl⟩
theorem and_cut (a n : Nat) (ha : a < 4294967296) (hn : n ≤ 32) : bits .and .u32 (a : Int) ((2 ^ 32 - 2 ^ (32 - n) : Nat) : Int) = ((cut a n : Nat) : Int) := by
  have hp := pow_pos2 (32 - n)
  have hm : 2 ^ (32 - n) ≤ 2 ^ 32 := Nat.pow_le_pow_right (by decide) (by omega)
  rw [(bits_nat .u32 32 (by decide) (fun n h0 h1 => by rw [IntKind.wrap_u32]; omega) a (2 ^ 32 - 2 ^ (32 - n)) ha (by omega)).1]
  congr 1
  apply Nat.eq_of_testBit_eq
  intro i
  have e : 2 ^ 32 - 2 ^ (32 - n) = 2 ^ 32 - ((2 ^ (32 - n) - 1) + 1) := by omega
  rw [Nat.testBit_and, e, Nat.testBit_two_pow_sub_succ (by omega), Nat.testBit_two_pow_sub_one]
  unfold cut
  rw [Nat.testBit_mul_two_pow, Nat.testBit_div_two_pow]
  by_cases h1 : 32 - n ≤ i
  · by_cases h2 : i < 32
    · simp [h1, h2, show ¬ i < 32 - n by omega]
    · have : a.testBit i = false := Nat.testBit_lt_two_pow (Nat.lt_of_lt_of_le ha (by
        have : 2 ^ 32 ≤ 2 ^ i := Nat.pow_le_pow_right (by decide) (by omega)
        omega))
      simp [h2, h1, this]
  · simp [show i < 32 - n by omega]; intro h; omega
theorem mask_ex (n : Nat) (hn : n ≤ 32) (a : Nat) (ha : a < 4294967296) : ∃ m : Int, (∀ w, Calls Try.prog 62 #[.int .i64 n] w fun e w' => e = .returned (.int .u32 m) ∧ w' = w) ∧ bits .and .u32 (a : Int) m = ((cut a n : Nat) : Int) :=
  ⟨_, fun w => mask_any n hn w, and_cut a n ha hn⟩
theorem make_any (a : Nat) (n : Int) (ha : a < 4294967296) (w : World) : Calls Try.prog 44 #[.int .u32 a, .int .i64 n] w fun e w' => e = .returned (pfx (cut a (cl n)) (cl n)) ∧ Below w.heap.size w w' := by
  have hle := cl_le n
  obtain ⟨m, hm, hb⟩ := mask_ex (cl n) hle a ha
  have HM := Lib.hid hm
  have HB := Lib.hid hb
  clear hm hb
  rcases Decidable.em (n < 0) with h | h
  · have e : cl n = 0 := by simp [cl, h]
    rw [e] at HM HB ⊢
    clear hle e
    go_enter Try.func44, Try.ntmps44
    go_wp2_with (go_at_call 62; refine (HM.out _).mono ?_; rintro e w1 ⟨rfl, rfl⟩)
    rw [HB.out]
    refine ret_cell rfl rfl rfl (hnew _ _) Try.underlying46 rfl (by kernel_rfl) ⟨rfl, (Below.refl _ _).alloc (Nat.le_refl _) _⟩
  · rcases Decidable.em (32 < n) with h2 | h2
    · have e : cl n = 32 := by simp [cl, h, h2]
      rw [e] at HM HB ⊢
      clear hle e
      go_enter Try.func44, Try.ntmps44
      go_wp2_with (go_at_call 62; refine (HM.out _).mono ?_; rintro e w1 ⟨rfl, rfl⟩)
      rw [HB.out]
      refine ret_cell rfl rfl rfl (hnew _ _) Try.underlying46 rfl (by kernel_rfl) ⟨rfl, (Below.refl _ _).alloc (Nat.le_refl _) _⟩
    · obtain ⟨k, rfl⟩ := Int.eq_ofNat_of_zero_le (show 0 ≤ n by omega)
      have e : cl k = k := by unfold cl; rw [if_neg h, if_neg h2]; exact Int.toNat_natCast k
      rw [e] at HM HB hle ⊢
      clear e
      have h1 : ¬ ((k : Int) < 0) := by omega
      go_enter Try.func44, Try.ntmps44
      go_wp2_with (go_at_call 62; refine (HM.out _).mono ?_; rintro e w1 ⟨rfl, rfl⟩)
      rw [HB.out]
      refine ret_cell rfl rfl rfl (hnew _ _) Try.underlying46 rfl (by kernel_rfl) ⟨rfl, (Below.refl _ _).alloc (Nat.le_refl _) _⟩
theorem bit_nat (a j : Nat) (ha : a < 4294967296) : bits .and .u32 ((a : Int) / 2 ^ j) 1 = if a.testBit j then 1 else 0 := by
  have h : ((a : Int) / 2 ^ j) = ((a / 2 ^ j : Nat) : Int) := by simp
  have hl : a / 2 ^ j < 2 ^ 32 := Nat.lt_of_le_of_lt (Nat.div_le_self _ _) ha
  rw [h]
  have := (bits_nat .u32 32 (by decide) (fun n h0 h1 => by rw [IntKind.wrap_u32]; omega) (a / 2 ^ j) 1 hl (by decide)).1
  rw [show ((1 : Nat) : Int) = 1 from rfl] at this
  rw [this, Nat.and_one_is_mod, Nat.testBit_eq_decide_div_mod_eq]
  rcases Nat.mod_two_eq_zero_or_one (a / 2 ^ j) with h0 | h0 <;> simp [h0]
theorem bit_any (a i : Nat) (ha : a < 4294967296) (w : World) : Calls Try.prog 42 #[.int .u32 a, .int .i64 i] w fun e w' => e = .returned (.int .i64 (if decide (i < 32) && a.testBit (31 - i) then 1 else 0)) ∧ w' = w := by
  have h1 : ¬ ((i : Int) < 0) := by omega
  have HB := Lib.hid (bit_nat a (31 - i) ha)
  by_cases hi : i < 32
  · have h2 : ¬ ((32 : Int) ≤ i) := by omega
    rw [show decide (i < 32) = true by simp [hi], Bool.true_and]
    have HV : Hid (wrap64 (if a.testBit (31 - i) = true then (1 : Int) else 0) = (if a.testBit (31 - i) = true then (1 : Int) else 0)) := Lib.hid (by by_cases h : a.testBit (31 - i) = true <;> simp [h, wrap64])
    generalize (if a.testBit (31 - i) = true then (1 : Int) else 0) = v at *
    go_enter Try.func42, Try.ntmps42
    go_wp2_with fail
    go_ret
    exact ⟨ret_int (by rw [HB.out]; exact HV.out), rfl⟩
  · have h2 : ((32 : Int) ≤ i) := by omega
    rw [show decide (i < 32) = false by simp [hi]]
    go_enter Try.func42, Try.ntmps42
    clear HB
    go_wp2_with fail
    go_ret
    exact ⟨rfl, rfl⟩
theorem okP_cl {a : Nat} {n : Int} : okP a n = true ↔ ((cut a (cl n) : Nat) : Int) = a ∧ ((cl n : Nat) : Int) = n := by
  rw [okP_iff]
  constructor
  · rintro ⟨h0, h1, h2⟩
    have e : cl n = n.toNat := by unfold cl; rw [if_neg (by omega), if_neg (by omega)]
    rw [e, h2]; exact ⟨rfl, by omega⟩
  · rintro ⟨h1, h2⟩
    have := cl_le n
    have e : n.toNat = cl n := by omega
    rw [e]; exact ⟨by omega, by omega, by omega⟩
theorem check_any (a : Nat) (n : Int) (ha : a < 4294967296) (w : World) : Calls Try.prog 41 #[pfx a n] w fun e w' => e = .returned (.int .i64 (if okP a n then 0 else 20)) ∧ Below w.heap.size w w' := by
  have HM := Lib.hid (make_any a n ha)
  have HK := Lib.hid (okP_cl (a := a) (n := n))
  clear ha
  generalize hv : (if okP a n = true then (0 : Int) else 20) = v
  have HV := Lib.hid hv
  clear hv
  unfold pfx at HM ⊢
  generalize hx : cut a (cl n) = x at HM HK
  generalize hm : cl n = m at HM HK
  clear hx hm
  go_enter Try.func41, Try.ntmps41
  go_wp2_with fail
  refine wp_region_quiet_tail (fun w' => Below (w.heap.size + 1) (w.alloc (.cells #[.int .u32 a, .int .i64 n] 46)) w') 6 (by kernel_rfl) (by kernel_rfl) (Below.drew (Below.refl _ _)) ?_
  simp only [List.take_succ_cons, List.take_zero, List.drop_succ_cons, List.drop_zero]
  iterate 5 (((with_reducible refine wpQuiet_step (fun K hK => ?_)); go_simp; first | ((with_reducible refine hK _ ?_); clear hK K) | (apply Exists.intro; refine ⟨fun w' hw' => ?_, hK _ ?_⟩; first | (go_at_call 44; (with_reducible refine (HM.out w').mono ?_); rintro e w2 ⟨rfl, hb⟩; exact ⟨rfl, hw'.trans (hb.mono (by have := hw'.size; simp at this; omega))⟩) | (have hc0 := fun j => Below.cell hw' (p := ⟨w.heap.size, j, none⟩) (by simp); go_simp; first | exact rfl | exact ⟨rfl, rfl⟩); clear hK K)))
  with_reducible refine wpQuiet_step (fun K hK => ?_)
  go_simp
  apply Exists.intro; refine ⟨fun w' hw' => ?_, hK _ ?_⟩
  · have hb : w'.heap[w.heap.size]? = some (.cells #[.int .u32 a, .int .i64 n] 46) := (hw'.block _ (by simp)).trans (hnew _ _)
    have c0 : w'.cell? ⟨w.heap.size, 0, none⟩ = some (.int .u32 a) := cell_of hb rfl
    have c1 : w'.cell? ⟨w.heap.size, 1, none⟩ = some (.int .i64 n) := cell_of hb rfl
    go_simp
    first | exact rfl | exact ⟨rfl, rfl⟩
  clear hK K
  refine wpQuiet_nil ?_
  intro wq hq
  have HQ := Lib.hid (((Below.refl w.heap.size w).alloc (Nat.le_refl _) _).trans (hq.mono (by omega)))
  clear HM hq
  go_wp2_with fail
  all_goals
    go_ret
    refine ⟨ret_int ?_, HQ.out⟩
    have h1 := HV.out
    have h2 := HK.out
    rw [← h1]
    simp_all
end Go.Proofs.Ytcbpdjenncbbeaa
/- made, find, at nodes. -/
namespace Go.Proofs.Ytcbpdjenncbbeaa
open Go.RowKit

abbrev TrieX := TrieAt (α := (Option Addr)) 100 102 (Value.pointer) none
theorem madeX_nil (w : World) : Calls Try.prog 40 #[.pointer none] w fun e w' => e = .returned (.bool false) ∧ w' = w := by
  go_enter Try.func40, Try.ntmps40
  go_wp2_with fail
  go_ret
  exact ⟨rfl, rfl⟩
theorem madeX_any {w : World} {b n : Nat} {N : Nat → Nat → Option Nat} {M : Nat → Nat → Option (Option Addr)} (h : TrieX w b N n M) : Calls Try.prog 40 #[.pointer (some ⟨b, 0, none⟩)] w fun e w' => e = .returned (.bool true) ∧ w' = w := by
  obtain ⟨r, hr, hb⟩ := h.root
  have c0 : w.cell? ⟨b, 0, none⟩ = some (.pointer (some ⟨r, 0, none⟩)) := cell_of hb rfl
  clear h hb
  go_enter Try.func40, Try.ntmps40
  go_wp2_with fail
  go_ret
  exact ⟨rfl, rfl⟩
/-- a node's cells -/
theorem nodeX {w : World} {b n : Nat} {N : Nat → Nat → Option Nat} {M : Nat → Nat → Option (Option Addr)} (h : TrieX w b N n M) {a d k : Nat} (hk : N a d = some k) :
    w.cell? ⟨k, 0, none⟩ = some (ptr (N (kid a d false) (d + 1))) ∧ w.cell? ⟨k, 1, none⟩ = some (ptr (N (kid a d true) (d + 1))) ∧ w.cell? ⟨k, 2, none⟩ = some (.pointer ((M a d).getD none)) ∧ w.cell? ⟨k, 3, none⟩ = some (.bool (M a d).isSome) ∧ (∀ o, w.frozen? ⟨k, o, none⟩ = false) := by
  have hb := h.node a d k hk
  exact ⟨cell_of hb rfl, cell_of hb rfl, cell_of hb rfl, cell_of hb rfl, fun o => free_of hb⟩
set_option maxHeartbeats 1000000 in
theorem findX_any {w : World} {b n : Nat} {N : Nat → Nat → Option Nat} {M : Nat → Nat → Option (Option Addr)} (h : TrieX w b N n M) (a : Nat) (l : Int) (ha : a < 4294967296) :
    Calls Try.prog 48 #[.pointer (some ⟨b, 0, none⟩), pfx a l] w fun e w' => e = .returned (ptr (if okP a l then N a l.toNat else none)) ∧ Below w.heap.size w w' := by
  obtain ⟨r, hr, hb⟩ := h.root
  have c0 : w.cell? ⟨b, 0, none⟩ = some (.pointer (some ⟨r, 0, none⟩)) := cell_of hb rfl
  have HM := Lib.hid (madeX_any (h.below ((Below.refl _ _).alloc (Nat.le_refl _) (.cells #[.int .u32 a, .int .i64 l] 46))))
  have HC := Lib.hid (check_any a l ha)
  have HT := Lib.hid h
  have HA := Lib.hid ha
  clear ha
  cases hok : okP a l with
  | false =>
    rw [hok] at HC
    clear h hb hok c0
    unfold pfx at HC ⊢
    simp only [Bool.false_eq_true, if_false] at HC ⊢
    go_enter Try.func48, Try.ntmps48
    go_wp2_with (first | (go_at_call 40; refine (HM.out).mono ?_; rintro e w1 ⟨rfl, rfl⟩) | (go_at_call 41; refine (HC.out _).mono ?_; rintro e w1 ⟨rfl, hb1⟩))
    go_ret
    exact ⟨rfl, ((Below.refl _ _).alloc (Nat.le_refl _) _).trans (hb1.mono (by simp))⟩
  | true =>
    rw [hok] at HC
    obtain ⟨h0, h32, hcut⟩ := okP_iff.1 hok
    obtain ⟨m, rfl⟩ := Int.eq_ofNat_of_zero_le h0
    simp only [Int.toNat_natCast] at hcut
    have hm32 : m ≤ 32 := by omega
    have hbl := lt_of_blk hb
    clear h hb hok h0 h32
    unfold pfx at HC ⊢
    simp only [if_true, Int.toNat_natCast] at HC ⊢
    go_enter Try.func48, Try.ntmps48
    have c1 : (w.alloc (.cells #[.int .u32 a, .int .i64 m] 46)).cell? ⟨b, 0, none⟩ = some (.pointer (some ⟨r, 0, none⟩)) := cell_hold c0 _
    go_wp2_with (first | (go_at_call 40; refine (HM.out).mono ?_; rintro e w1 ⟨rfl, rfl⟩) | (go_at_call 41; refine (HC.out _).mono ?_; rintro e w1 ⟨rfl, hb1⟩; have c2 := (Below.cell hb1 (p := ⟨b, 0, none⟩) (by simp; omega)).trans c1))
    have HB := Lib.hid (((Below.refl _ _).alloc (Nat.le_refl _) _).trans (hb1.mono (by simp)) : Below w.heap.size w w1)
    have hp : w1.heap[w.heap.size]? = some (.cells #[.int .u32 a, .int .i64 m] 46) := (hb1.block _ (by simp)).trans (hnew _ _)
    have HP := Lib.hid hp
    clear HM HC c0 c1 c2 hb1 hp
    go_loopw [5, 6] (fun av iv wr => ∃ i : Nat, i ≤ m ∧ iv = .int .i64 i ∧ av = ptr (N (cut a i) i) ∧ Below w1.heap.size w1 wr) (fun _ iv _ => m - (intOf iv).toNat)
    case atStart => exact ⟨0, Nat.zero_le _, rfl, by rw [cut_0 HA.out, hr]; rfl, Below.refl _ _⟩
    case round =>
      obtain ⟨i, hi, rfl, rfl, hbw⟩ := hrel
      have hbww := HB.out.trans (hbw.mono HB.out.size)
      have hpw : wr.heap[w.heap.size]? = some (.cells #[.int .u32 a, .int .i64 m] 46) := (hbw.block _ (lt_of_blk HP.out)).trans HP.out
      have p0 : wr.cell? ⟨w.heap.size, 0, none⟩ = some (.int .u32 a) := cell_of hpw rfl
      have p1 : wr.cell? ⟨w.heap.size, 1, none⟩ = some (.int .i64 m) := cell_of hpw rfl
      clear hpw
      cases hN : N (cut a i) i with
      | none =>
        have hr2 : N a m = none := by
          have := HT.out.none_down hN (m - i) (by omega)
          rwa [show i + (m - i) = m by omega, hcut] at this
        have HR := Lib.hid hr2
        have HW := Lib.hid hbww
        clear hbw hbww hN hr2
        unfold ptr
        simp only [Option.map_none]
        by_cases hlt : i < m
        all_goals
          go_wp2_with fail
          go_ret
          exact ⟨by rw [HR.out]; rfl, HW.out⟩
      | some k =>
        have hnode := nodeX (HT.out.below hbww) hN
        by_cases hlt : i < m
        · have hk := cut_kid a (show i ≤ 31 by omega)
          have HBit := Lib.hid (bit_any a i HA.out)
          rw [show decide (i < 32) = true by simp; omega, Bool.true_and] at HBit
          have HW := Lib.hid hbw
          clear hbw hbww hN
          have hkl : ptr (N (cut a (i + 1)) (i + 1)) = if a.testBit (31 - i) then ptr (N (kid (cut a i) i true) (i + 1)) else ptr (N (kid (cut a i) i false) (i + 1)) := by
            rw [hk]; split <;> simp_all
          obtain ⟨n0, n1, -, -, -⟩ := hnode
          generalize ptr (N (kid (cut a i) i true) (i + 1)) = pt at *
          generalize ptr (N (kid (cut a i) i false) (i + 1)) = pf at *
          have HK := Lib.hid hkl
          clear hk hkl
          unfold ptr
          simp only [Option.map_some]
          generalize a.testBit (31 - i) = c at *
          cases c
          all_goals
            simp only [Bool.false_eq_true, if_false, if_true] at HBit HK
            go_wp2_with fail
            refine wp_region_quiet_tail (fun w' => w' = wr.drew) 9 (by kernel_rfl) (by kernel_rfl) rfl ?_
            simp only [List.take_succ_cons, List.take_zero, List.drop_succ_cons, List.drop_zero]
            iterate 9 (((with_reducible refine wpQuiet_step (fun K hK => ?_)); go_simp; first | ((with_reducible refine hK _ ?_); clear hK K) | (apply Exists.intro; refine ⟨?_, hK _ ?_⟩; (with_reducible refine (HBit.out _).mono ?_); rintro e w2 ⟨rfl, rfl⟩; exact ⟨rfl, rfl⟩; clear hK K)))
            refine wpQuiet_nil ?_
            rintro _ rfl
            go_wp2_with fail
            go_roundw
            case rel => exact ⟨i + 1, by omega, by go_num, HK.out.symm, HW.out.drew⟩
            case measure => simp [intOf]; omega
        · obtain rfl : i = m := by omega
          rw [hcut] at hN
          have HR := Lib.hid hN
          have HW := Lib.hid hbww
          clear hbw hbww hN hnode
          unfold ptr
          simp only [Option.map_some]
          go_wp2_with fail
          go_ret
          exact ⟨by rw [HR.out]; rfl, HW.out⟩
theorem findX_nil (a : Nat) (l : Int) (w : World) : Calls Try.prog 48 #[.pointer none, pfx a l] w fun e w' => e = .returned (.pointer none) ∧ Below w.heap.size w w' := by
  unfold pfx
  go_enter Try.func48, Try.ntmps48
  go_wp2_with (go_at_call 40; refine (madeX_nil _).mono ?_; rintro e w1 ⟨rfl, rfl⟩)
  go_ret
  exact ⟨rfl, (Below.refl _ _).alloc (Nat.le_refl _) _⟩
end Go.Proofs.Ytcbpdjenncbbeaa
/- New, Set. -/
namespace Go.Proofs.Ytcbpdjenncbbeaa
open Go.RowKit

theorem newX_any (w : World) : Calls Try.prog 21 #[] w fun e w' => e = .returned (.pointer (some ⟨w.heap.size + 1, 0, none⟩)) ∧ TrieX w' (w.heap.size + 1) (fun a d => if a = 0 ∧ d = 0 then some w.heap.size else none) 0 (fun _ _ => none) ∧ Below w.heap.size w w' := by
  go_enter Try.func21, Try.ntmps21
  go_wp2_with fail
  go_ret
  refine ⟨rfl, ?_, ((Below.refl _ _).alloc (Nat.le_refl _) _).alloc (by simp) _⟩
  refine ⟨⟨w.heap.size, by simp, hnewAt (by simp)⟩, fun a d k h => ?_, fun a d h => ?_, fun a d k h => ?_, fun a d a' d' k h h' => ?_, fun a d h => ?_, fun a d h => by cases h⟩
  · split at h
    · rename_i e; obtain ⟨rfl, rfl⟩ := e; exact ⟨by decide, by decide, by decide⟩
    · cases h
  · simp at h
  · split at h
    · rename_i e; obtain ⟨rfl, rfl⟩ := e; injection h with h; subst h
      simp only [Nat.succ_ne_zero, and_false, if_false]
      exact hold (hnew _ _)
    · cases h
  · split at h
    · rename_i e; split at h'
      · rename_i e'; exact ⟨by omega, by omega⟩
      · cases h'
    · cases h
  · split at h
    · injection h with h; omega
    · cases h
theorem setX_nil (a : Nat) (l : Int) (x : (Option Addr)) (w : World) : Calls Try.prog 22 #[.pointer none, pfx a l, .pointer x] w fun e w' => e = .returned (.int .i64 6) ∧ Below w.heap.size w w' := by
  unfold pfx
  go_enter Try.func22, Try.ntmps22
  go_wp2_with (go_at_call 40; refine (madeX_nil _).mono ?_; rintro e w1 ⟨rfl, rfl⟩)
  go_ret
  exact ⟨rfl, (Below.refl _ _).alloc (Nat.le_refl _) _⟩
theorem setX_bad {w : World} {b n : Nat} {N : Nat → Nat → Option Nat} {M : Nat → Nat → Option (Option Addr)} (h : TrieX w b N n M) (a : Nat) (l : Int) (ha : a < 4294967296) (hok : okP a l = false) (x : (Option Addr)) :
    Calls Try.prog 22 #[.pointer (some ⟨b, 0, none⟩), pfx a l, .pointer x] w fun e w' => e = .returned (.int .i64 20) ∧ Below w.heap.size w w' := by
  have HM := Lib.hid (madeX_any (h.below ((Below.refl _ _).alloc (Nat.le_refl _) (.cells #[.int .u32 a, .int .i64 l] 46))))
  have HC := Lib.hid (check_any a l ha)
  rw [hok] at HC
  clear ha h hok
  unfold pfx at HC ⊢
  simp only [Bool.false_eq_true, if_false] at HC
  go_enter Try.func22, Try.ntmps22
  go_wp2_with (first | (go_at_call 40; refine (HM.out).mono ?_; rintro e w1 ⟨rfl, rfl⟩) | (go_at_call 41; refine (HC.out _).mono ?_; rintro e w1 ⟨rfl, hb1⟩))
  go_ret
  exact ⟨rfl, ((Below.refl _ _).alloc (Nat.le_refl _) _).trans (hb1.mono (by simp))⟩
/-- a link of a node is laid -/
theorem linkX {w : World} {k j : Nat} {l r : Option Nat} {x : Option (Option Addr)} (h : w.heap[k]? = some (.cells (nodeCells (Value.pointer) none l r x) 100 (0, 0))) (c : Bool) (v : Option Nat) (hj : j = if c then 1 else 0) :
    SetB w (w.setCell ⟨k, j, none⟩ (ptr v)) k (.cells (nodeCells (Value.pointer) none (if c then l else v) (if c then v else r) x) 100 (0, 0)) := by
  have := (SetB.self h).store (o := j) (lt_of_blk h) (ptr v)
  subst hj
  cases c <;> exact this
theorem linkNewX {w : World} {k j : Nat} {l r : Option Nat} {x : Option (Option Addr)} (h : w.heap[k]? = some (.cells (nodeCells (Value.pointer) none l r x) 100 (0, 0))) (c : Bool) (v : Option Nat) (hj : j = if c then 1 else 0) (o : Obj) :
    SetB (w.alloc o) (((w.setCell ⟨k, j, none⟩ (ptr v)).alloc o).drew) k (.cells (nodeCells (Value.pointer) none (if c then l else v) (if c then v else r) x) 100 (0, 0)) := by
  rw [← World.setCell_alloc_past o k j (ptr v) (lt_of_blk h)]
  exact (linkX (hold h) c v hj).drew
theorem grownX {w : World} {b n : Nat} {N : Nat → Nat → Option Nat} {M : Nat → Nat → Option (Option Addr)} (h : TrieX w b N n M) {a d k j : Nat} (hk : N a d = some k) (hd : d ≤ 31) (c : Bool) (hc : N (kid a d c) (d + 1) = none) (hj : j = if c then 1 else 0) :
    TrieX (((w.setCell ⟨k, j, none⟩ (ptr (some w.heap.size))).alloc (.cells (nodeCells (Value.pointer) none none none (none : Option (Option Addr))) 100 (0, 0))).drew) b (upd N (kid a d c) (d + 1) (some w.heap.size)) n M ∧
    Moved w (((w.setCell ⟨k, j, none⟩ (ptr (some w.heap.size))).alloc (.cells (nodeCells (Value.pointer) none none none (none : Option (Option Addr))) 100 (0, 0))).drew) (foot b N) (foot b (upd N (kid a d c) (d + 1) (some w.heap.size))) := by
  have hs := linkNewX (h.node _ _ _ hk) c (some w.heap.size) hj (.cells (nodeCells (Value.pointer) none none none (none : Option (Option Addr))) 100 (0, 0))
  refine ⟨h.grow hk hd c hc rfl hs, ⟨rfl, rfl, rfl, by simp [World.setCell], fun q hq hn => ?_, fun q hq => ?_⟩⟩
  · exact (hs.other (fun e => hn (by rw [e]; exact .inr ⟨_, _, hk⟩))).trans (Below.heap_alloc w _ q hq)
  · rcases hq with rfl | ⟨x, y, hq⟩
    · exact .inl (.inl rfl)
    · by_cases e : x = kid a d c ∧ y = d + 1
      · rw [e.1, e.2, upd_same] at hq; injection hq with hq; exact .inr (by omega)
      · rw [upd_other _ _ e] at hq; exact .inl (.inr ⟨_, _, hq⟩)
/-- a node's thing is laid -/
theorem putX {w : World} {b n : Nat} {N : Nat → Nat → Option Nat} {M : Nat → Nat → Option (Option Addr)} (h : TrieX w b N n M) {a d k : Nat} (hk : N a d = some k) (v : Option (Option Addr)) :
    TrieX ((w.setCell ⟨k, 2, none⟩ (.pointer (v.getD none))).setCell ⟨k, 3, none⟩ (.bool v.isSome)) b N n (upd M a d v) ∧
    Moved w ((w.setCell ⟨k, 2, none⟩ (.pointer (v.getD none))).setCell ⟨k, 3, none⟩ (.bool v.isSome)) (foot b N) (foot b N) := by
  have hb := h.node _ _ _ hk
  have hs := ((SetB.self hb).store (o := 2) (lt_of_blk hb) (.pointer (v.getD none))).store (o := 3) (lt_of_blk hb) (.bool v.isSome)
  exact ⟨h.setNode hk v hs, Moved.of_set hs (.inr ⟨_, _, hk⟩)⟩
theorem countX {w : World} {b n : Nat} {N : Nat → Nat → Option Nat} {M : Nat → Nat → Option (Option Addr)} (h : TrieX w b N n M) (n' : Nat) :
    TrieX (w.setCell ⟨b, 1, none⟩ (.int .i64 n')) b N n' M ∧ Moved w (w.setCell ⟨b, 1, none⟩ (.int .i64 n')) (foot b N) (foot b N) := by
  obtain ⟨r, hr, hb⟩ := h.root
  have hs := (SetB.self hb).store (o := 1) (lt_of_blk hb) (.int .i64 n')
  exact ⟨h.setCount hr hs, Moved.of_set hs (.inl rfl)⟩
set_option maxHeartbeats 1000000 in
theorem setX_any {w : World} {b n : Nat} {N : Nat → Nat → Option Nat} {M : Nat → Nat → Option (Option Addr)} (h : TrieX w b N n M) (a m : Nat) (ha : a < 4294967296) (hok : okP a m = true) (hn : n < 4611686018427387904) (x : (Option Addr)) :
    Calls Try.prog 22 #[.pointer (some ⟨b, 0, none⟩), pfx a m, .pointer x] w fun e w' => e = .returned (.int .i64 0) ∧ ∃ N', TrieX w' b N' (if (M a m).isSome then n else n + 1) (upd M a m (some x)) ∧ Moved w w' (foot b N) (foot b N') := by
  obtain ⟨r, hr, hb⟩ := h.root
  have c0 : w.cell? ⟨b, 0, none⟩ = some (.pointer (some ⟨r, 0, none⟩)) := cell_of hb rfl
  have HM := Lib.hid (madeX_any (h.below ((Below.refl _ _).alloc (Nat.le_refl _) (.cells #[.int .u32 a, .int .i64 m] 46))))
  have HC := Lib.hid (check_any a m ha)
  have HT := Lib.hid h
  have HA := Lib.hid ha
  rw [hok] at HC
  obtain ⟨h0, h32, hcut⟩ := okP_iff.1 hok
  simp only [Int.toNat_natCast] at hcut
  have hm32 : m ≤ 32 := by omega
  have hbl := lt_of_blk hb
  have HCut := Lib.hid hcut
  generalize hnm : (if (M a m).isSome = true then n else n + 1) = nm
  have HNM := Lib.hid hnm
  clear hnm
  clear ha h hb hok h0 h32 hcut
  unfold pfx at HC ⊢
  simp only [if_true] at HC ⊢
  have c1 : (w.alloc (.cells #[.int .u32 a, .int .i64 m] 46)).cell? ⟨b, 0, none⟩ = some (.pointer (some ⟨r, 0, none⟩)) := cell_hold c0 _
  go_enter Try.func22, Try.ntmps22
  go_wp2_with (first | (go_at_call 40; refine (HM.out).mono ?_; rintro e w1 ⟨rfl, rfl⟩) | (go_at_call 41; refine (HC.out _).mono ?_; rintro e w1 ⟨rfl, hb1⟩; have c2 := (Below.cell hb1 (p := ⟨b, 0, none⟩) (by simp; omega)).trans c1; have hp : w1.heap[w.heap.size]? = some (.cells #[.int .u32 a, .int .i64 m] 46) := (hb1.block _ (by simp)).trans (hnew _ _); have p1 : w1.cell? ⟨w.heap.size, 1, none⟩ = some (.int .i64 m) := cell_of hp rfl))
  have HB := Lib.hid (((Below.refl _ _).alloc (Nat.le_refl _) _).trans (hb1.mono (by simp)) : Below w.heap.size w w1)
  have HP := Lib.hid hp
  clear HM HC c0 c1 c2 hb1 hp p1
  go_loopw [8, 25] (fun av iv wr => ∃ (i k : Nat) (N1 : Nat → Nat → Option Nat), i ≤ m ∧ iv = .int .i64 i ∧ av = .pointer (some ⟨k, 0, none⟩) ∧ N1 (cut a i) i = some k ∧ TrieX wr b N1 n M ∧ Moved w1 wr (foot b N) (foot b N1)) (fun _ iv _ => m - (intOf iv).toNat)
  case atStart => exact ⟨0, r, N, Nat.zero_le _, rfl, rfl, by rw [cut_0 HA.out, hr], HT.out.below HB.out, Moved.of_below (Below.refl _ _) _⟩
  case round =>
    obtain ⟨i, k, N1, hi, rfl, rfl, hk, ht, hmv⟩ := hrel
    have hpw : wr.heap[w.heap.size]? = some (.cells #[.int .u32 a, .int .i64 m] 46) := (hmv.same _ (lt_of_blk HP.out) (fun hf => by have := HT.out.lt hf; omega)).trans HP.out
    have p0 : wr.cell? ⟨w.heap.size, 0, none⟩ = some (.int .u32 a) := cell_of hpw rfl
    have p1 : wr.cell? ⟨w.heap.size, 1, none⟩ = some (.int .i64 m) := cell_of hpw rfl
    have hkl := ht.lt (.inr ⟨_, _, hk⟩)
    have hkb : k ≠ b := fun e => ht.nb _ _ (e ▸ hk)
    by_cases hlt : i < m
    · have hck := cut_kid a (show i ≤ 31 by omega)
      have HBit := Lib.hid (bit_any a i HA.out)
      rw [show decide (i < 32) = true by simp; omega, Bool.true_and] at HBit
      obtain ⟨n0, n1, -, -, nf⟩ := nodeX ht hk
      obtain ⟨nj, fj⟩ : wr.cell? ⟨k, if a.testBit (31 - i) then 1 else 0, none⟩ = some (ptr (N1 (cut a (i + 1)) (i + 1))) ∧ wr.frozen? ⟨k, if a.testBit (31 - i) then 1 else 0, none⟩ = false := by
        refine ⟨?_, nf _⟩
        rw [hck]
        cases a.testBit (31 - i)
        · exact n0
        · exact n1
      have HR := Lib.hid (And.intro ht (And.intro hmv hk))
      have HCK := Lib.hid hck
      clear ht hmv hk hpw n0 n1 nf hck
      cases hN : N1 (cut a (i + 1)) (i + 1) with
      | none =>
        have HN := Lib.hid hN
        rw [hN] at nj
        clear hN
        unfold ptr at nj
        simp only [Option.map_none] at nj
        generalize a.testBit (31 - i) = c at *
        have HJ := Lib.hid (And.intro nj fj)
        cases c
        all_goals
          simp only [Bool.false_eq_true, if_false, if_true] at HBit nj fj
          go_wp2_with fail
          refine wp_region_quiet_tail (fun w' => w' = wr.drew) 8 (by kernel_rfl) (by kernel_rfl) rfl ?_
          simp only [List.take_succ_cons, List.take_zero, List.drop_succ_cons, List.drop_zero]
          iterate 8 (((with_reducible refine wpQuiet_step (fun K hK => ?_)); go_simp; first | ((with_reducible refine hK _ ?_); clear hK K) | (apply Exists.intro; refine ⟨?_, hK _ ?_⟩; (with_reducible refine (HBit.out _).mono ?_); rintro e w2 ⟨rfl, rfl⟩; exact ⟨rfl, rfl⟩; clear hK K)))
          refine wpQuiet_nil ?_
          rintro _ rfl
          clear HBit
          go_wp2_with fail
          obtain ⟨ht, hmv, hk⟩ := HR.out
          have hc0 := HN.out
          rw [HCK.out] at hc0
          refine (?_ : (∃ _, _) ∧ _)
          first
            | exact ⟨⟨i + 1, wr.heap.size, _, by omega, by go_num, rfl, by rw [HCK.out, upd_same], (grownX ht hk (by omega) false hc0 rfl).1, hmv.trans (grownX ht hk (by omega) false hc0 rfl).2⟩, by simp [intOf]; omega⟩
            | exact ⟨⟨i + 1, wr.heap.size, _, by omega, by go_num, rfl, by rw [HCK.out, upd_same], (grownX ht hk (by omega) true hc0 rfl).1, hmv.trans (grownX ht hk (by omega) true hc0 rfl).2⟩, by simp [intOf]; omega⟩
      | some q =>
        have HN := Lib.hid hN
        rw [hN] at nj
        clear hN
        unfold ptr at nj
        simp only [Option.map_some] at nj
        generalize a.testBit (31 - i) = c at *
        cases c
        all_goals
          simp only [Bool.false_eq_true, if_false, if_true] at HBit nj fj
          go_wp2_with fail
          refine wp_region_quiet_tail (fun w' => w' = wr.drew) 8 (by kernel_rfl) (by kernel_rfl) rfl ?_
          simp only [List.take_succ_cons, List.take_zero, List.drop_succ_cons, List.drop_zero]
          iterate 8 (((with_reducible refine wpQuiet_step (fun K hK => ?_)); go_simp; first | ((with_reducible refine hK _ ?_); clear hK K) | (apply Exists.intro; refine ⟨?_, hK _ ?_⟩; (with_reducible refine (HBit.out _).mono ?_); rintro e w2 ⟨rfl, rfl⟩; exact ⟨rfl, rfl⟩; clear hK K)))
          refine wpQuiet_nil ?_
          rintro _ rfl
          clear HBit
          go_wp2_with fail
          obtain ⟨ht, hmv, hk⟩ := HR.out
          exact ⟨⟨i + 1, q, N1, by omega, by go_num, rfl, HN.out, ht.keep (fun _ _ => rfl), hmv.trans ⟨rfl, rfl, rfl, Nat.le_refl _, fun _ _ _ => rfl, fun _ h => .inl h⟩⟩, by simp [intOf]; omega⟩
    · obtain rfl : i = m := by omega
      rw [HCut.out] at hk
      obtain ⟨r2, hr2, hb2⟩ := ht.root
      have d1 : wr.cell? ⟨b, 1, none⟩ = some (.int .i64 n) := cell_of hb2 rfl
      have e1 : wr.frozen? ⟨b, 1, none⟩ = false := free_of hb2
      obtain ⟨-, -, c2, c3, nf⟩ := nodeX ht hk
      have f2 := nf 2
      have f3 := nf 3
      have HR := Lib.hid (And.intro ht (And.intro hmv hk))
      have hnn : IntKind.i64.wrap ((n : Int) + 1) = ((n + 1 : Nat) : Int) := by rw [IntWalk.i64_in _ (by omega)]; rfl
      have HB2 := Lib.hid hb2
      clear ht hmv hk hpw nf hb2 hr2
      cases hM : M a i with
      | none =>
        have HMM := Lib.hid hM
        rw [hM] at c2 c3
        clear hM
        simp only [Option.isSome_none] at c3
        generalize Option.getD none none = y at *
        go_wp2_with fail
        go_ret
        obtain ⟨ht, hmv, hk⟩ := HR.out
        have e : n + 1 = nm := by have := HNM.out; rw [HMM.out] at this; simpa using this
        subst e
        exact ⟨rfl, N1, (putX (countX ht (n + 1)).1 hk (some x)).1, (Moved.of_below HB.out _).trans (hmv.trans ((countX ht (n + 1)).2.trans (putX (countX ht (n + 1)).1 hk (some x)).2))⟩
      | some y =>
        have HMM := Lib.hid hM
        rw [hM] at c2 c3
        clear hM
        simp only [Option.isSome_some, Option.getD_some] at c2 c3
        go_wp2_with fail
        go_ret
        obtain ⟨ht, hmv, hk⟩ := HR.out
        have e : n = nm := by have := HNM.out; rw [HMM.out] at this; simpa using this
        subst e
        exact ⟨rfl, N1, (putX ht hk (some x)).1, (Moved.of_below HB.out _).trans (hmv.trans (putX ht hk (some x)).2)⟩
end Go.Proofs.Ytcbpdjenncbbeaa
/- What a trie tells, of its things. -/
namespace Go.Proofs.Ytcbpdjenncbbeaa
open Go.RowKit
section
variable {α : Type}
def look (M : Nat → Nat → Option α) (a : Nat) (l : Int) : Option α := if okP a l then M a l.toNat else none
/-- the longest one of fewer bits than i that holds an address -/
def lng (M : Nat → Nat → Option α) (a : Nat) : Nat → Option Nat
  | 0 => none
  | i + 1 => if (M (cut a i) i).isSome then some i else lng M a i
def lngX (z : α) (M : Nat → Nat → Option α) (a i : Nat) : α := match lng M a i with | none => z | some j => (M (cut a j) j).getD z
def lngN (M : Nat → Nat → Option α) (a i : Nat) : Int := match lng M a i with | none => -1 | some j => (j : Int)
theorem lng_none {z : α} {M : Nat → Nat → Option α} {a i : Nat} (h : M (cut a i) i = none) : lngX z M a (i + 1) = lngX z M a i ∧ lngN M a (i + 1) = lngN M a i := by simp [lngX, lngN, lng, h]
theorem lng_some {z x : α} {M : Nat → Nat → Option α} {a i : Nat} (h : M (cut a i) i = some x) : lngX z M a (i + 1) = x ∧ lngN M a (i + 1) = i := by simp [lngX, lngN, lng, h]
theorem lng_lt {M : Nat → Nat → Option α} {a : Nat} : ∀ {i j : Nat}, lng M a i = some j → j < i
  | 0, _, h => by cases h
  | i + 1, j, h => by
    rw [lng] at h
    split at h
    · injection h with h; omega
    · have := lng_lt h; omega
theorem lng_stop {M : Nat → Nat → Option α} {a i : Nat} (h : ∀ j, i ≤ j → j < 33 → M (cut a j) j = none) (hi : i ≤ 33) : lng M a 33 = lng M a i := by
  have : ∀ d, i + d ≤ 33 → lng M a (i + d) = lng M a i := by
    intro d
    induction d with
    | zero => intro _; rfl
    | succ d ih =>
      intro hd
      rw [← Nat.add_assoc, lng, h (i + d) (by omega) (by omega)]
      simpa using ih (by omega)
  have h2 := this (33 - i) (by omega)
  rwa [show i + (33 - i) = 33 by omega] at h2
end
theorem or_kid {x e : Nat} (h : Key x e) (he : e ≤ 31) : bits .or .u32 (x : Int) (2 ^ (31 - e) % 4294967296) = ((kid x e true : Nat) : Int) := by
  have hle : 2 ^ (31 - e) ≤ 2 ^ 31 := Nat.pow_le_pow_right (by decide) (by omega)
  have hlt := h.lt
  have hc : ((2 : Int) ^ (31 - e) % 4294967296) = ((2 ^ (31 - e) : Nat) : Int) := by
    rw [Int.emod_eq_of_lt]
    · simp
    · exact Int.pow_nonneg (by decide)
    · have : ((2 ^ (31 - e) : Nat) : Int) < 4294967296 := by omega
      simpa using this
  have hk := (h.kid he true).lt
  obtain ⟨q, e1, _⟩ := h.div
  have hmod : x % 2 ^ (32 - e) = 0 := by rw [e1]; exact Nat.mul_mod_left _ _
  rw [hc, bits_join .u32 32 (by decide) (fun n h0 h1 => by rw [IntKind.wrap_u32]; omega) (32 - e) x ((2 ^ (31 - e) : Nat) : Int) (by omega) (by exact_mod_cast hmod) (by exact_mod_cast hlt) (by omega) (by
    have : 2 ^ (31 - e) < 2 ^ (32 - e) := Nat.pow_lt_pow_right (by decide) (by omega)
    exact_mod_cast this) (by exact_mod_cast (by omega : 2 ^ (31 - e) < 4294967296))]
  simp [kid]
section
variable {P : Program} {a : Act} {w : World}
/-- three results, the first of which lies in a cell -/
theorem ret_cell3 {fn : Func} {R : Ending → World → Prop} {p q r : Tmp} {ty T : TypeId} {b : Nat} {cells : Array Value} {fr : Nat × Nat} (hr : fn.results = #[.cell p ty, .tmp q, .tmp r]) (hp : a.tmps.getD p undef = .pointer (some ⟨b, 0, none⟩)) (hd : a.defers = [])
    (hb : w.heap[b]? = some (.cells cells T fr)) {d : TypeDesc} (hu : P.underlying ty = some d) (hdr : d.isRow = true) (hi : (P.info? ty).map (·.size) = some cells.size) (h : R (.returned (.tuple #[.agg cells, a.tmps.getD q undef, a.tmps.getD r undef])) w) : bodyPost P fn R .ret a w := by
  refine bodyPost_ret ?_ hd h
  simp only [results, hr]
  have hp' : a.tmps[p]?.getD undef = .pointer (some ⟨b, 0, none⟩) := by simpa using hp
  simp [asAddr, hp', run_load_whole (P := P) hb hu hdr hi]
end
end Go.Proofs.Ytcbpdjenncbbeaa
/- Get, Len, Longest. -/
namespace Go.Proofs.Ytcbpdjenncbbeaa
open Go.RowKit

theorem getX_nil (a : Nat) (l : Int) (w : World) : Calls Try.prog 31 #[.pointer none, pfx a l] w fun e w' => e = .returned (.tuple #[.pointer none, .bool false]) ∧ Below w.heap.size w w' := by
  have H := Lib.hid (findX_nil a l)
  unfold pfx at H ⊢
  go_enter Try.func31, Try.ntmps31
  go_wp2_with (go_at_call 48; refine (H.out _).mono ?_; rintro e w1 ⟨rfl, hb⟩)
  go_ret2
  exact ⟨rfl, ((Below.refl _ _).alloc (Nat.le_refl _) _).trans (hb.mono (by simp))⟩
theorem getX_any {w : World} {b n : Nat} {N : Nat → Nat → Option Nat} {M : Nat → Nat → Option (Option Addr)} (h : TrieX w b N n M) (a : Nat) (l : Int) (ha : a < 4294967296) :
    Calls Try.prog 31 #[.pointer (some ⟨b, 0, none⟩), pfx a l] w fun e w' => e = .returned (.tuple #[.pointer ((look M a l).getD none), .bool (look M a l).isSome]) ∧ Below w.heap.size w w' := by
  have hb0 := ((Below.refl w.heap.size w).alloc (Nat.le_refl _) (.cells #[.int .u32 a, .int .i64 l] 46))
  have HF := Lib.hid (findX_any (h.below hb0) a l ha)
  have HT := Lib.hid h
  clear ha
  cases hN : (if okP a l then N a l.toNat else none) with
  | none =>
    have hl : look M a l = none := by
      unfold look
      split
      · rename_i e; rw [if_pos e] at hN; exact h.thing_none hN
      · rfl
    rw [hl]
    rw [hN] at HF
    clear h hN hl
    unfold pfx at HF ⊢
    unfold ptr at HF
    simp only [Option.map_none, Option.getD_none, Option.isSome_none] at HF ⊢
    go_enter Try.func31, Try.ntmps31
    go_wp2_with (go_at_call 48; refine (HF.out).mono ?_; rintro e w1 ⟨rfl, hb⟩)
    go_ret2
    exact ⟨rfl, hb0.trans (hb.mono (by simp))⟩
  | some k =>
    have hok : okP a l = true := by
      cases h2 : okP a l with
      | true => rfl
      | false => rw [h2] at hN; simp at hN
    rw [hok, if_pos rfl] at hN
    have hl : look M a l = M a l.toNat := by unfold look; rw [if_pos hok]
    rw [hl]
    rw [hok, if_pos rfl, hN] at HF
    have HK := Lib.hid hN
    clear h hN hl hok
    unfold pfx at HF ⊢
    unfold ptr at HF
    simp only [Option.map_some] at HF
    generalize hx : M a l.toNat = x
    have HX := Lib.hid hx
    clear hx
    cases x with
    | none =>
      simp only [Option.getD_none, Option.isSome_none]
      go_enter Try.func31, Try.ntmps31
      go_wp2_with (go_at_call 48; refine (HF.out).mono ?_; rintro e w1 ⟨rfl, hb⟩; have hbw := hb0.trans (hb.mono (by simp)); obtain ⟨-, -, c2, c3, -⟩ := nodeX (HT.out.below hbw) HK.out; rw [HX.out] at c2 c3; simp only [Option.getD_none, Option.isSome_none] at c2 c3; clear hb)
      go_ret2
      exact ⟨rfl, hbw⟩
    | some y =>
      simp only [Option.getD_some, Option.isSome_some]
      go_enter Try.func31, Try.ntmps31
      go_wp2_with (go_at_call 48; refine (HF.out).mono ?_; rintro e w1 ⟨rfl, hb⟩; have hbw := hb0.trans (hb.mono (by simp)); obtain ⟨-, -, c2, c3, -⟩ := nodeX (HT.out.below hbw) HK.out; rw [HX.out] at c2 c3; simp only [Option.getD_some, Option.isSome_some] at c2 c3; clear hb)
      go_ret2
      exact ⟨rfl, hbw⟩
theorem lenX_nil (w : World) : Calls Try.prog 23 #[.pointer none] w fun e w' => e = .returned (.int .i64 0) ∧ w' = w := by
  go_enter Try.func23, Try.ntmps23
  go_wp2_with fail
  go_ret
  exact ⟨rfl, rfl⟩
theorem lenX_any {w : World} {b n : Nat} {N : Nat → Nat → Option Nat} {M : Nat → Nat → Option (Option Addr)} (h : TrieX w b N n M) : Calls Try.prog 23 #[.pointer (some ⟨b, 0, none⟩)] w fun e w' => e = .returned (.int .i64 n) ∧ w' = w := by
  obtain ⟨r, hr, hb⟩ := h.root
  have c1 : w.cell? ⟨b, 1, none⟩ = some (.int .i64 n) := cell_of hb rfl
  clear h hb
  go_enter Try.func23, Try.ntmps23
  go_wp2_with fail
  go_ret
  exact ⟨rfl, rfl⟩
theorem longX_nil (a : Nat) (w : World) : Calls Try.prog 26 #[.pointer none, .int .u32 a] w fun e w' => e = .returned (.tuple #[pfx 0 0, .pointer none, .bool false]) ∧ Below w.heap.size w w' := by
  go_enter Try.func26, Try.ntmps26
  go_wp2_with (go_at_call 40; refine (madeX_nil _).mono ?_; rintro e w1 ⟨rfl, rfl⟩)
  refine ret_cell3 rfl rfl rfl (hnewAt rfl) Try.underlying46 rfl (by kernel_rfl) ⟨rfl, (Below.refl _ _).alloc (Nat.le_refl _) _⟩
theorem kidNoneX {w : World} {b n : Nat} {N : Nat → Nat → Option Nat} {M : Nat → Nat → Option (Option Addr)} (h : TrieX w b N n M) {a : Nat} {i k : Nat} (hk : N (cut a i) i = some k) :
    w.cell? ⟨k, if decide (i < 32) && a.testBit (31 - i) then 1 else 0, none⟩ = some (ptr (N (cut a (i + 1)) (i + 1))) := by
  obtain ⟨n0, n1, -, -, -⟩ := nodeX h hk
  have hle := (h.key _ _ _ hk).le
  by_cases hi : i < 32
  · rw [cut_kid a (by omega)]
    simp only [hi, decide_true, Bool.true_and]
    cases a.testBit (31 - i)
    · exact n0
    · exact n1
  · simp only [hi, decide_false, Bool.false_and, Bool.false_eq_true, if_false]
    rw [h.none33 _ (by omega)]
    rw [h.none33 _ (by omega)] at n0
    exact n0
set_option maxHeartbeats 1000000 in
theorem longX_any {w : World} {b n : Nat} {N : Nat → Nat → Option Nat} {M : Nat → Nat → Option (Option Addr)} (h : TrieX w b N n M) (a : Nat) (ha : a < 4294967296) :
    Calls Try.prog 26 #[.pointer (some ⟨b, 0, none⟩), .int .u32 a] w fun e w' => e = .returned (.tuple (match lng M a 33 with | none => #[pfx 0 0, .pointer none, .bool false] | some j => #[pfx (cut a j) j, .pointer ((M (cut a j) j).getD none), .bool true])) ∧ Below w.heap.size w w' := by
  obtain ⟨r, hr, hb⟩ := h.root
  have hb0 := ((Below.refl w.heap.size w).alloc (Nat.le_refl _) (.cells #[.int .u32 0, .int .i64 0] 46))
  have c0 : w.cell? ⟨b, 0, none⟩ = some (.pointer (some ⟨r, 0, none⟩)) := cell_of hb rfl
  have c1 := cell_hold c0 (.cells #[.int .u32 0, .int .i64 0] 46)
  have HM := Lib.hid (madeX_any (h.below hb0))
  have HT := Lib.hid (h.below hb0)
  have HA := Lib.hid ha
  have HB0 := Lib.hid hb0
  have HK := Lib.hid (fun (j : Nat) w => make_any a j ha w)
  generalize hres : (match lng M a 33 with | none => #[pfx 0 0, .pointer none, .bool false] | some j => #[pfx (cut a j) j, .pointer ((M (cut a j) j).getD none), .bool true]) = res
  have HRes := Lib.hid hres
  clear hres
  clear ha h hb hb0
  go_enter Try.func26, Try.ntmps26
  go_wp2_with (go_at_call 40; refine (HM.out).mono ?_; rintro e w1 ⟨rfl, rfl⟩)
  clear HM c0 c1
  obtain ⟨w1, hw1⟩ : ∃ w1 : World, w1 = w.alloc (.cells #[.int .u32 0, .int .i64 0] 46) := ⟨_, rfl⟩
  have hcell : w1.heap[w.heap.size]? = some (.cells #[.int .u32 0, .int .i64 0] 46) := by rw [hw1]; exact hnew _ _
  have HCell := Lib.hid hcell
  rw [← hw1] at HT HB0 ⊢
  clear hw1 hcell
  go_loopw [7, 8, 9, 10] (fun xv lv av iv wr => ∃ i : Nat, i ≤ 33 ∧ iv = .int .i64 i ∧ av = ptr (N (cut a i) i) ∧ xv = .pointer (lngX none M a i) ∧ lv = .int .i64 (lngN M a i) ∧ Below w1.heap.size w1 wr) (fun _ _ _ iv _ => 34 - (intOf iv).toNat)
  case atStart => exact ⟨0, by omega, rfl, by rw [cut_0 HA.out, hr]; rfl, rfl, rfl, Below.refl _ _⟩
  case round =>
    obtain ⟨i, hi, rfl, rfl, rfl, rfl, hbw⟩ := hrel
    cases hN : N (cut a i) i with
    | none =>
      have hst : lng M a 33 = lng M a i := lng_stop (fun j h1 h2 => by
        have := HT.out.none_down hN (j - i) (by omega)
        rw [show i + (j - i) = j by omega] at this
        exact HT.out.thing_none this) hi
      have hres := HRes.out
      rw [hst] at hres
      have hcw : wr.heap[w.heap.size]? = some (.cells #[.int .u32 0, .int .i64 0] 46) := (hbw.block _ (lt_of_blk HCell.out)).trans HCell.out
      have HW := Lib.hid (HB0.out.trans (hbw.mono HB0.out.size))
      unfold lngX lngN
      cases hl : lng M a i with
      | none =>
        rw [hl] at hres
        dsimp only at hres ⊢
        unfold ptr
        simp only [Option.map_none]
        have d0 : wr.cell? ⟨w.heap.size, 0, none⟩ = some (.int .u32 0) := cell_of hcw rfl
        have d1 : wr.cell? ⟨w.heap.size, 1, none⟩ = some (.int .i64 0) := cell_of hcw rfl
        have e0 : ∀ o, wr.frozen? ⟨w.heap.size, o, none⟩ = false := fun o => free_of hcw
        clear hbw hN hst hl HRes HK
        have HC := Lib.hid hcw
        have HE := Lib.hid hres
        clear hcw hres
        go_wp2_with fail
        have hs := ((SetB.self HC.out).store (o := 0) (lt_of_blk HC.out) (.int .u32 0)).store (o := 1) (lt_of_blk HC.out) (.int .i64 0)
        rw [← HE.out]
        refine ret_cell3 rfl rfl rfl (hs.at (lt_of_blk HC.out)) Try.underlying46 rfl (by kernel_rfl) ⟨rfl, HW.out.trans (hs.below (Nat.le_refl _))⟩
      | some j =>
        rw [hl] at hres
        dsimp only at hres ⊢
        unfold ptr
        simp only [Option.map_none]
        have hj := lng_lt hl
        have hcl : cl j = j := by unfold cl; rw [if_neg (by omega), if_neg (by omega)]; exact Int.toNat_natCast j
        have HMk := Lib.hid (HK.out j)
        rw [hcl] at HMk
        unfold pfx at HMk hres
        generalize (M (cut a j) j).getD none = y at *
        clear hbw hN hst hl HRes HK hcl
        have HC := Lib.hid hcw
        have HE := Lib.hid hres
        clear hcw hres
        go_wp2_with (go_at_call 44; refine (HMk.out _).mono ?_; rintro e w2 ⟨rfl, hb2⟩; have hc2 := (hb2.block _ (lt_of_blk HC.out)).trans HC.out; have HC2 := Lib.hid hc2; have d0 : w2.cell? ⟨w.heap.size, 0, none⟩ = some (.int .u32 0) := cell_of hc2 rfl; have d1 : w2.cell? ⟨w.heap.size, 1, none⟩ = some (.int .i64 0) := cell_of hc2 rfl; have e0 : ∀ o, w2.frozen? ⟨w.heap.size, o, none⟩ = false := fun o => free_of hc2; have HB2 := Lib.hid hb2; clear hb2 hc2)
        have hs := ((SetB.self HC2.out).store (o := 0) (lt_of_blk HC2.out) (.int .u32 (cut a j))).store (o := 1) (lt_of_blk HC2.out) (.int .i64 j)
        rw [← HE.out]
        refine ret_cell3 rfl rfl rfl (hs.at (lt_of_blk HC2.out)) Try.underlying46 rfl (by kernel_rfl) ⟨rfl, (HW.out.trans (HB2.out.mono HW.out.size)).trans (hs.below (Nat.le_refl _))⟩
    | some k =>
      have ht := HT.out.below hbw
      have hkk := (ht.key _ _ _ hN).le
      have nj := kidNoneX ht hN
      obtain ⟨-, -, c2, c3, -⟩ := nodeX ht hN
      have HBit := Lib.hid (bit_any a i HA.out)
      have HW := Lib.hid hbw
      have HSt := Lib.hid (And.intro (fun h => lng_none (z := none) (M := M) (a := a) (i := i) h) (fun x h => lng_some (z := none) (x := x) (M := M) (a := a) (i := i) h))
      generalize hpn : ptr (N (cut a (i + 1)) (i + 1)) = pn at *
      have HPN := Lib.hid hpn
      clear hbw hN ht hpn
      unfold ptr
      simp only [Option.map_some]
      generalize (decide (i < 32) && a.testBit (31 - i)) = c at *
      cases hM : M (cut a i) i with
      | none =>
        have hst := HSt.out.1 hM
        rw [hM] at c2 c3
        simp only [Option.isSome_none] at c3
        have HST := Lib.hid hst
        clear c2 hM hst HSt
        generalize lngX none M a i = x0 at *
        generalize lngN M a i = l0 at *
        cases c
        all_goals
          simp only [Bool.false_eq_true, if_false, if_true] at HBit nj
          go_wp2_with fail
          refine wp_region_quiet_tail (fun w' => w' = wr.drew) 8 (by kernel_rfl) (by kernel_rfl) rfl ?_
          simp only [List.take_succ_cons, List.take_zero, List.drop_succ_cons, List.drop_zero]
          iterate 8 (((with_reducible refine wpQuiet_step (fun K hK => ?_)); go_simp; first | ((with_reducible refine hK _ ?_); clear hK K) | (apply Exists.intro; refine ⟨?_, hK _ ?_⟩; (with_reducible refine (HBit.out _).mono ?_); rintro e w2 ⟨rfl, rfl⟩; exact ⟨rfl, rfl⟩; clear hK K)))
          refine wpQuiet_nil ?_
          rintro _ rfl
          clear HBit nj
          go_wp2_with fail
          go_roundw
          case rel => exact ⟨i + 1, by omega, by go_num, HPN.out.symm, by rw [HST.out.1], by rw [HST.out.2], HW.out.drew⟩
          case measure => simp [intOf]; omega
      | some y =>
        have hst := HSt.out.2 y hM
        rw [hM] at c2 c3
        simp only [Option.isSome_some, Option.getD_some] at c2 c3
        have HST := Lib.hid hst
        clear hM hst HSt
        generalize lngX none M a i = x0 at *
        generalize lngN M a i = l0 at *
        cases c
        all_goals
          simp only [Bool.false_eq_true, if_false, if_true] at HBit nj
          go_wp2_with fail
          refine wp_region_quiet_tail (fun w' => w' = wr.drew) 8 (by kernel_rfl) (by kernel_rfl) rfl ?_
          simp only [List.take_succ_cons, List.take_zero, List.drop_succ_cons, List.drop_zero]
          iterate 8 (((with_reducible refine wpQuiet_step (fun K hK => ?_)); go_simp; first | ((with_reducible refine hK _ ?_); clear hK K) | (apply Exists.intro; refine ⟨?_, hK _ ?_⟩; (with_reducible refine (HBit.out _).mono ?_); rintro e w2 ⟨rfl, rfl⟩; exact ⟨rfl, rfl⟩; clear hK K)))
          refine wpQuiet_nil ?_
          rintro _ rfl
          clear HBit nj
          go_wp2_with fail
          go_roundw
          case rel => exact ⟨i + 1, by omega, by go_num, HPN.out.symm, by rw [HST.out.1], by rw [HST.out.2], HW.out.drew⟩
          case measure => simp [intOf]; omega
end Go.Proofs.Ytcbpdjenncbbeaa
