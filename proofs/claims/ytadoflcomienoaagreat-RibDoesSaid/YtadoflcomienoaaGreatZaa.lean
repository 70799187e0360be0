/- Small facts on memory: a block known whole, and what a store into it leaves. -/
import Derived.WalkKit
import Derived.WalkSpells
import Derived.WalkLawsBesides
import Derived.Deep.QuietTactic
import Derived.BigQuiet
import Derived.Outline
import Derived.Handy
import Derived.Deep.RegionHeld3
import Derived.StillTailTactics
import Derived.Deep.LoopGhost
import Derived.Deep.DeepCutAuto
import Derived.Deep.DeepFit
import Derived.Lib.Hide
import Derived.Laws.Tables
import Derived.Shelf.SlLaysF0
import Derived.Test.YtadoflcomienoaaGreatProg
import Derived.Laws.OwnMore
import Derived.Laws.AppendOwn
import Derived.OwnWalk
import Derived.StillTail
import Derived.Deep.Quiet
import Derived.Below
import Derived.Orders
import Derived.Deep.MidRow
import Derived.Laws.ResultCell
namespace Go.Proofs.YtadoflcomienoaaGreat
open Go.RowKit
/-- a goal at which the walk stops -/
def Halted (p : Prop) : Prop := p
theorem halt {p : Prop} (h : Halted p) : p := h
theorem Halted.go {p : Prop} (h : p) : Halted p := h
theorem ret_int {k : IntKind} {a b : Int} (h : a = b) : Ending.returned (.int k a) = .returned (.int k b) := by rw [h]
theorem ret_bool {a b : Bool} (h : a = b) : Ending.returned (.bool a) = .returned (.bool b) := by rw [h]

theorem cell_of {w : World} {b : Nat} {cs : Array Value} {T : TypeId} {fr : Nat × Nat} {o : Nat} {v : Value} (h : w.heap[b]? = some (.cells cs T fr)) (hv : cs[o]? = some v) : w.cell? ⟨b, o, none⟩ = some v := by
  simp [World.cell?, h, hv]
theorem free_of {w : World} {b : Nat} {cs : Array Value} {T : TypeId} {o : Nat} (h : w.heap[b]? = some (.cells cs T (0, 0))) : w.frozen? ⟨b, o, none⟩ = false := by
  simp [World.frozen?, h]
theorem lt_of_blk {w : World} {b : Nat} {o : Obj} (h : w.heap[b]? = some o) : b < w.heap.size := by
  rcases Nat.lt_or_ge b w.heap.size with h' | h'
  · exact h'
  · rw [Array.getElem?_eq_none h'] at h; cases h

/-- w' is w with block b made o, and some draws. -/
structure SetB (w w' : World) (b : Nat) (o : Obj) : Prop where
  os : w'.os = w.os
  tape : w'.tape = w.tape
  output : w'.output = w.output
  heap : w'.heap = w.heap.setIfInBounds b o
theorem SetB.self {w : World} {b : Nat} {o : Obj} (h : w.heap[b]? = some o) : SetB w w b o := ⟨rfl, rfl, rfl, by
  apply Array.ext_getElem?
  intro i
  rw [Array.getElem?_setIfInBounds]
  split
  · rename_i e; subst e; rw [if_pos (lt_of_blk h), h]
  · rfl⟩
theorem SetB.trans {w w1 w2 : World} {b : Nat} {o o' : Obj} (h : SetB w w1 b o) (k : SetB w1 w2 b o') : SetB w w2 b o' := ⟨k.os.trans h.os, k.tape.trans h.tape, k.output.trans h.output, by
  rw [k.heap, h.heap]
  apply Array.ext_getElem?
  intro i
  simp only [Array.getElem?_setIfInBounds, Array.size_setIfInBounds]
  split <;> simp_all⟩
theorem SetB.drew {w w1 : World} {b : Nat} {o : Obj} (h : SetB w w1 b o) : SetB w w1.drew b o := ⟨h.os, h.tape, h.output, h.heap⟩
theorem SetB.drewN {w w1 : World} {b n : Nat} {o : Obj} (h : SetB w w1 b o) : SetB w (w1.drewN n) b o := ⟨h.os, h.tape, h.output, h.heap⟩
theorem SetB.at {w w1 : World} {b : Nat} {o : Obj} (h : SetB w w1 b o) (hb : b < w.heap.size) : w1.heap[b]? = some o := by
  rw [h.heap]; simp [hb]
theorem SetB.other {w w1 : World} {b k : Nat} {o : Obj} (h : SetB w w1 b o) (hb : k ≠ b) : w1.heap[k]? = w.heap[k]? := by
  rw [h.heap, Array.getElem?_setIfInBounds, if_neg (Ne.symm hb)]
theorem SetB.size {w w1 : World} {b : Nat} {o : Obj} (h : SetB w w1 b o) : w1.heap.size = w.heap.size := by rw [h.heap]; simp
theorem SetB.store {w w1 : World} {b o : Nat} {cs : Array Value} {T : TypeId} {fr : Nat × Nat} (h : SetB w w1 b (.cells cs T fr)) (hb : b < w.heap.size) (v : Value) : SetB w (w1.setCell ⟨b, o, none⟩ v) b (.cells (cs.setIfInBounds o v) T fr) :=
  ⟨h.os, h.tape, h.output, by
    have ha := h.at hb
    apply Array.ext_getElem?
    intro i
    simp only [World.setCell, Array.getElem?_modify, Array.getElem?_setIfInBounds]
    split
    · rename_i e; subst e; simp [ha]
    · rename_i e; rw [h.other (Ne.symm e)]⟩
theorem SetB.below {w w1 : World} {b B : Nat} {o : Obj} (h : SetB w w1 b o) (hB : B ≤ b) : Below B w w1 :=
  ⟨h.os, h.tape, h.output, by rw [h.size]; exact Nat.le_refl _, fun k hk => h.other (by omega)⟩
theorem hnew (w : World) (o : Obj) : (w.alloc o).heap[w.heap.size]? = some o := by
  show (w.heap.push o)[w.heap.size]? = _
  simp
theorem hnewAt {w : World} {o : Obj} {n : Nat} (h : n = w.heap.size) : (w.alloc o).heap[n]? = some o := by rw [h]; exact hnew w o
theorem hold {w : World} {b : Nat} {o : Obj} {x : Obj} (h : w.heap[b]? = some x) : (w.alloc o).heap[b]? = some x := (Below.heap_alloc w o b (lt_of_blk h)).trans h
theorem bdn {B : Nat} {a w : World} (h : Below B a w) (n : Nat) : Below B a (w.drewN n) := ⟨h.os, h.tape, h.output, h.size, h.block⟩
/-- w' is w with new blocks; of the old ones only those of bs may have turned -/
structure But (w w' : World) (bs : List Nat) : Prop where
  os : w'.os = w.os
  tape : w'.tape = w.tape
  output : w'.output = w.output
  size : w.heap.size ≤ w'.heap.size
  block : ∀ k, k < w.heap.size → k ∉ bs → w'.heap[k]? = w.heap[k]?
theorem But.of_below {w w' : World} (h : Below w.heap.size w w') (bs : List Nat) : But w w' bs := ⟨h.os, h.tape, h.output, h.size, fun k hk _ => h.block k hk⟩
theorem But.of_set {w w' : World} {b : Nat} {o : Obj} (h : SetB w w' b o) {bs : List Nat} (hb : b ∈ bs) : But w w' bs := ⟨h.os, h.tape, h.output, by rw [h.size]; exact Nat.le_refl _, fun k _ hk => h.other (fun e => hk (e ▸ hb))⟩
theorem But.trans {a b c : World} {bs : List Nat} (h : But a b bs) (k : But b c bs) : But a c bs :=
  ⟨k.os.trans h.os, k.tape.trans h.tape, k.output.trans h.output, Nat.le_trans h.size k.size, fun i hi hn => (k.block i (Nat.lt_of_lt_of_le hi h.size) hn).trans (h.block i hi hn)⟩
theorem But.refl (w : World) (bs : List Nat) : But w w bs := ⟨rfl, rfl, rfl, Nat.le_refl _, fun _ _ _ => rfl⟩
theorem But.below {w w' : World} {bs : List Nat} (h : But w w' bs) {B : Nat} (hB : B ≤ w.heap.size) (hbs : ∀ b ∈ bs, B ≤ b) : Below B w w' :=
  ⟨h.os, h.tape, h.output, h.size, fun k hk => h.block k (by omega) (fun hm => by have := hbs k hm; omega)⟩

theorem But.alloc {w w' : World} {bs : List Nat} (h : But w w' bs) (o : Obj) : But w (w'.alloc o) bs := h.trans (But.of_below ((Below.refl _ _).alloc (Nat.le_refl _) _) bs)
theorem But.drew {w w' : World} {bs : List Nat} (h : But w w' bs) : But w w'.drew bs := ⟨h.os, h.tape, h.output, h.size, h.block⟩
theorem But.drewN {w w' : World} {bs : List Nat} (h : But w w' bs) (n : Nat) : But w (w'.drewN n) bs := ⟨h.os, h.tape, h.output, h.size, h.block⟩
theorem But.setBlock {w w' : World} {bs : List Nat} (h : But w w' bs) {b : Nat} (hb : w.heap.size ≤ b ∨ b ∈ bs) (o : Obj) : But w (Go.ChangeMaps.setBlock w' b o) bs :=
  ⟨h.os, h.tape, h.output, by simp [Go.ChangeMaps.setBlock]; exact h.size, fun k hk hn => by
    simp only [Go.ChangeMaps.setBlock, Array.getElem?_setIfInBounds]
    rw [if_neg (by rintro rfl; rcases hb with hb | hb; omega; exact hn hb)]
    exact h.block k hk hn⟩
theorem But.setCell {w w' : World} {bs : List Nat} (h : But w w' bs) {a : Addr} (hb : w.heap.size ≤ a.block ∨ a.block ∈ bs) (v : Value) : But w (w'.setCell a v) bs :=
  ⟨h.os, h.tape, h.output, by simp [World.setCell]; exact h.size, fun k hk hn => by
    rw [Below.heap_setCell _ _ _ _ (by rintro rfl; rcases hb with hb | hb; omega; exact hn hb)]
    exact h.block k hk hn⟩

theorem But.mono {w w' : World} {bs cs : List Nat} (h : But w w' bs) (hb : ∀ b ∈ bs, b ∈ cs) : But w w' cs := ⟨h.os, h.tape, h.output, h.size, fun k hk hn => h.block k hk (fun hm => hn (hb k hm))⟩
theorem setCell_blk {w : World} {b : Nat} {cs : Array Value} {T : TypeId} {fr : Nat × Nat} (h : w.heap[b]? = some (.cells cs T fr)) (o : Nat) (v : Value) : (w.setCell ⟨b, o, none⟩ v).heap[b]? = some (.cells (cs.setIfInBounds o v) T fr) := by
  simp [World.setCell, Array.getElem?_modify, h]
theorem Below.step {B : Nat} {w w1 w2 : World} {bs : List Nat} (h : Below B w w1) (hB : B ≤ w1.heap.size) (k : But w1 w2 bs) (hbs : ∀ b ∈ bs, B ≤ b) : Below B w w2 := h.trans (k.below hB hbs)

theorem cell_hold {w : World} {a : Addr} {v : Value} (h : w.cell? a = some v) (o : Obj) : (w.alloc o).cell? a = some v := (World.cell?_alloc_some w a o (by rw [h]; rfl)).trans h
end Go.Proofs.YtadoflcomienoaaGreat
/- Slices of things that lie in several cells: read from anywhere (Sl), owned by the call (Own); append of one. -/
namespace Go.Proofs.YtadoflcomienoaaGreat
open Go.RowKit

/-- how values of a Lean type lie in cells -/
structure Rep (α : Type) [Inhabited α] where
  T : TypeId
  k : Nat
  pos : 0 < k
  cells : α → List Value
  len : ∀ x, (cells x).length = k
  one : ∀ x, (cells x).all (·.oneCell') = true
namespace Rep
variable {α : Type} [Inhabited α] (R : Rep α)
def flat (L : List α) : List Value := L.flatMap R.cells
theorem flat_length (L : List α) : (R.flat L).length = L.length * R.k := by
  induction L with
  | nil => simp [flat]
  | cons c r ih => simp only [flat, List.flatMap_cons, List.length_append, R.len, List.length_cons, Nat.succ_mul] at *; omega
theorem flat_append (L M : List α) : R.flat (L ++ M) = R.flat L ++ R.flat M := by simp [flat]
theorem flat_one (x : α) : R.flat [x] = R.cells x := by simp [flat]
theorem mul_lt {i n k j : Nat} (hi : i < n) (hj : j < k) : i * k + j < n * k := by
  have : (i + 1) * k ≤ n * k := Nat.mul_le_mul_right k hi
  rw [Nat.succ_mul] at this; omega
theorem flat_get (L : List α) (i j : Nat) (hi : i < L.length) (hj : j < R.k) : (R.flat L)[i * R.k + j]? = (R.cells (L.getD i default))[j]? := by
  induction L generalizing i with
  | nil => simp at hi
  | cons c r ih =>
    unfold flat at *
    rw [List.flatMap_cons]
    cases i with
    | zero =>
      rw [List.getElem?_append_left (by rw [R.len]; omega)]
      simp
    | succ i =>
      rw [List.getElem?_append_right (by rw [R.len, Nat.succ_mul]; omega), R.len]
      have := ih i (by simpa using hi)
      rw [show (i + 1) * R.k + j - R.k = i * R.k + j by rw [Nat.succ_mul]; omega, this]
      simp
theorem flat_cell1 (L : List α) (u : Value) (hu : u ∈ R.flat L) : u.oneCell' = true := by
  obtain ⟨x, _, hx⟩ := List.mem_flatMap.1 hu
  exact List.all_eq_true.1 (R.one x) u hx

/-- the cells of one thing at a place -/
def At (w : World) (b o : Nat) (x : α) : Prop := ∀ j, j < R.k → w.cell? ⟨b, o + j, none⟩ = (R.cells x)[j]?
/-- the list of things that lie from a place on -/
structure Row (w : World) (b o : Nat) (L : List α) : Prop where
  lt : b < w.heap.size
  get : ∀ i, i < L.length → R.At w b (o + i * R.k) (L.getD i default)
/-- a slice reads as a list -/
structure Sl (w : World) (a : Option Addr) (n c : Nat) (L : List α) : Prop where
  len : n = L.length
  max : n ≤ maxLen
  row : 0 < n → ∃ b o, a = some ⟨b, o, none⟩ ∧ R.Row w b o L
def Own (w : World) (base : Nat) (v : Value) (L : List α) : Prop := w.ownsRow base R.T R.k v L.length (R.flat L)

variable {R}
theorem At.keep {w w' : World} {b o : Nat} {x : α} (h : R.At w b o x) (e : w'.heap[b]? = w.heap[b]?) : R.At w' b o x := fun j hj => (World.cell?_of_block (a := ⟨b, o + j, none⟩) e).trans (h j hj)
theorem Row.below {w w' : World} {b o : Nat} {L : List α} (h : R.Row w b o L) (hb : Below w.heap.size w w') : R.Row w' b o L :=
  ⟨Nat.lt_of_lt_of_le h.lt hb.size, fun i hi => (h.get i hi).keep (hb.block b h.lt)⟩
theorem Row.keep {w w' : World} {b o : Nat} {L : List α} (h : R.Row w b o L) (e : w'.heap[b]? = w.heap[b]?) : R.Row w' b o L :=
  ⟨(by
      rcases Nat.lt_or_ge b w'.heap.size with h' | h'
      · exact h'
      · rw [Array.getElem?_eq_none h', Array.getElem?_eq_getElem h.lt] at e; cases e), fun i hi => (h.get i hi).keep e⟩
theorem Row.drop {w : World} {b o : Nat} {L : List α} (h : R.Row w b o L) (k : Nat) : R.Row w b (o + k * R.k) (L.drop k) := by
  refine ⟨h.lt, fun i hi => ?_⟩
  simp at hi
  have := h.get (k + i) (by omega)
  rw [show o + k * R.k + i * R.k = o + (k + i) * R.k by rw [Nat.add_mul]; omega]
  have e : (L.drop k).getD i default = L.getD (k + i) default := by simp [List.getD_eq_getElem?_getD]
  rw [e]; exact this
theorem Row.take {w : World} {b o : Nat} {L : List α} (h : R.Row w b o L) (k : Nat) : R.Row w b o (L.take k) := by
  refine ⟨h.lt, fun i hi => ?_⟩
  simp at hi
  have hk : i < k := by omega
  have e : (L.take k).getD i default = L.getD i default := by simp [List.getD_eq_getElem?_getD, hk]
  rw [e]; exact h.get i (by omega)
theorem Sl.keep {w w' : World} {a : Option Addr} {n c : Nat} {L : List α} (h : R.Sl w a n c L) (hb : Below w.heap.size w w') : R.Sl w' a n c L :=
  ⟨h.len, h.max, fun hn => let ⟨b, o, e, r⟩ := h.row hn; ⟨b, o, e, r.below hb⟩⟩
theorem Sl.at {w : World} {a : Option Addr} {n c : Nat} {L : List α} (h : R.Sl w a n c L) {i : Nat} (hi : i < n) : ∃ b o, a = some ⟨b, o, none⟩ ∧ b < w.heap.size ∧ R.At w b (o + i * R.k) (L.getD i default) := by
  obtain ⟨b, o, e, r⟩ := h.row (by omega)
  exact ⟨b, o, e, r.lt, r.get i (by rw [← h.len]; exact hi)⟩
theorem Own.nil (w : World) (base : Nat) : R.Own w base (.slice none 0 0) [] := World.ownsRow_nil _ _ _ _
theorem Own.alloc {w : World} {base : Nat} {v : Value} {L : List α} (h : R.Own w base v L) (o : Obj) : R.Own (w.alloc o) base v L := World.ownsRow.alloc h o
theorem Own.drew {w : World} {base : Nat} {v : Value} {L : List α} (h : R.Own w base v L) : R.Own w.drew base v L := h
theorem Own.below {w w' : World} {base : Nat} {v : Value} {L : List α} (h : R.Own w base v L) (hb : Below w.heap.size w w') : R.Own w' base v L := by
  refine ⟨h.1, ?_⟩
  rcases h.2 with h2 | ⟨g, cap, cur, hv, hg, hh, h3⟩
  · exact .inl h2
  · exact .inr ⟨g, cap, cur, hv, hg, (hb.block g (lt_of_blk hh)).trans hh, h3⟩
theorem Own.keep {w w' : World} {base : Nat} {v : Value} {L : List α} (h : R.Own w base v L) (hb : ∀ b, v.ownBlock = some b → w'.heap[b]? = w.heap[b]?) : R.Own w' base v L := by
  refine ⟨h.1, ?_⟩
  rcases h.2 with h2 | ⟨g, cap, cur, hv, hg, hh, h3⟩
  · exact .inl h2
  · exact .inr ⟨g, cap, cur, hv, hg, (hb g (by rw [hv]; rfl)).trans hh, h3⟩
theorem Own.mono {w : World} {base base' : Nat} {v : Value} {L : List α} (h : R.Own w base v L) (hb : base' ≤ base) : R.Own w base' v L := by
  refine ⟨h.1, ?_⟩
  rcases h.2 with h2 | ⟨g, cap, cur, hv, hg, h3⟩
  · exact .inl h2
  · exact .inr ⟨g, cap, cur, hv, by omega, h3⟩
/-- what an owned slice is -/
theorem Own.cases {w : World} {base : Nat} {v : Value} {L : List α} (h : R.Own w base v L) : (v = .slice none 0 0 ∧ L = []) ∨ ∃ g cap, v = .slice (some ⟨g, 0, none⟩) L.length cap ∧ base ≤ g ∧ g < w.heap.size ∧ L.length ≤ cap ∧ cap ≤ maxLen ∧ R.Row w g 0 L ∧ (∀ o, w.frozen? ⟨g, o, none⟩ = false) ∧ ∃ cur, w.heap[g]? = some (.cells cur R.T (0, 0)) ∧ cur.size = cap * R.k := by
  obtain ⟨h1, h2⟩ := h
  rcases h2 with ⟨h2, h3⟩ | ⟨g, cap, cur, hv, hg, hh, h3, h4, h5, h6⟩
  · exact .inl ⟨h2, List.length_eq_zero_iff.1 h3⟩
  · refine .inr ⟨g, cap, hv, hg, lt_of_blk hh, h3, h4, ⟨lt_of_blk hh, fun i hi j hj => ?_⟩, fun o => free_of hh, cur, hh, h5⟩
    rw [Nat.zero_add, ← R.flat_get L i j hi hj, ← h6]
    have hlt := mul_lt hi hj
    simp [World.cell?, hh, hlt]
/-- an owned slice reads -/
theorem Own.sl {w : World} {base : Nat} {v : Value} {L : List α} (h : R.Own w base v L) : ∃ a c, v = .slice a L.length c ∧ L.length ≤ c ∧ c ≤ maxLen ∧ R.Sl w a L.length c L ∧ (∀ b o, a = some ⟨b, o, none⟩ → base ≤ b) := by
  rcases h.cases with ⟨rfl, rfl⟩ | ⟨g, cap, rfl, hg, hl, h1, h2, hr, -⟩
  · exact ⟨none, 0, rfl, by simp, by unfold maxLen; omega, ⟨rfl, by unfold maxLen; simp, fun h => absurd h (by simp)⟩, by simp⟩
  · exact ⟨some ⟨g, 0, none⟩, cap, rfl, h1, h2, ⟨rfl, by omega, fun _ => ⟨g, 0, rfl, hr⟩⟩, fun b o e => by injection e with e; injection e with e1 _ _; omega⟩

/-- a slice type, its elements -/
structure Ty (P : Program) (t : TypeId) (R : Rep α) (bytes : Nat) : Prop where
  ht : P.underlying t = some (.slice R.T)
  hi : ∃ i z, P.info? R.T = some i ∧ i.zero = some z ∧ i.size = R.k ∧ i.bytes = bytes ∧ z.cells.size = R.k
theorem Ty.mk' {P : Program} {t : TypeId} {R : Rep α} {bytes : Nat} {z : Value} (ht : P.underlying t = some (.slice R.T)) (hi : (P.info? R.T).map (fun i => (i.zero, i.size, i.bytes)) = some (some z, R.k, bytes)) (hz : z.cells.size = R.k) : Ty P t R bytes := by
  obtain ⟨i, h1, h2, h3, h4⟩ := info_parts hi
  exact ⟨ht, i, z, h1, h2, h3, h4, hz⟩

variable {P : Program} {ops : Array Oper} {rest : List Oper} {o : Oper} {a : Act} {Q : Exit → Act → World → Prop} {w : World}
/-- append(v, x): x lies in a new block of its own -/
theorem append_one {t : TypeId} {bytes : Nat} (hT : Ty P t R bytes) (hgd : o.guard = none) (s x : Operand) (ho : o.op = .call { callee := .builtin .append, args := #[s, x], argTypes := #[t, t] })
    {base : Nat} {v : Value} {L : List α} {n : Nat} (hs : a.eval s = v) (hown : R.Own w base v L) (y : α) (b c : Nat) {T' : TypeId} {fr : Nat × Nat} (hx : a.eval x = .slice (some ⟨b, 0, none⟩) 1 c)
    (hb : w.heap[b]? = some (.cells (R.cells y).toArray T' fr)) (hn : L.length = n) (hmax : n + 1 ≤ maxLen) (hbytes : (n + 1) * bytes ≤ 140737488355328) (hbase : base ≤ w.heap.size)
    (h : ∀ v' w', R.Own w' base v' (L ++ [y]) → Below base w w' → w.grownBy w' v.ownBlock → wpList P ops Q rest (a.put o.dst v') w') : wpList P ops Q (o :: rest) a w := by
  subst hn
  obtain ⟨i, z, h1, h2, h3, h4, h5⟩ := hT.hi
  refine wpList_append_own w hgd s x t ho base R.T i z R.k bytes hT.ht h1 h2 h3 h4 h5 R.pos v L.length (R.flat L) hs hown ⟨b, 0, none⟩ 1 c (R.cells y) hx (by rw [R.len, Nat.one_mul]) ?_ ?_ hmax hbytes hbase ?_
  · intro j u hu
    have : (⟨b, 0, none⟩ : Addr).add j = ⟨b, j, none⟩ := by unfold Addr.add; split <;> simp_all
    rw [this]
    exact cell_of hb (by simpa using hu)
  · intro u hu; exact List.all_eq_true.1 (R.one y) u hu
  · intro v' w' hown' hg _
    refine h v' w' ?_ ?_ hg
    · show World.ownsRow w' base R.T R.k v' (L ++ [y]).length (R.flat (L ++ [y]))
      rw [R.flat_append, R.flat_one, List.length_append]
      exact hown'
    · exact (Below.refl base w).grown hg hbase (fun k hk => by
        rcases hown.2 with ⟨h2, _⟩ | ⟨g, cap, cur, hv, hg, _⟩
        · rw [h2] at hk; cases hk
        · rw [hv] at hk; injection hk with hk; dsimp only at hk; omega)
end Rep
end Go.Proofs.YtadoflcomienoaaGreat
/- append of a list, clear, on slices of things. -/
namespace Go.Proofs.YtadoflcomienoaaGreat
open Go.RowKit
namespace Rep
variable {α : Type} [Inhabited α] {R : Rep α}

theorem Own.but {w w' : World} {base : Nat} {v : Value} {L : List α} (h : R.Own w base v L) {bs : List Nat} (hb : But w w' bs) (hbs : ∀ b ∈ bs, b < base) : R.Own w' base v L :=
  h.keep fun b e => by
    obtain ⟨h1, h2⟩ := World.ownsRow.lt h b e
    exact hb.block b h2 (fun hm => by have := hbs b hm; omega)
theorem But.step {a b c : World} {bs : List Nat} {B : Nat} (h : But a b bs) (k : Below B b c) (hB : a.heap.size ≤ B) : But a c bs :=
  ⟨k.os.trans h.os, k.tape.trans h.tape, k.output.trans h.output, Nat.le_trans h.size k.size, fun i hi hn => (k.block i (by omega)).trans (h.block i hi hn)⟩
theorem news_of_row {w : World} {b o : Nat} {L : List α} (h : R.Row w b o L) : ∀ j u, (R.flat L)[j]? = some u → w.cell? ((⟨b, o, none⟩ : Addr).add j) = some u := by
  intro j u hu
  have hadd : (⟨b, o, none⟩ : Addr).add j = ⟨b, o + j, none⟩ := by unfold Addr.add; split <;> simp_all
  have hlt : j < L.length * R.k := by
    rw [← R.flat_length]
    rcases Nat.lt_or_ge j (R.flat L).length with h' | h'
    · exact h'
    · rw [List.getElem?_eq_none h'] at hu; cases hu
  have hk := R.pos
  have hi : j / R.k < L.length := Nat.div_lt_of_lt_mul (by rw [Nat.mul_comm]; exact hlt)
  have hj : j % R.k < R.k := Nat.mod_lt _ hk
  have he : j / R.k * R.k + j % R.k = j := by rw [Nat.mul_comm]; exact Nat.div_add_mod j R.k
  have := h.get _ hi _ hj
  rw [Nat.add_assoc, he, ← R.flat_get L _ _ hi hj, he, hu] at this
  rw [hadd]; exact this

variable {P : Program} {ops : Array Oper} {rest : List Oper} {o : Oper} {a : Act} {Q : Exit → Act → World → Prop} {w : World}
/-- append(v, l...) -/
theorem run_append_list {t ty : TypeId} {bytes : Nat} (hT : Ty P t R bytes) {base : Nat} {v : Value} {L : List α} (hown : R.Own w base v L) {sa : Option Addr} {m c : Nat} {M : List α} (hM : R.Sl w sa m c M) (hc : sa = none → c = 0)
    (hmax : L.length + m ≤ maxLen) (hbytes : (L.length + m) * bytes ≤ 140737488355328) (hbase : base ≤ w.heap.size) :
    ∃ v' w', (Builtin.append_ #[t, t] ty #[v, .slice sa m c]).run P w = .ok v' w' ∧ R.Own w' base v' (L ++ M) ∧ Below base w w' ∧ w.grownBy w' v.ownBlock := by
  obtain ⟨i, z, h1, h2, h3, h4, h5⟩ := hT.hi
  cases sa with
  | none =>
    obtain rfl := hc rfl
    have hm : m = 0 := by
      rcases Nat.eq_zero_or_pos m with h0 | h0
      · exact h0
      · obtain ⟨b, o, e, _⟩ := hM.row h0; cases e
    subst hm
    have hMe : M = [] := List.length_eq_zero_iff.1 hM.len.symm
    subst hMe
    refine ⟨v, w, run_append_owned_none (w := w) base t ty R.T i R.k hT.ht h1 v L.length (R.flat L) hown, ?_, Below.refl _ _, World.grownBy.refl _ _⟩
    rw [List.append_nil]; exact hown
  | some ad =>
    have hnews : ∀ j u, (R.flat M)[j]? = some u → w.cell? (ad.add j) = some u := by
      rcases Nat.eq_zero_or_pos m with h0 | h0
      · have hMe : M = [] := List.length_eq_zero_iff.1 (hM.len.symm.trans h0)
        subst hMe; intro j u hu; simp [flat] at hu
      · obtain ⟨b, o, e, hr⟩ := hM.row h0
        cases e
        exact news_of_row hr
    obtain ⟨v', w', e1, e2, e3, _⟩ := run_append_own (P := P) (w := w) base t ty R.T i z R.k bytes hT.ht h1 h2 h3 h4 h5 R.pos v L.length (R.flat L) hown ad m c (R.flat M) (by rw [R.flat_length, ← hM.len]) hnews (fun u hu => R.flat_cell1 M u hu) hmax hbytes hbase
    refine ⟨v', w', e1, ?_, ?_, e3⟩
    · show World.ownsRow w' base R.T R.k v' (L ++ M).length (R.flat (L ++ M))
      rw [R.flat_append, List.length_append, ← hM.len]
      exact e2
    · exact (Below.refl base w).grown e3 hbase (fun k hk => by
        rcases hown.2 with ⟨h2, _⟩ | ⟨g, cap, cur, hv, hg, _⟩
        · rw [h2] at hk; cases hk
        · rw [hv] at hk; injection hk with hk; dsimp only at hk; omega)
theorem append_list {t : TypeId} {bytes : Nat} (hT : Ty P t R bytes) (hgd : o.guard = none) (s x : Operand) (ho : o.op = .call { callee := .builtin .append, args := #[s, x], argTypes := #[t, t] })
    {base : Nat} {v : Value} {L : List α} (hs : a.eval s = v) (hown : R.Own w base v L) {sa : Option Addr} {m c : Nat} {M : List α} (hx : a.eval x = .slice sa m c) (hM : R.Sl w sa m c M) (hc : sa = none → c = 0)
    (hmax : L.length + m ≤ maxLen) (hbytes : (L.length + m) * bytes ≤ 140737488355328) (hbase : base ≤ w.heap.size)
    (h : ∀ v' w', R.Own w' base v' (L ++ M) → Below base w w' → w.grownBy w' v.ownBlock → wpList P ops Q rest (a.put o.dst v') w') : wpList P ops Q (o :: rest) a w :=
  wpList_plain hgd fun K hK => by
    obtain ⟨v', w', e1, e2, e3, e4⟩ := run_append_list hT hown hM hc hmax hbytes hbase (ty := o.type)
    have hk := hK _ _ (h v' w' e2 e3 e4)
    unfold Oper.wp execOp
    simp only [ho, resolve, invoke, builtin, Sem.run_bind, Sem.run_pure, Result.andThen_ok, List.map_toArray, List.map_cons, List.map_nil, hs, hx, e1]
    exact hk

/-- storing cells from a place on -/
theorem run_storeCells' {P : Program} (b o : Nat) (T : TypeId) : ∀ (vs : List Value) (i : Nat) (w : World) (cur : Array Value), w.heap[b]? = some (.cells cur T (0, 0)) → (∀ v ∈ vs, v.oneCell' = true) → o + i + vs.length ≤ cur.size →
    ∃ w' cur', (storeCells ⟨b, o, none⟩ vs i).run P w = .ok () w' ∧ w'.heap[b]? = some (.cells cur' T (0, 0)) ∧ cur'.size = cur.size ∧ (∀ q, cur'[q]? = if o + i ≤ q ∧ q < o + i + vs.length then vs[q - (o + i)]? else cur[q]?) ∧ SetB w w' b (.cells cur' T (0, 0))
  | [], i, w, cur, h, _, _ => ⟨w, cur, rfl, h, rfl, fun q => by rw [if_neg (by simp)], SetB.self h⟩
  | v :: r, i, w, cur, h, h1, hs => by
    have hlt : o + i < cur.size := by simp at hs; omega
    have hc : w.cell? ⟨b, o + i, none⟩ = some cur[o + i] := cell_of h (by simp [hlt])
    have hf : w.frozen? ⟨b, o + i, none⟩ = false := free_of h
    have ha : (Addr.add ⟨b, o, none⟩ i) = ⟨b, o + i, none⟩ := by unfold Addr.add; split <;> simp_all
    obtain ⟨w', cur', e1, e2, e3, e4, e5⟩ := run_storeCells' b o T r (i + 1) (w.setCell ⟨b, o + i, none⟩ v) (cur.setIfInBounds (o + i) v) (setCell_blk h _ _) (fun u hu => h1 u (List.mem_cons_of_mem _ hu)) (by simp at hs ⊢; omega)
    refine ⟨w', cur', ?_, e2, by simpa using e3, fun q => ?_, ((SetB.self h).store (lt_of_blk h) v).trans e5⟩
    · unfold storeCells
      simp only [Sem.run_bind, ha, run_store P w _ v .plain (h1 v (by simp)), hc, hf, Bool.false_eq_true, if_false, Result.andThen]
      exact e1
    · rw [e4 q, Array.getElem?_setIfInBounds]
      simp only [List.length_cons]
      by_cases hq : o + i = q
      · subst hq
        rw [if_neg (by omega), if_pos rfl, if_pos hlt, if_pos (by omega)]
        simp
      · by_cases h4 : o + (i + 1) ≤ q ∧ q < o + (i + 1) + r.length
        · rw [if_pos h4, if_pos (by omega)]
          rw [show q - (o + i) = (q - (o + (i + 1))) + 1 by omega, List.getElem?_cons_succ]
        · rw [if_neg h4, if_neg hq, if_neg (by omega)]
end Rep
end Go.Proofs.YtadoflcomienoaaGreat
/- A region that draws its order: a head that only reads or calls what leaves the world in a class, and a tail in a forced order: one walk, in the order of the text. -/
namespace Go.Proofs.YtadoflcomienoaaGreat
open Go Go.RowKit

section
variable {P : Program} {ops : Array Oper} {md : Region.Mode} {C : World → Prop}

/-- so many more operations come up, all of the head, each quiet; then L -/
def headQ (P : Program) (md : Region.Mode) (ops : Array Oper) (C : World → Prop) (n : Nat) (L : Array Bool → Act → Prop) : Nat → Array Bool → Act → Prop
  | 0, listed, a => L listed a
  | f + 1, listed, a => Region.ready md ops listed ≠ [] ∧ ∀ i ∈ Region.ready md ops listed, i < n ∧ qOp P ops C i (headQ P md ops C n L f (listed.setIfInBounds i true)) a

theorem any_of_headQ {n g : Nat} {L : Array Bool → Act → Prop} {Q' : Exit → Act → World → Prop} (hL : ∀ listed a w, C w → L listed a → wpAny P md ops Q' g listed a w) (f : Nat) :
    ∀ (listed : Array Bool) (a : Act) (w : World), C w → headQ P md ops C n L f listed a → wpAny P md ops Q' (f + g) listed a w := by
  induction f with
  | zero => intro listed a w hw h; rw [Nat.zero_add]; exact hL _ _ _ hw h
  | succ f ih =>
    intro listed a w hw h
    rw [Nat.succ_add]
    exact ⟨fun h0 => absurd h0 h.1, fun i hi => wpOp_of_qOp hw (fun a' w' hw' h' => ih _ a' w' hw' h') (h.2 i hi).2⟩

/-- what may come up now, and yields the same in every world of the class, may be taken first -/
theorem headQ_first {n i : Nat} {oi : Oper} {v : Value} {L : Array Bool → Act → Prop} (hi : ops[i]? = some oi) (hsel : ∀ (j : Nat) (o : Oper) cs b, ops[j]? = some o → o.op ≠ .select cs b)
    (hs : Region.sinkB md ops n = true) (hc : Region.chainB md ops n = true) (hn : n < ops.size) (hin : i < n) (hdone : ∀ listed a, L listed a → ∀ j ∈ Region.ready md ops listed, n ≤ j) (f : Nat) :
    ∀ (listed : Array Bool) (a : Act), HeadInv md ops n listed →
      (∀ j oj, ops[j]? = some oj → j ≠ i → listed.getD j true = false → (∀ e ∈ oj.after, Region.binds md e = true → e.on ≠ i) → oi.apart ops oj = true) →
      i ∈ Region.ready md ops listed → YieldsIn P ops C oi v a → headQ P md ops C n L f (listed.setIfInBounds i true) (a.put oi.dst v) → headQ P md ops C n L (f + 1) listed a := by
  induction f with
  | zero =>
    intro listed a inv _ hr hy H
    have hun := (mem_ready.1 hr).1
    refine ⟨fun h => (by rw [h] at hr; cases hr), fun j hj => ?_⟩
    have hjn : j < n := Nat.lt_of_not_le fun h => tail_waits hs hc hn inv _ i rfl hin hun j h hj
    refine ⟨hjn, ?_⟩
    by_cases hji : j = i
    · subst hji; exact hy.qOp hi H
    · exact absurd (hdone _ _ H j (ready_mono hj hji)) (by omega)
  | succ f ih =>
    intro listed a inv hfree hr hy H
    have hun := (mem_ready.1 hr).1
    refine ⟨fun h => (by rw [h] at hr; cases hr), fun j hj => ?_⟩
    have hjn : j < n := Nat.lt_of_not_le fun h => tail_waits hs hc hn inv _ i rfl hin hun j h hj
    refine ⟨hjn, ?_⟩
    by_cases hji : j = i
    · subst hji; exact hy.qOp hi H
    obtain ⟨hjun, oj, hoj, hall⟩ := mem_ready.1 hj
    have hnot : ∀ e ∈ oj.after, Region.binds md e = true → e.on ≠ i := by
      intro e he hb heq
      have h1 := hall e he hb
      rw [heq, getD_both hun] at h1
      cases h1
    have h2 := qOp_put hoj (hfree j oj hoj hji hjun hnot) (fun cs b => hsel i oi cs b hi) (fun cs b => hsel j oj cs b hoj) hy (H.2 j (ready_mono hj hji)).2
    refine qOp_mono (fun a' h3 => ih (listed.setIfInBounds j true) a' (inv.set hj hjn) ?_ (ready_mono hr (Ne.symm hji)) h3.1 ?_) h2
    · intro k ok hk hki hun' hno
      refine hfree k ok hk hki ?_ hno
      by_cases hjk : j = k
      · subst hjk; exact hjun
      · rw [getD_set_ne true hjk] at hun'; exact hun'
    · rw [Array.setIfInBounds_comm _ _ hji]; exact h3.2

theorem headQ_lex {n g : Nat} {Lq : Act → Prop} (hsel : Region.noSelect ops = true) (hs : Region.sinkB md ops n = true) (hc : Region.chainB md ops n = true) (hn : n < ops.size) (l : List Oper) :
    ∀ (k : Nat) (listed : Array Bool) (a : Act), (∀ j, j < l.length → l[j]? = ops[k + j]?) → k + l.length = n → HeadInv md ops n listed →
    Region.lexHead md ops g l.length k listed = true → wpQuiet P ops C Lq l a → headQ P md ops C n (fun listed' a' => Region.seqB md ops g n listed' = true ∧ Lq a') l.length listed a := by
  induction l with
  | nil =>
    intro k listed a _ hk _ hB h
    have : k = n := by simpa using hk
    subst this
    exact ⟨by simpa [Region.lexHead] using hB, h⟩
  | cons o l ih =>
    intro k listed a hl hk inv hB h
    have h0 : ops[k]? = some o := by simpa using (hl 0 (by simp)).symm
    simp only [List.length_cons, Region.lexHead, Bool.and_eq_true] at hB
    obtain ⟨⟨hr, hf⟩, hB'⟩ := hB
    simp only [List.length_cons] at hk
    have hr' : k ∈ Region.ready md ops listed := by simpa using hr
    have hq : qOp P ops C k (wpQuiet P ops C Lq l) a := by unfold qOp; simp only [h0]; exact h
    obtain ⟨v, hy, hK⟩ := yieldsIn_of_qOp h0 hq
    refine headQ_first h0 (Region.noSelect_spec hsel) hs hc hn (by omega) (fun listed' a' hL => seqB_ready hL.1) l.length listed a inv (Region.free_spec h0 hf) hr' hy ?_
    refine ih (k + 1) _ _ (fun j hj => ?_) (by omega) (inv.set hr' (by omega)) hB' hK
    have := hl (j + 1) (by simp; omega)
    simpa [Nat.add_assoc, Nat.add_comm 1 j] using this

/-- the region: n operations of the head, in whatever order; then the rest -/
theorem wp_region_quiet_tail {id : Nat} {Q : Exit → Act → World → Prop} {a : Act} {w : World} {l : List Oper} (C : World → Prop) (n : Nat) (hm : P.follows .mixedOrders = true) (hB : Region.lexTailB .any l.toArray n = true) (hC : C w.drew)
    (h : wpQuiet P l.toArray C (fun a' => ∀ w', C w' → wpList P l.toArray Q (l.drop n) a' w') (l.take n) a) : (Code.region id l.toArray true).wp P Q a w := by
  simp only [Region.lexTailB, Bool.and_eq_true, decide_eq_true_eq] at hB
  obtain ⟨⟨⟨⟨hsel, hn⟩, hs⟩, hc⟩, hlex⟩ := hB
  have hn' : n < l.length := by simpa using hn
  have htl : (l.take n).length = n := by simp; omega
  have hdl : (l.drop n).length = l.toArray.size - n := by simp
  have inv0 : HeadInv .any l.toArray n (Array.replicate l.toArray.size false) :=
    ⟨by simp, fun j oj _ hl => (by rw [getD_replicate_false] at hl; cases hl), fun t _ ht => getD_in (by simpa using ht) (getD_replicate_false _ _)⟩
  have H := headQ_lex (md := .any) (g := l.toArray.size - n) hsel hs hc hn (l.take n) 0 _ a (fun j hj => by
    have hj' : j < n := by rw [htl] at hj; exact hj
    simp [hj']) (by simpa using htl) inv0 (by rw [htl]; exact hlex) h
  refine wp_region_any hm ?_
  have := any_of_headQ (Q' := Q) (g := l.toArray.size - n) (fun listed a' w' hw' hL => by
    have := wpAny_of_seq (md := .any) (Q' := Q) (l.drop n) n listed a' w' (fun j => by simp [List.getElem?_drop]) (by rw [hdl]; exact hL.1) (hL.2 w' hw')
    rwa [hdl] at this) _ _ _ _ hC H
  rw [htl, show n + (l.toArray.size - n) = l.toArray.size by omega] at this
  exact this
end
end Go.Proofs.YtadoflcomienoaaGreat
/- A region that draws its order: what only computes may be taken first; the rest comes up one by one. -/
namespace Go.Proofs.YtadoflcomienoaaGreat
open Go Go.RowKit

section
variable {P : Program} {ops : Array Oper} {md : Region.Mode}

/-- operations that yield the same in every world, one behind the other; then L -/
def wpPure (P : Program) (ops : Array Oper) (L : Act → Prop) : List Oper → Act → Prop
  | [], a => L a
  | o :: rest, a => if Region.wanted o (yielded ops a.tmps) = true then ∃ v, (∀ w, (execOp a.eval o).run P w = .ok (.value v) w) ∧ wpPure P ops L rest (a.put o.dst v) else wpPure P ops L rest (a.put o.dst undef)
theorem wpPure_nil {L : Act → Prop} {a : Act} (h : L a) : wpPure P ops L [] a := h
theorem wpPure_step {L : Act → Prop} {a : Act} {o : Oper} {rest : List Oper}
    (h : ∀ K : Act → Prop, (∀ a, wpPure P ops L rest a → K a) → if Region.wanted o (yielded ops a.tmps) = true then ∃ v, (∀ w, (execOp a.eval o).run P w = .ok (.value v) w) ∧ K (a.put o.dst v) else K (a.put o.dst undef)) : wpPure P ops L (o :: rest) a :=
  h _ (fun _ h => h)

def pick (l : List Oper) : List Nat → List Oper
  | [] => []
  | i :: r => l.getD i default :: pick l r
theorem ready_lt {listed : Array Bool} {i : Nat} (h : i ∈ Region.ready md ops listed) : ∃ o, ops[i]? = some o := by
  obtain ⟨_, o, ho, _⟩ := mem_ready.1 h
  exact ⟨o, ho⟩
end
end Go.Proofs.YtadoflcomienoaaGreat
/- A struct stored whole into, loaded whole out of, a block of its own; a result that lies in a cell. -/
namespace Go.Proofs.YtadoflcomienoaaGreat
open Go.RowKit

section
variable {P : Program} {ops : Array Oper} {rest : List Oper} {o : Oper} {a : Act} {Q : Exit → Act → World → Prop} {w : World}
theorem run_store_whole {ty T : TypeId} {b : Nat} {cur cells : Array Value} (hb : w.heap[b]? = some (.cells cur T (0, 0))) (hs : cur.size = cells.size) (hi : (P.info? ty).map (·.size) = some cells.size) (h1 : cells.all (·.oneCell') = true) :
    ∃ w1, (Instr.storeAt ty (.pointer (some ⟨b, 0, none⟩)) (.agg cells)).run P w = .ok () w1 ∧ w1.heap[b]? = some (.cells cells T (0, 0)) ∧ SetB w w1 b (.cells cells T (0, 0)) := by
  obtain ⟨w1, cur', e1, e2, e3, e4, e5⟩ := Rep.run_storeCells' (P := P) b 0 T cells.toList 0 w cur hb (fun v hv => (Array.all_eq_true_iff_forall_mem.1 h1) v (by simpa using hv)) (by simp; omega)
  have hc : cur' = cells := by
    apply Array.ext_getElem?
    intro q
    rw [e4 q]
    simp only [Nat.add_zero, Nat.zero_add, Nat.zero_le, true_and, Nat.sub_zero, Array.length_toList]
    split
    · simp
    · rw [Array.getElem?_eq_none (by omega), Array.getElem?_eq_none (by omega)]
  subst hc
  refine ⟨w1, ?_, e2, e5⟩
  cases hq : P.info? ty with
  | none => simp [hq] at hi
  | some i =>
    have hs : cur'.size = i.size := by simp [hq] at hi; omega
    simp only [Instr.storeAt, Instr.sureAddr, Sem.run_bind, Sem.run_pure, Result.andThen_ok]
    simp [storeVar, sizeOf, typeInfo, hq, Value.cells, hs, e1]
/-- the walk stops ahead of a store of such a type -/
theorem halt_store (ty : TypeId) {x y : Operand} (_ho : o.op = .store ty x y) (h : Halted (wpList P ops Q (o :: rest) a w)) : wpList P ops Q (o :: rest) a w := h
theorem store_whole (hgd : o.guard = none) (ty : TypeId) (x y : Operand) (ho : o.op = .store ty x y) (b : Nat) (cells : Array Value) (hx : a.eval x = .pointer (some ⟨b, 0, none⟩)) (hy : a.eval y = .agg cells)
    {cur : Array Value} {T : TypeId} (hb : w.heap[b]? = some (.cells cur T (0, 0))) (hs : cur.size = cells.size) (hi : (P.info? ty).map (·.size) = some cells.size) (h1 : cells.all (·.oneCell') = true)
    (h : ∀ w1, w1.heap[b]? = some (.cells cells T (0, 0)) → SetB w w1 b (.cells cells T (0, 0)) → wpList P ops Q rest (a.put o.dst undef) w1) : wpList P ops Q (o :: rest) a w :=
  wpList_plain hgd fun K hK => by
    obtain ⟨w1, e1, e2, e3⟩ := run_store_whole (P := P) (w := w) hb hs hi h1
    have hk := hK _ _ (h w1 e2 e3)
    unfold Oper.wp execOp
    simp only [ho, hx, hy, Sem.run_bind, e1, Sem.run_pure, Result.andThen_ok]
    exact hk
theorem run_load_whole {ty T : TypeId} {b : Nat} {cells : Array Value} {fr : Nat × Nat} (hb : w.heap[b]? = some (.cells cells T fr)) {d : TypeDesc} (hu : P.underlying ty = some d) (hd : d.isRow = true) (hi : (P.info? ty).map (·.size) = some cells.size) :
    (loadVar ty ⟨b, 0, none⟩).run P w = .ok (.agg cells) w := by
  have hc : w.rangeAt b 0 cells.toList := fun j v hv => by rw [Nat.zero_add]; exact cell_of hb (by simpa using hv)
  have := run_loadVar_mid (P := P) w b 0 ty cells.toList d hc hu hd (by simpa using hi)
  simpa using this
/-- a function's one result lies in a cell -/
theorem ret_cell {fn : Func} {R : Ending → World → Prop} {p : Tmp} {ty T : TypeId} {b : Nat} {cells : Array Value} {fr : Nat × Nat} (hr : fn.results = #[.cell p ty]) (hp : a.tmps.getD p undef = .pointer (some ⟨b, 0, none⟩)) (hd : a.defers = [])
    (hb : w.heap[b]? = some (.cells cells T fr)) {d : TypeDesc} (hu : P.underlying ty = some d) (hdr : d.isRow = true) (hi : (P.info? ty).map (·.size) = some cells.size) (h : R (.returned (.agg cells)) w) : bodyPost P fn R .ret a w := by
  refine bodyPost_ret ?_ hd h
  simp only [results, hr]
  have hp' : a.tmps[p]?.getD undef = .pointer (some ⟨b, 0, none⟩) := by simpa using hp
  simp [asAddr, hp', run_load_whole (P := P) hb hu hdr hi]
end
end Go.Proofs.YtadoflcomienoaaGreat
/- Tries in memory: nodes by what prefixes they stand for. -/
namespace Go.Proofs.YtadoflcomienoaaGreat
open Go.RowKit

/-- the first n bits of an address -/
def cut (a n : Nat) : Nat := a / 2 ^ (32 - n) * 2 ^ (32 - n)
theorem cut_le (a n : Nat) : cut a n ≤ a := Nat.div_mul_le_self _ _
theorem cut_0 {a : Nat} (h : a < 4294967296) : cut a 0 = 0 := by simp [cut]; omega
theorem pow_pos2 (k : Nat) : 0 < 2 ^ k := Nat.pow_pos (by decide)
theorem cut_cut (a : Nat) {m n : Nat} (h : m ≤ n) : cut (cut a n) m = cut a m := by
  unfold cut
  obtain ⟨j, hj⟩ : ∃ j, 32 - m = (32 - n) + j := ⟨(32 - m) - (32 - n), by omega⟩
  have hp := pow_pos2 (32 - n)
  rw [hj, Nat.pow_add, ← Nat.div_div_eq_div_mul, ← Nat.div_div_eq_div_mul, Nat.mul_div_cancel _ hp]
theorem cut_succ (a : Nat) {n : Nat} (h : n ≤ 31) : cut a (n + 1) = cut a n + (if a.testBit (31 - n) then 2 ^ (31 - n) else 0) := by
  unfold cut
  rw [show 32 - (n + 1) = 31 - n by omega, show 32 - n = (31 - n) + 1 by omega, Nat.testBit_eq_decide_div_mod_eq, Nat.pow_succ, ← Nat.div_div_eq_div_mul]
  generalize 2 ^ (31 - n) = p
  generalize a / p = q
  have h2 : q = 2 * (q / 2) + q % 2 := by omega
  rcases Nat.mod_two_eq_zero_or_one q with h0 | h1
  · rw [h0] at h2
    simp only [h0]
    have e : q / 2 * (p * 2) = q * p := by rw [Nat.mul_comm p 2, ← Nat.mul_assoc]; congr 1; omega
    simp [e]
  · simp only [h1]
    have e : q / 2 * (p * 2) + p = q * p := by
      rw [Nat.mul_comm p 2, ← Nat.mul_assoc]
      have : q = q / 2 * 2 + 1 := by omega
      conv => rhs; rw [this, Nat.succ_mul]
    simp [e]
/-- may (a, n) be a prefix -/
structure Key (a n : Nat) : Prop where
  le : n ≤ 32
  is : cut a n = a
  lt : a < 4294967296
/-- the branch of a bit -/
def kid (a n : Nat) (c : Bool) : Nat := if c then a + 2 ^ (31 - n) else a
theorem cut_kid (a : Nat) {n : Nat} (h : n ≤ 31) : cut a (n + 1) = kid (cut a n) n (a.testBit (31 - n)) := by
  rw [cut_succ a h]; unfold kid; split <;> simp
theorem kid_ne (a n : Nat) {c c' : Bool} (h : kid a n c = kid a n c') : c = c' := by
  have := pow_pos2 (31 - n)
  cases c <;> cases c' <;> simp [kid] at h ⊢ <;> omega
theorem Key.div {a n : Nat} (h : Key a n) : ∃ q, a = q * 2 ^ (32 - n) ∧ q < 2 ^ n := by
  refine ⟨a / 2 ^ (32 - n), h.is.symm, ?_⟩
  refine Nat.div_lt_of_lt_mul ?_
  rw [← Nat.pow_add, show 32 - n + n = 32 by have := h.le; omega]
  exact h.lt
theorem Key.of_div {a n q : Nat} (hn : n ≤ 32) (h : a = q * 2 ^ (32 - n)) (hq : q < 2 ^ n) : Key a n := by
  subst h
  refine ⟨hn, ?_, ?_⟩
  · unfold cut; rw [Nat.mul_div_cancel _ (pow_pos2 _)]
  · have h1 : q * 2 ^ (32 - n) < 2 ^ n * 2 ^ (32 - n) := Nat.mul_lt_mul_of_pos_right hq (pow_pos2 _)
    rwa [← Nat.pow_add, show n + (32 - n) = 32 by omega] at h1
theorem mul_two_out (q p : Nat) : q * (p * 2) = 2 * q * p := by rw [Nat.mul_comm p 2, ← Nat.mul_assoc, Nat.mul_comm q 2]
theorem Key.kid {a n : Nat} (h : Key a n) (hn : n ≤ 31) (c : Bool) : Key (kid a n c) (n + 1) := by
  obtain ⟨q, e, hq⟩ := h.div
  have e1 : 32 - n = (31 - n) + 1 := by omega
  rw [e1, Nat.pow_succ] at e
  cases c with
  | false => exact Key.of_div (q := 2 * q) (by omega) (by rw [show 32 - (n + 1) = 31 - n by omega, e, mul_two_out]; rfl) (by rw [Nat.pow_succ]; omega)
  | true => exact Key.of_div (q := 2 * q + 1) (by omega) (by rw [show 32 - (n + 1) = 31 - n by omega, Nat.succ_mul, ← mul_two_out, ← e]; rfl) (by rw [Nat.pow_succ]; omega)
theorem kid_cut {a n : Nat} (h : Key a n) (hn : n ≤ 31) (c : Bool) : cut (kid a n c) n = a := by
  obtain ⟨q, e, hq⟩ := h.div
  cases c with
  | false => exact h.is
  | true =>
    have hp := pow_pos2 (31 - n)
    have e1 : 32 - n = (31 - n) + 1 := by omega
    unfold cut YtadoflcomienoaaGreat.kid
    rw [e1] at e ⊢
    rw [Nat.pow_succ] at e ⊢
    generalize 2 ^ (31 - n) = p at *
    subst e
    simp only [if_true]
    have : (q * (p * 2) + p) / (p * 2) = q := by
      rw [Nat.mul_comm q, Nat.mul_add_div (by omega), Nat.div_eq_of_lt (by omega)]; rfl
    rw [this]

def ptr (o : Option Nat) : Value := .pointer (o.map fun k => ⟨k, 0, none⟩)

section
variable {α : Type}
/-- the cells of a node -/
def nodeCells (enc : α → Value) (z : α) (l r : Option Nat) (x : Option α) : Array Value := #[ptr l, ptr r, enc (x.getD z), .bool x.isSome]
/-- a trie: its nodes N, its count n, its things M -/
structure TrieAt (TN TT : TypeId) (enc : α → Value) (z : α) (w : World) (b : Nat) (N : Nat → Nat → Option Nat) (n : Nat) (M : Nat → Nat → Option α) : Prop where
  root : ∃ r, N 0 0 = some r ∧ w.heap[b]? = some (.cells #[ptr (some r), .int .i64 n] TT (0, 0))
  key : ∀ a d k, N a d = some k → Key a d
  up : ∀ a d, (N a (d + 1)).isSome → (N (cut a d) d).isSome
  node : ∀ a d k, N a d = some k → w.heap[k]? = some (.cells (nodeCells enc z (N (kid a d false) (d + 1)) (N (kid a d true) (d + 1)) (M a d)) TN (0, 0))
  inj : ∀ a d a' d' k, N a d = some k → N a' d' = some k → a = a' ∧ d = d'
  nb : ∀ a d, N a d ≠ some b
  thing : ∀ a d, (M a d).isSome → (N a d).isSome
/-- its blocks -/
def foot (b : Nat) (N : Nat → Nat → Option Nat) (k : Nat) : Prop := k = b ∨ ∃ a d, N a d = some k
def upd {β : Type} (f : Nat → Nat → Option β) (a d : Nat) (v : Option β) : Nat → Nat → Option β := fun a' d' => if a' = a ∧ d' = d then v else f a' d'
theorem upd_same {β : Type} (f : Nat → Nat → Option β) (a d : Nat) (v : Option β) : upd f a d v a d = v := by simp [upd]
theorem upd_other {β : Type} (f : Nat → Nat → Option β) {a d a' d' : Nat} (v : Option β) (h : ¬ (a' = a ∧ d' = d)) : upd f a d v a' d' = f a' d' := by simp only [upd, if_neg h]

variable {TN TT : TypeId} {enc : α → Value} {z : α} {w w' : World} {b n : Nat} {N : Nat → Nat → Option Nat} {M : Nat → Nat → Option α}
namespace TrieAt
theorem keep (h : TrieAt TN TT enc z w b N n M) (e : ∀ k, foot b N k → w'.heap[k]? = w.heap[k]?) : TrieAt TN TT enc z w' b N n M :=
  ⟨by obtain ⟨r, h1, h2⟩ := h.root; exact ⟨r, h1, (e b (.inl rfl)).trans h2⟩, h.key, h.up, fun a d k hk => (e k (.inr ⟨a, d, hk⟩)).trans (h.node a d k hk), h.inj, h.nb, h.thing⟩
theorem lt (h : TrieAt TN TT enc z w b N n M) {k : Nat} (hk : foot b N k) : k < w.heap.size := by
  rcases hk with rfl | ⟨a, d, hk⟩
  · obtain ⟨r, h1, h2⟩ := h.root; exact lt_of_blk h2
  · exact lt_of_blk (h.node a d k hk)
theorem below (h : TrieAt TN TT enc z w b N n M) (hb : Below w.heap.size w w') : TrieAt TN TT enc z w' b N n M := h.keep fun k hk => hb.block k (h.lt hk)
theorem blk (h : TrieAt TN TT enc z w b N n M) {r : Nat} (hr : N 0 0 = some r) : w.heap[b]? = some (.cells #[ptr (some r), .int .i64 n] TT (0, 0)) := by
  obtain ⟨r', h1, h2⟩ := h.root; rw [h1] at hr; cases hr; exact h2
theorem none33 (h : TrieAt TN TT enc z w b N n M) (a : Nat) {d : Nat} (hd : 32 < d) : N a d = none := by
  cases e : N a d with
  | none => rfl
  | some k => have := (h.key _ _ _ e).le; omega
theorem none_down (h : TrieAt TN TT enc z w b N n M) {a d : Nat} (hn : N (cut a d) d = none) : ∀ j, d + j ≤ 32 → N (cut a (d + j)) (d + j) = none := by
  intro j
  induction j with
  | zero => intro _; exact hn
  | succ j ih =>
    intro hj
    have h1 := ih (by omega)
    cases e : N (cut a (d + (j + 1))) (d + (j + 1)) with
    | none => rfl
    | some k =>
      have h2 := h.up (cut a (d + (j + 1))) (d + j) (by rw [← Nat.add_assoc] at e; rw [← Nat.add_assoc, e]; rfl)
      rw [cut_cut a (by omega), h1] at h2
      cases h2
theorem thing_none (h : TrieAt TN TT enc z w b N n M) {a d : Nat} (hn : N a d = none) : M a d = none := by
  cases e : M a d with
  | none => rfl
  | some x => have := h.thing a d (by rw [e]; rfl); rw [hn] at this; cases this
theorem setNode (h : TrieAt TN TT enc z w b N n M) {a d k : Nat} (hk : N a d = some k) (v : Option α)
    (hs : SetB w w' k (.cells (nodeCells enc z (N (kid a d false) (d + 1)) (N (kid a d true) (d + 1)) v) TN (0, 0))) : TrieAt TN TT enc z w' b N n (upd M a d v) := by
  have hkb : k ≠ b := fun e => h.nb a d (e ▸ hk)
  refine ⟨?_, h.key, h.up, fun a' d' k' hk' => ?_, h.inj, h.nb, fun a' d' hm => ?_⟩
  · obtain ⟨r, h1, h2⟩ := h.root; exact ⟨r, h1, (hs.other (Ne.symm hkb)).trans h2⟩
  · by_cases e : a' = a ∧ d' = d
    · obtain ⟨rfl, rfl⟩ := e
      rw [hk] at hk'; cases hk'
      rw [upd_same]
      exact hs.at (h.lt (.inr ⟨_, _, hk⟩))
    · rw [upd_other _ _ e]
      have hne : k' ≠ k := fun e' => e (by subst e'; exact h.inj _ _ _ _ _ hk' hk)
      rw [hs.other hne]; exact h.node a' d' k' hk'
  · by_cases e : a' = a ∧ d' = d
    · obtain ⟨rfl, rfl⟩ := e; rw [hk]; rfl
    · rw [upd_other _ _ e] at hm; exact h.thing a' d' hm
theorem setCount (h : TrieAt TN TT enc z w b N n M) {r n' : Nat} (hr : N 0 0 = some r) (hs : SetB w w' b (.cells #[ptr (some r), .int .i64 n'] TT (0, 0))) : TrieAt TN TT enc z w' b N n' M :=
  ⟨⟨r, hr, hs.at (h.lt (.inl rfl))⟩, h.key, h.up, fun a d k hk => (hs.other (fun e => h.nb a d (e ▸ hk))).trans (h.node a d k hk), h.inj, h.nb, h.thing⟩
/-- a new node on a branch -/
theorem grow (h : TrieAt TN TT enc z w b N n M) {a d k : Nat} (hk : N a d = some k) (hd : d ≤ 31) (c : Bool) (hc : N (kid a d c) (d + 1) = none) {o : Obj} (ho : o = .cells (nodeCells enc z none none (none : Option α)) TN (0, 0))
    (hs : SetB (w.alloc o) w' k (.cells (nodeCells enc z (if c then N (kid a d false) (d + 1) else some w.heap.size) (if c then some w.heap.size else N (kid a d true) (d + 1)) (M a d)) TN (0, 0))) :
    TrieAt TN TT enc z w' b (upd N (kid a d c) (d + 1) (some w.heap.size)) n M := by
  subst ho
  have hkb : k ≠ b := fun e => h.nb a d (e ▸ hk)
  have hkk := h.key _ _ _ hk
  have hkl := h.lt (.inr ⟨_, _, hk⟩)
  have hnew : ∀ a' d', N a' d' ≠ some w.heap.size := fun a' d' e => by have := h.lt (.inr ⟨_, _, e⟩); omega
  have hold : ∀ j, j < w.heap.size → j ≠ k → w'.heap[j]? = w.heap[j]? := fun j hj hjk => (hs.other hjk).trans (Below.heap_alloc w _ j hj)
  have hup := h.up
  refine ⟨?_, fun a' d' k' hk' => ?_, fun a' d' hm => ?_, fun a' d' k' hk' => ?_, fun a1 d1 a2 d2 k' h1 h2 => ?_, fun a' d' e => ?_, fun a' d' hm => ?_⟩
  · obtain ⟨r, h1, h2⟩ := h.root
    exact ⟨r, by rw [upd_other _ _ (by omega)]; exact h1, (hold b (lt_of_blk h2) (Ne.symm hkb)).trans h2⟩
  · by_cases e : a' = kid a d c ∧ d' = d + 1
    · obtain ⟨rfl, rfl⟩ := e; exact hkk.kid hd c
    · rw [upd_other _ _ e] at hk'; exact h.key _ _ _ hk'
  · have hu : (N (cut a' d') d').isSome := by
      by_cases e : a' = kid a d c ∧ d' + 1 = d + 1
      · obtain ⟨rfl, e2⟩ := e
        obtain rfl : d' = d := by omega
        rw [kid_cut hkk hd, hk]; rfl
      · rw [upd_other _ _ e] at hm; exact h.up _ _ hm
    by_cases e : cut a' d' = kid a d c ∧ d' = d + 1
    · obtain ⟨e1, rfl⟩ := e
      rw [e1, upd_same]; rfl
    · rw [upd_other _ _ e]; exact hu
  · by_cases e : a' = kid a d c ∧ d' = d + 1
    · obtain ⟨rfl, rfl⟩ := e
      rw [upd_same] at hk'; cases hk'
      have h0 : ∀ c', N (kid (kid a d c) (d + 1) c') (d + 1 + 1) = none := fun c' => by
        cases e : N (kid (kid a d c) (d + 1) c') (d + 1 + 1) with
        | none => rfl
        | some j =>
          have hd2 : d + 1 ≤ 31 := by have := (h.key _ _ _ e).le; omega
          have := h.up _ _ (by rw [e]; rfl)
          rw [kid_cut (hkk.kid hd c) hd2, hc] at this; cases this
      rw [upd_other _ _ (by omega), upd_other _ _ (by omega), h0, h0, h.thing_none hc]
      rw [hs.other (by omega)]
      exact hnewAt rfl
    · rw [upd_other _ _ e] at hk'
      by_cases e2 : a' = a ∧ d' = d
      · obtain ⟨rfl, rfl⟩ := e2
        rw [hk] at hk'; cases hk'
        rw [hs.at (by simp; omega)]
        cases c with
        | true =>
          rw [upd_same, upd_other _ _ (fun e => by have := kid_ne _ _ e.1; cases this)]
          simp
        | false =>
          rw [upd_same, upd_other _ _ (fun e => by have := kid_ne _ _ e.1; cases this)]
          simp
      · have hne : k' ≠ k := fun e' => e2 (by subst e'; exact h.inj _ _ _ _ _ hk' hk)
        rw [hold k' (h.lt (.inr ⟨_, _, hk'⟩)) hne, h.node a' d' k' hk']
        have hq : ∀ c', upd N (kid a d c) (d + 1) (some w.heap.size) (kid a' d' c') (d' + 1) = N (kid a' d' c') (d' + 1) := fun c' => upd_other _ _ (fun e3 => by
          obtain ⟨e4, e5⟩ := e3
          obtain rfl : d' = d := by omega
          have h1 := kid_cut (h.key _ _ _ hk') hd c'
          rw [e4, kid_cut hkk hd] at h1
          exact e2 ⟨h1.symm, rfl⟩)
        rw [hq, hq]
  · by_cases e1 : a1 = kid a d c ∧ d1 = d + 1
    · obtain ⟨rfl, rfl⟩ := e1
      rw [upd_same] at h1; cases h1
      by_cases e2 : a2 = kid a d c ∧ d2 = d + 1
      · exact ⟨e2.1.symm, e2.2.symm⟩
      · rw [upd_other _ _ e2] at h2; exact absurd h2 (hnew _ _)
    · rw [upd_other _ _ e1] at h1
      by_cases e2 : a2 = kid a d c ∧ d2 = d + 1
      · obtain ⟨rfl, rfl⟩ := e2
        rw [upd_same] at h2; cases h2
        exact absurd h1 (hnew _ _)
      · rw [upd_other _ _ e2] at h2; exact h.inj _ _ _ _ _ h1 h2
  · by_cases e1 : a' = kid a d c ∧ d' = d + 1
    · obtain ⟨rfl, rfl⟩ := e1
      rw [upd_same] at e
      have := h.lt (.inl rfl)
      injection e with e; omega
    · rw [upd_other _ _ e1] at e; exact h.nb _ _ e
  · by_cases e : a' = kid a d c ∧ d' = d + 1
    · obtain ⟨rfl, rfl⟩ := e; rw [upd_same]; rfl
    · rw [upd_other _ _ e]; exact h.thing _ _ hm
/-- a node with nothing is taken off its branch -/
theorem drop (h : TrieAt TN TT enc z w b N n M) {a d k j : Nat} (hk : N a d = some k) (c : Bool) (hj : N (kid a d c) (d + 1) = some j) (hl : ∀ c', N (kid (kid a d c) (d + 1) c') (d + 1 + 1) = none) (hm0 : M (kid a d c) (d + 1) = none)
    (hs : SetB w w' k (.cells (nodeCells enc z (if c then N (kid a d false) (d + 1) else none) (if c then none else N (kid a d true) (d + 1)) (M a d)) TN (0, 0))) :
    TrieAt TN TT enc z w' b (upd N (kid a d c) (d + 1) none) n M := by
  have hkb : k ≠ b := fun e => h.nb a d (e ▸ hk)
  have hkk := h.key _ _ _ hk
  have hd : d ≤ 31 := by have := (h.key _ _ _ hj).le; omega
  have hck := hkk.kid hd c
  refine ⟨?_, fun a' d' k' hk' => ?_, fun a' d' hm => ?_, fun a' d' k' hk' => ?_, fun a1 d1 a2 d2 k' h1 h2 => ?_, fun a' d' e => ?_, fun a' d' hm => ?_⟩
  · obtain ⟨r, h1, h2⟩ := h.root
    exact ⟨r, by rw [upd_other _ _ (by omega)]; exact h1, (hs.other (Ne.symm hkb)).trans h2⟩
  · by_cases e : a' = kid a d c ∧ d' = d + 1
    · obtain ⟨rfl, rfl⟩ := e; rw [upd_same] at hk'; cases hk'
    · rw [upd_other _ _ e] at hk'; exact h.key _ _ _ hk'
  · by_cases e1 : a' = kid a d c ∧ d' + 1 = d + 1
    · rw [e1.1, e1.2, upd_same] at hm; cases hm
    · rw [upd_other _ _ e1] at hm
      by_cases e : cut a' d' = kid a d c ∧ d' = d + 1
      · obtain ⟨e3, rfl⟩ := e
        exfalso
        have hka : Key a' (d + 1 + 1) := by
          cases e4 : N a' (d + 1 + 1) with
          | none => rw [e4] at hm; cases hm
          | some q => exact h.key _ _ _ e4
        have hd2 : d + 1 ≤ 31 := by have := hka.le; omega
        have h4 := cut_kid a' hd2
        rw [hka.is, e3] at h4
        rw [h4, hl] at hm; cases hm
      · rw [upd_other _ _ e]; exact h.up _ _ hm
  · by_cases e : a' = kid a d c ∧ d' = d + 1
    · obtain ⟨rfl, rfl⟩ := e
      rw [upd_same] at hk'; cases hk'
    · rw [upd_other _ _ e] at hk'
      by_cases e2 : a' = a ∧ d' = d
      · obtain ⟨rfl, rfl⟩ := e2
        rw [hk] at hk'; cases hk'
        rw [hs.at (h.lt (.inr ⟨_, _, hk⟩))]
        cases c with
        | true =>
          rw [upd_same, upd_other _ _ (fun e => by have := kid_ne _ _ e.1; cases this)]
          simp
        | false =>
          rw [upd_same, upd_other _ _ (fun e => by have := kid_ne _ _ e.1; cases this)]
          simp
      · have hne : k' ≠ k := fun e' => e2 (by subst e'; exact h.inj _ _ _ _ _ hk' hk)
        rw [hs.other hne, h.node a' d' k' hk']
        have hq : ∀ c', upd N (kid a d c) (d + 1) none (kid a' d' c') (d' + 1) = N (kid a' d' c') (d' + 1) := fun c' => upd_other _ _ (fun e3 => by
          obtain ⟨e4, e5⟩ := e3
          obtain rfl : d' = d := by omega
          have h1 := kid_cut (h.key _ _ _ hk') hd c'
          rw [e4, kid_cut hkk hd] at h1
          exact e2 ⟨h1.symm, rfl⟩)
        rw [hq, hq]
  · by_cases e1 : a1 = kid a d c ∧ d1 = d + 1
    · obtain ⟨rfl, rfl⟩ := e1; rw [upd_same] at h1; cases h1
    · rw [upd_other _ _ e1] at h1
      by_cases e2 : a2 = kid a d c ∧ d2 = d + 1
      · obtain ⟨rfl, rfl⟩ := e2; rw [upd_same] at h2; cases h2
      · rw [upd_other _ _ e2] at h2; exact h.inj _ _ _ _ _ h1 h2
  · by_cases e1 : a' = kid a d c ∧ d' = d + 1
    · obtain ⟨rfl, rfl⟩ := e1; rw [upd_same] at e; cases e
    · rw [upd_other _ _ e1] at e; exact h.nb _ _ e
  · by_cases e : a' = kid a d c ∧ d' = d + 1
    · obtain ⟨rfl, rfl⟩ := e; rw [hm0] at hm; cases hm
    · rw [upd_other _ _ e]; exact h.thing _ _ hm
end TrieAt
/-- what a call on a trie may turn: its blocks; its blocks behind the call are those, or new -/
structure Moved (w w' : World) (F F' : Nat → Prop) : Prop where
  os : w'.os = w.os
  tape : w'.tape = w.tape
  output : w'.output = w.output
  size : w.heap.size ≤ w'.heap.size
  same : ∀ k, k < w.heap.size → ¬ F k → w'.heap[k]? = w.heap[k]?
  foot : ∀ k, F' k → F k ∨ w.heap.size ≤ k
theorem Moved.trans {a b c : World} {F G H : Nat → Prop} (h : Moved a b F G) (k : Moved b c G H) : Moved a c F H :=
  ⟨k.os.trans h.os, k.tape.trans h.tape, k.output.trans h.output, Nat.le_trans h.size k.size, fun i hi hn => (k.same i (Nat.lt_of_lt_of_le hi h.size) (fun hg => by rcases h.foot i hg with h1 | h1; exact hn h1; omega)).trans (h.same i hi hn),
   fun i hi => by rcases k.foot i hi with h1 | h1; exact h.foot i h1; exact .inr (Nat.le_trans h.size h1)⟩
theorem Moved.of_below {w w' : World} (h : Below w.heap.size w w') (F : Nat → Prop) : Moved w w' F F := ⟨h.os, h.tape, h.output, h.size, fun k hk _ => h.block k hk, fun _ h => .inl h⟩
theorem Moved.drew {w w' : World} {F F' : Nat → Prop} (h : Moved w w' F F') : Moved w w'.drew F F' := ⟨h.os, h.tape, h.output, h.size, h.same, h.foot⟩
theorem Moved.below {w w' : World} {F F' : Nat → Prop} (h : Moved w w' F F') {B : Nat} (hB : B ≤ w.heap.size) (hF : ∀ k, F k → B ≤ k) : Below B w w' :=
  ⟨h.os, h.tape, h.output, h.size, fun k hk => h.same k (by omega) (fun e => by have := hF k e; omega)⟩
theorem Moved.of_set {w w' : World} {k : Nat} {o : Obj} (h : SetB w w' k o) {F : Nat → Prop} (hk : F k) : Moved w w' F F := ⟨h.os, h.tape, h.output, by rw [h.size]; exact Nat.le_refl _, fun i _ hn => h.other (fun e => hn (e ▸ hk)), fun _ h => .inl h⟩
end
end Go.Proofs.YtadoflcomienoaaGreat
