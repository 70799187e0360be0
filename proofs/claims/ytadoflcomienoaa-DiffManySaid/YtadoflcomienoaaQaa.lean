/- Small facts on memory: a block known whole, and what a store into it leaves. -/
import Derived.WalkKit
import Derived.WalkSpells
import Derived.WalkLawsBesides
import Derived.Deep.QuietTactic
import Derived.BigQuiet
import Derived.Outline
import Derived.Handy
import Derived.Deep.RegionHeld3
import Derived.StillTailTactics
import Derived.Deep.LoopGhost
import Derived.Deep.DeepCutAuto
import Derived.Deep.DeepFit
import Derived.Lib.Hide
import Derived.Laws.OwnMore
import Derived.Laws.AppendOwn
import Derived.OwnWalk
import Derived.StillTail
import Derived.Deep.Quiet
import Derived.Below
import Derived.Orders
import Derived.Deep.MidRow
import Derived.Laws.ResultCell
namespace Go.Proofs.Ytadoflcomienoaa
open Go.RowKit
/-- a goal at which the walk stops -/
def Halted (p : Prop) : Prop := p
theorem halt {p : Prop} (h : Halted p) : p := h
theorem Halted.go {p : Prop} (h : p) : Halted p := h
theorem ret_int {k : IntKind} {a b : Int} (h : a = b) : Ending.returned (.int k a) = .returned (.int k b) := by rw [h]
theorem ret_bool {a b : Bool} (h : a = b) : Ending.returned (.bool a) = .returned (.bool b) := by rw [h]

theorem cell_of {w : World} {b : Nat} {cs : Array Value} {T : TypeId} {fr : Nat × Nat} {o : Nat} {v : Value} (h : w.heap[b]? = some (.cells cs T fr)) (hv : cs[o]? = some v) : w.cell? ⟨b, o, none⟩ = some v := by
  simp [World.cell?, h, hv]
theorem free_of {w : World} {b : Nat} {cs : Array Value} {T : TypeId} {o : Nat} (h : w.heap[b]? = some (.cells cs T (0, 0))) : w.frozen? ⟨b, o, none⟩ = false := by
  simp [World.frozen?, h]
theorem lt_of_blk {w : World} {b : Nat} {o : Obj} (h : w.heap[b]? = some o) : b < w.heap.size := by
  rcases Nat.lt_or_ge b w.heap.size with h' | h'
  · exact h'
  · rw [Array.getElem?_eq_none h'] at h; cases h

/-- w' is w with block b made o, and some draws. -/
structure SetB (w w' : World) (b : Nat) (o : Obj) : Prop where
  os : w'.os = w.os
  tape : w'.tape = w.tape
  output : w'.output = w.output
  heap : w'.heap = w.heap.setIfInBounds b o
theorem SetB.self {w : World} {b : Nat} {o : Obj} (h : w.heap[b]? = some o) : SetB w w b o := ⟨rfl, rfl, rfl, by
  apply Array.ext_getElem?
  intro i
  rw [Array.getElem?_setIfInBounds]
  split
  · rename_i e; subst e; rw [if_pos (lt_of_blk h), h]
  · rfl⟩
theorem SetB.trans {w w1 w2 : World} {b : Nat} {o o' : Obj} (h : SetB w w1 b o) (k : SetB w1 w2 b o') : SetB w w2 b o' := ⟨k.os.trans h.os, k.tape.trans h.tape, k.output.trans h.output, by
  rw [k.heap, h.heap]
  apply Array.ext_getElem?
  intro i
  simp only [Array.getElem?_setIfInBounds, Array.size_setIfInBounds]
  split <;> simp_all⟩
theorem SetB.drew {w w1 : World} {b : Nat} {o : Obj} (h : SetB w w1 b o) : SetB w w1.drew b o := ⟨h.os, h.tape, h.output, h.heap⟩
theorem SetB.drewN {w w1 : World} {b n : Nat} {o : Obj} (h : SetB w w1 b o) : SetB w (w1.drewN n) b o := ⟨h.os, h.tape, h.output, h.heap⟩
theorem SetB.at {w w1 : World} {b : Nat} {o : Obj} (h : SetB w w1 b o) (hb : b < w.heap.size) : w1.heap[b]? = some o := by
  rw [h.heap]; simp [hb]
theorem SetB.other {w w1 : World} {b k : Nat} {o : Obj} (h : SetB w w1 b o) (hb : k ≠ b) : w1.heap[k]? = w.heap[k]? := by
  rw [h.heap, Array.getElem?_setIfInBounds, if_neg (Ne.symm hb)]
theorem SetB.size {w w1 : World} {b : Nat} {o : Obj} (h : SetB w w1 b o) : w1.heap.size = w.heap.size := by rw [h.heap]; simp
theorem SetB.store {w w1 : World} {b o : Nat} {cs : Array Value} {T : TypeId} {fr : Nat × Nat} (h : SetB w w1 b (.cells cs T fr)) (hb : b < w.heap.size) (v : Value) : SetB w (w1.setCell ⟨b, o, none⟩ v) b (.cells (cs.setIfInBounds o v) T fr) :=
  ⟨h.os, h.tape, h.output, by
    have ha := h.at hb
    apply Array.ext_getElem?
    intro i
    simp only [World.setCell, Array.getElem?_modify, Array.getElem?_setIfInBounds]
    split
    · rename_i e; subst e; simp [ha]
    · rename_i e; rw [h.other (Ne.symm e)]⟩
theorem SetB.below {w w1 : World} {b B : Nat} {o : Obj} (h : SetB w w1 b o) (hB : B ≤ b) : Below B w w1 :=
  ⟨h.os, h.tape, h.output, by rw [h.size]; exact Nat.le_refl _, fun k hk => h.other (by omega)⟩
theorem hnew (w : World) (o : Obj) : (w.alloc o).heap[w.heap.size]? = some o := by
  show (w.heap.push o)[w.heap.size]? = _
  simp
theorem hnewAt {w : World} {o : Obj} {n : Nat} (h : n = w.heap.size) : (w.alloc o).heap[n]? = some o := by rw [h]; exact hnew w o
theorem hold {w : World} {b : Nat} {o : Obj} {x : Obj} (h : w.heap[b]? = some x) : (w.alloc o).heap[b]? = some x := (Below.heap_alloc w o b (lt_of_blk h)).trans h
theorem bdn {B : Nat} {a w : World} (h : Below B a w) (n : Nat) : Below B a (w.drewN n) := ⟨h.os, h.tape, h.output, h.size, h.block⟩
theorem heap_ad1 {w : World} {b : Nat} (h : b < w.heap.size) (o : Obj) : ((w.alloc o).drew).heap[b]? = w.heap[b]? := Below.heap_alloc w o b h
theorem heap_ad {w : World} {b : Nat} (h : b < w.heap.size) (o : Obj) (n : Nat) : ((w.alloc o).drewN n).heap[b]? = w.heap[b]? := Below.heap_alloc w o b h

/-- w' is w with new blocks; of the old ones only those of bs may have turned -/
structure But (w w' : World) (bs : List Nat) : Prop where
  os : w'.os = w.os
  tape : w'.tape = w.tape
  output : w'.output = w.output
  size : w.heap.size ≤ w'.heap.size
  block : ∀ k, k < w.heap.size → k ∉ bs → w'.heap[k]? = w.heap[k]?
theorem But.of_below {w w' : World} (h : Below w.heap.size w w') (bs : List Nat) : But w w' bs := ⟨h.os, h.tape, h.output, h.size, fun k hk _ => h.block k hk⟩
theorem But.of_set {w w' : World} {b : Nat} {o : Obj} (h : SetB w w' b o) {bs : List Nat} (hb : b ∈ bs) : But w w' bs := ⟨h.os, h.tape, h.output, by rw [h.size]; exact Nat.le_refl _, fun k _ hk => h.other (fun e => hk (e ▸ hb))⟩
theorem But.trans {a b c : World} {bs : List Nat} (h : But a b bs) (k : But b c bs) : But a c bs :=
  ⟨k.os.trans h.os, k.tape.trans h.tape, k.output.trans h.output, Nat.le_trans h.size k.size, fun i hi hn => (k.block i (Nat.lt_of_lt_of_le hi h.size) hn).trans (h.block i hi hn)⟩
theorem But.refl (w : World) (bs : List Nat) : But w w bs := ⟨rfl, rfl, rfl, Nat.le_refl _, fun _ _ _ => rfl⟩
theorem But.below {w w' : World} {bs : List Nat} (h : But w w' bs) {B : Nat} (hB : B ≤ w.heap.size) (hbs : ∀ b ∈ bs, B ≤ b) : Below B w w' :=
  ⟨h.os, h.tape, h.output, h.size, fun k hk => h.block k (by omega) (fun hm => by have := hbs k hm; omega)⟩

theorem But.alloc {w w' : World} {bs : List Nat} (h : But w w' bs) (o : Obj) : But w (w'.alloc o) bs := h.trans (But.of_below ((Below.refl _ _).alloc (Nat.le_refl _) _) bs)
theorem But.drew {w w' : World} {bs : List Nat} (h : But w w' bs) : But w w'.drew bs := ⟨h.os, h.tape, h.output, h.size, h.block⟩
theorem But.drewN {w w' : World} {bs : List Nat} (h : But w w' bs) (n : Nat) : But w (w'.drewN n) bs := ⟨h.os, h.tape, h.output, h.size, h.block⟩
theorem But.setBlock {w w' : World} {bs : List Nat} (h : But w w' bs) {b : Nat} (hb : w.heap.size ≤ b ∨ b ∈ bs) (o : Obj) : But w (Go.ChangeMaps.setBlock w' b o) bs :=
  ⟨h.os, h.tape, h.output, by simp [Go.ChangeMaps.setBlock]; exact h.size, fun k hk hn => by
    simp only [Go.ChangeMaps.setBlock, Array.getElem?_setIfInBounds]
    rw [if_neg (by rintro rfl; rcases hb with hb | hb; omega; exact hn hb)]
    exact h.block k hk hn⟩
theorem But.setCell {w w' : World} {bs : List Nat} (h : But w w' bs) {a : Addr} (hb : w.heap.size ≤ a.block ∨ a.block ∈ bs) (v : Value) : But w (w'.setCell a v) bs :=
  ⟨h.os, h.tape, h.output, by simp [World.setCell]; exact h.size, fun k hk hn => by
    rw [Below.heap_setCell _ _ _ _ (by rintro rfl; rcases hb with hb | hb; omega; exact hn hb)]
    exact h.block k hk hn⟩

theorem But.mono {w w' : World} {bs cs : List Nat} (h : But w w' bs) (hb : ∀ b ∈ bs, b ∈ cs) : But w w' cs := ⟨h.os, h.tape, h.output, h.size, fun k hk hn => h.block k hk (fun hm => hn (hb k hm))⟩
theorem World.heap_far {w : World} {b j : Nat} (v : Value) (h : b ≠ j) {v' : Value} : (((w.setCell ⟨b, 0, none⟩ v).setCell ⟨b, 2, none⟩ v').heap[j]? = w.heap[j]?) := by
  rw [Below.heap_setCell _ _ _ _ (Ne.symm h), Below.heap_setCell _ _ _ _ (Ne.symm h)]
theorem setCell_blk {w : World} {b : Nat} {cs : Array Value} {T : TypeId} {fr : Nat × Nat} (h : w.heap[b]? = some (.cells cs T fr)) (o : Nat) (v : Value) : (w.setCell ⟨b, o, none⟩ v).heap[b]? = some (.cells (cs.setIfInBounds o v) T fr) := by
  simp [World.setCell, Array.getElem?_modify, h]
theorem But.thenSet {w w1 w2 : World} {bs : List Nat} {b : Nat} {o : Obj} (h : But w w1 bs) (k : SetB w1 w2 b o) (hb : w.heap.size ≤ b ∨ b ∈ bs) : But w w2 bs :=
  ⟨k.os.trans h.os, k.tape.trans h.tape, k.output.trans h.output, by rw [k.size]; exact h.size, fun i hi hn => (k.other (by rintro rfl; rcases hb with hb | hb; omega; exact hn hb)).trans (h.block i hi hn)⟩
theorem Below.step {B : Nat} {w w1 w2 : World} {bs : List Nat} (h : Below B w w1) (hB : B ≤ w1.heap.size) (k : But w1 w2 bs) (hbs : ∀ b ∈ bs, B ≤ b) : Below B w w2 := h.trans (k.below hB hbs)

theorem cell_same {w w' : World} {b o : Nat} (h : w'.heap[b]? = w.heap[b]?) : w'.cell? ⟨b, o, none⟩ = w.cell? ⟨b, o, none⟩ := by simp [World.cell?, h]
theorem undrew {w w2 : World} (h : Below w.drew.heap.size w.drew w2) : Below w.heap.size w w2 := ⟨h.os, h.tape, h.output, h.size, h.block⟩
theorem cell_hold {w : World} {a : Addr} {v : Value} (h : w.cell? a = some v) (o : Obj) : (w.alloc o).cell? a = some v := (World.cell?_alloc_some w a o (by rw [h]; rfl)).trans h
theorem cell_far {w : World} {a p : Addr} {v u : Value} (h : w.cell? a = some v) (hne : p.block ≠ a.block) : (w.setCell p u).cell? a = some v := (World.cell?_setCell_far w p a u hne).trans h
theorem cell_realloc {w : World} {a : Addr} {v : Value} {o o' : Obj} (h : (w.alloc o).cell? a = some v) (hlt : a.block < w.heap.size) : (w.alloc o').cell? a = some v := by
  rw [((Below.refl _ _).alloc (Nat.le_refl _) o' : Below w.heap.size w (w.alloc o')).cell (p := a) hlt]
  rw [((Below.refl _ _).alloc (Nat.le_refl _) o : Below w.heap.size w (w.alloc o)).cell (p := a) hlt] at h
  exact h
end Go.Proofs.Ytadoflcomienoaa
/- Slices of things that lie in several cells: read from anywhere (Sl), owned by the call (Own); append of one. -/
namespace Go.Proofs.Ytadoflcomienoaa
open Go.RowKit

/-- how values of a Lean type lie in cells -/
structure Rep (α : Type) [Inhabited α] where
  T : TypeId
  k : Nat
  pos : 0 < k
  cells : α → List Value
  len : ∀ x, (cells x).length = k
  one : ∀ x, (cells x).all (·.oneCell') = true
namespace Rep
variable {α : Type} [Inhabited α] (R : Rep α)
def flat (L : List α) : List Value := L.flatMap R.cells
theorem flat_length (L : List α) : (R.flat L).length = L.length * R.k := by
  induction L with
  | nil => simp [flat]
  | cons c r ih => simp only [flat, List.flatMap_cons, List.length_append, R.len, List.length_cons, Nat.succ_mul] at *; omega
theorem flat_append (L M : List α) : R.flat (L ++ M) = R.flat L ++ R.flat M := by simp [flat]
theorem flat_one (x : α) : R.flat [x] = R.cells x := by simp [flat]
theorem mul_lt {i n k j : Nat} (hi : i < n) (hj : j < k) : i * k + j < n * k := by
  have : (i + 1) * k ≤ n * k := Nat.mul_le_mul_right k hi
  rw [Nat.succ_mul] at this; omega
theorem flat_get (L : List α) (i j : Nat) (hi : i < L.length) (hj : j < R.k) : (R.flat L)[i * R.k + j]? = (R.cells (L.getD i default))[j]? := by
  induction L generalizing i with
  | nil => simp at hi
  | cons c r ih =>
    unfold flat at *
    rw [List.flatMap_cons]
    cases i with
    | zero =>
      rw [List.getElem?_append_left (by rw [R.len]; omega)]
      simp
    | succ i =>
      rw [List.getElem?_append_right (by rw [R.len, Nat.succ_mul]; omega), R.len]
      have := ih i (by simpa using hi)
      rw [show (i + 1) * R.k + j - R.k = i * R.k + j by rw [Nat.succ_mul]; omega, this]
      simp
theorem flat_cell1 (L : List α) (u : Value) (hu : u ∈ R.flat L) : u.oneCell' = true := by
  obtain ⟨x, _, hx⟩ := List.mem_flatMap.1 hu
  exact List.all_eq_true.1 (R.one x) u hx

/-- the cells of one thing at a place -/
def At (w : World) (b o : Nat) (x : α) : Prop := ∀ j, j < R.k → w.cell? ⟨b, o + j, none⟩ = (R.cells x)[j]?
/-- the list of things that lie from a place on -/
structure Row (w : World) (b o : Nat) (L : List α) : Prop where
  lt : b < w.heap.size
  get : ∀ i, i < L.length → R.At w b (o + i * R.k) (L.getD i default)
/-- a slice reads as a list -/
structure Sl (w : World) (a : Option Addr) (n c : Nat) (L : List α) : Prop where
  len : n = L.length
  max : n ≤ maxLen
  row : 0 < n → ∃ b o, a = some ⟨b, o, none⟩ ∧ R.Row w b o L
def Own (w : World) (base : Nat) (v : Value) (L : List α) : Prop := w.ownsRow base R.T R.k v L.length (R.flat L)

variable {R}
theorem At.keep {w w' : World} {b o : Nat} {x : α} (h : R.At w b o x) (e : w'.heap[b]? = w.heap[b]?) : R.At w' b o x := fun j hj => (World.cell?_of_block (a := ⟨b, o + j, none⟩) e).trans (h j hj)
theorem Row.below {w w' : World} {b o : Nat} {L : List α} (h : R.Row w b o L) (hb : Below w.heap.size w w') : R.Row w' b o L :=
  ⟨Nat.lt_of_lt_of_le h.lt hb.size, fun i hi => (h.get i hi).keep (hb.block b h.lt)⟩
theorem Row.keep {w w' : World} {b o : Nat} {L : List α} (h : R.Row w b o L) (e : w'.heap[b]? = w.heap[b]?) : R.Row w' b o L :=
  ⟨(by
      rcases Nat.lt_or_ge b w'.heap.size with h' | h'
      · exact h'
      · rw [Array.getElem?_eq_none h', Array.getElem?_eq_getElem h.lt] at e; cases e), fun i hi => (h.get i hi).keep e⟩
theorem Row.drop {w : World} {b o : Nat} {L : List α} (h : R.Row w b o L) (k : Nat) : R.Row w b (o + k * R.k) (L.drop k) := by
  refine ⟨h.lt, fun i hi => ?_⟩
  simp at hi
  have := h.get (k + i) (by omega)
  rw [show o + k * R.k + i * R.k = o + (k + i) * R.k by rw [Nat.add_mul]; omega]
  have e : (L.drop k).getD i default = L.getD (k + i) default := by simp [List.getD_eq_getElem?_getD]
  rw [e]; exact this
theorem Row.take {w : World} {b o : Nat} {L : List α} (h : R.Row w b o L) (k : Nat) : R.Row w b o (L.take k) := by
  refine ⟨h.lt, fun i hi => ?_⟩
  simp at hi
  have hk : i < k := by omega
  have e : (L.take k).getD i default = L.getD i default := by simp [List.getD_eq_getElem?_getD, hk]
  rw [e]; exact h.get i (by omega)
theorem Sl.keep {w w' : World} {a : Option Addr} {n c : Nat} {L : List α} (h : R.Sl w a n c L) (hb : Below w.heap.size w w') : R.Sl w' a n c L :=
  ⟨h.len, h.max, fun hn => let ⟨b, o, e, r⟩ := h.row hn; ⟨b, o, e, r.below hb⟩⟩
theorem Sl.at {w : World} {a : Option Addr} {n c : Nat} {L : List α} (h : R.Sl w a n c L) {i : Nat} (hi : i < n) : ∃ b o, a = some ⟨b, o, none⟩ ∧ b < w.heap.size ∧ R.At w b (o + i * R.k) (L.getD i default) := by
  obtain ⟨b, o, e, r⟩ := h.row (by omega)
  exact ⟨b, o, e, r.lt, r.get i (by rw [← h.len]; exact hi)⟩
theorem Own.nil (w : World) (base : Nat) : R.Own w base (.slice none 0 0) [] := World.ownsRow_nil _ _ _ _
theorem Own.alloc {w : World} {base : Nat} {v : Value} {L : List α} (h : R.Own w base v L) (o : Obj) : R.Own (w.alloc o) base v L := World.ownsRow.alloc h o
theorem Own.drew {w : World} {base : Nat} {v : Value} {L : List α} (h : R.Own w base v L) : R.Own w.drew base v L := h
theorem Own.below {w w' : World} {base : Nat} {v : Value} {L : List α} (h : R.Own w base v L) (hb : Below w.heap.size w w') : R.Own w' base v L := by
  refine ⟨h.1, ?_⟩
  rcases h.2 with h2 | ⟨g, cap, cur, hv, hg, hh, h3⟩
  · exact .inl h2
  · exact .inr ⟨g, cap, cur, hv, hg, (hb.block g (lt_of_blk hh)).trans hh, h3⟩
theorem Own.keep {w w' : World} {base : Nat} {v : Value} {L : List α} (h : R.Own w base v L) (hb : ∀ b, v.ownBlock = some b → w'.heap[b]? = w.heap[b]?) : R.Own w' base v L := by
  refine ⟨h.1, ?_⟩
  rcases h.2 with h2 | ⟨g, cap, cur, hv, hg, hh, h3⟩
  · exact .inl h2
  · exact .inr ⟨g, cap, cur, hv, hg, (hb g (by rw [hv]; rfl)).trans hh, h3⟩
theorem Own.mono {w : World} {base base' : Nat} {v : Value} {L : List α} (h : R.Own w base v L) (hb : base' ≤ base) : R.Own w base' v L := by
  refine ⟨h.1, ?_⟩
  rcases h.2 with h2 | ⟨g, cap, cur, hv, hg, h3⟩
  · exact .inl h2
  · exact .inr ⟨g, cap, cur, hv, by omega, h3⟩
/-- what an owned slice is -/
theorem Own.cases {w : World} {base : Nat} {v : Value} {L : List α} (h : R.Own w base v L) : (v = .slice none 0 0 ∧ L = []) ∨ ∃ g cap, v = .slice (some ⟨g, 0, none⟩) L.length cap ∧ base ≤ g ∧ g < w.heap.size ∧ L.length ≤ cap ∧ cap ≤ maxLen ∧ R.Row w g 0 L ∧ (∀ o, w.frozen? ⟨g, o, none⟩ = false) ∧ ∃ cur, w.heap[g]? = some (.cells cur R.T (0, 0)) ∧ cur.size = cap * R.k := by
  obtain ⟨h1, h2⟩ := h
  rcases h2 with ⟨h2, h3⟩ | ⟨g, cap, cur, hv, hg, hh, h3, h4, h5, h6⟩
  · exact .inl ⟨h2, List.length_eq_zero_iff.1 h3⟩
  · refine .inr ⟨g, cap, hv, hg, lt_of_blk hh, h3, h4, ⟨lt_of_blk hh, fun i hi j hj => ?_⟩, fun o => free_of hh, cur, hh, h5⟩
    rw [Nat.zero_add, ← R.flat_get L i j hi hj, ← h6]
    have hlt := mul_lt hi hj
    simp [World.cell?, hh, hlt]
/-- an owned slice reads -/
theorem Own.sl {w : World} {base : Nat} {v : Value} {L : List α} (h : R.Own w base v L) : ∃ a c, v = .slice a L.length c ∧ L.length ≤ c ∧ c ≤ maxLen ∧ R.Sl w a L.length c L ∧ (∀ b o, a = some ⟨b, o, none⟩ → base ≤ b) := by
  rcases h.cases with ⟨rfl, rfl⟩ | ⟨g, cap, rfl, hg, hl, h1, h2, hr, -⟩
  · exact ⟨none, 0, rfl, by simp, by unfold maxLen; omega, ⟨rfl, by unfold maxLen; simp, fun h => absurd h (by simp)⟩, by simp⟩
  · exact ⟨some ⟨g, 0, none⟩, cap, rfl, h1, h2, ⟨rfl, by omega, fun _ => ⟨g, 0, rfl, hr⟩⟩, fun b o e => by injection e with e; injection e with e1 _ _; omega⟩

/-- a slice type, its elements -/
structure Ty (P : Program) (t : TypeId) (R : Rep α) (bytes : Nat) : Prop where
  ht : P.underlying t = some (.slice R.T)
  hi : ∃ i z, P.info? R.T = some i ∧ i.zero = some z ∧ i.size = R.k ∧ i.bytes = bytes ∧ z.cells.size = R.k
theorem Ty.mk' {P : Program} {t : TypeId} {R : Rep α} {bytes : Nat} {z : Value} (ht : P.underlying t = some (.slice R.T)) (hi : (P.info? R.T).map (fun i => (i.zero, i.size, i.bytes)) = some (some z, R.k, bytes)) (hz : z.cells.size = R.k) : Ty P t R bytes := by
  obtain ⟨i, h1, h2, h3, h4⟩ := info_parts hi
  exact ⟨ht, i, z, h1, h2, h3, h4, hz⟩

variable {P : Program} {ops : Array Oper} {rest : List Oper} {o : Oper} {a : Act} {Q : Exit → Act → World → Prop} {w : World}
/-- append(v, x): x lies in a new block of its own -/
theorem append_one {t : TypeId} {bytes : Nat} (hT : Ty P t R bytes) (hgd : o.guard = none) (s x : Operand) (ho : o.op = .call { callee := .builtin .append, args := #[s, x], argTypes := #[t, t] })
    {base : Nat} {v : Value} {L : List α} {n : Nat} (hs : a.eval s = v) (hown : R.Own w base v L) (y : α) (b c : Nat) {T' : TypeId} {fr : Nat × Nat} (hx : a.eval x = .slice (some ⟨b, 0, none⟩) 1 c)
    (hb : w.heap[b]? = some (.cells (R.cells y).toArray T' fr)) (hn : L.length = n) (hmax : n + 1 ≤ maxLen) (hbytes : (n + 1) * bytes ≤ 140737488355328) (hbase : base ≤ w.heap.size)
    (h : ∀ v' w', R.Own w' base v' (L ++ [y]) → Below base w w' → w.grownBy w' v.ownBlock → wpList P ops Q rest (a.put o.dst v') w') : wpList P ops Q (o :: rest) a w := by
  subst hn
  obtain ⟨i, z, h1, h2, h3, h4, h5⟩ := hT.hi
  refine wpList_append_own w hgd s x t ho base R.T i z R.k bytes hT.ht h1 h2 h3 h4 h5 R.pos v L.length (R.flat L) hs hown ⟨b, 0, none⟩ 1 c (R.cells y) hx (by rw [R.len, Nat.one_mul]) ?_ ?_ hmax hbytes hbase ?_
  · intro j u hu
    have : (⟨b, 0, none⟩ : Addr).add j = ⟨b, j, none⟩ := by unfold Addr.add; split <;> simp_all
    rw [this]
    exact cell_of hb (by simpa using hu)
  · intro u hu; exact List.all_eq_true.1 (R.one y) u hu
  · intro v' w' hown' hg _
    refine h v' w' ?_ ?_ hg
    · show World.ownsRow w' base R.T R.k v' (L ++ [y]).length (R.flat (L ++ [y]))
      rw [R.flat_append, R.flat_one, List.length_append]
      exact hown'
    · exact (Below.refl base w).grown hg hbase (fun k hk => by
        rcases hown.2 with ⟨h2, _⟩ | ⟨g, cap, cur, hv, hg, _⟩
        · rw [h2] at hk; cases hk
        · rw [hv] at hk; injection hk with hk; dsimp only at hk; omega)
end Rep
end Go.Proofs.Ytadoflcomienoaa
/- append of a list, clear, on slices of things. -/
namespace Go.Proofs.Ytadoflcomienoaa
open Go.RowKit
namespace Rep
variable {α : Type} [Inhabited α] {R : Rep α}

theorem Own.but {w w' : World} {base : Nat} {v : Value} {L : List α} (h : R.Own w base v L) {bs : List Nat} (hb : But w w' bs) (hbs : ∀ b ∈ bs, b < base) : R.Own w' base v L :=
  h.keep fun b e => by
    obtain ⟨h1, h2⟩ := World.ownsRow.lt h b e
    exact hb.block b h2 (fun hm => by have := hbs b hm; omega)
theorem But.step {a b c : World} {bs : List Nat} {B : Nat} (h : But a b bs) (k : Below B b c) (hB : a.heap.size ≤ B) : But a c bs :=
  ⟨k.os.trans h.os, k.tape.trans h.tape, k.output.trans h.output, Nat.le_trans h.size k.size, fun i hi hn => (k.block i (by omega)).trans (h.block i hi hn)⟩
theorem news_of_row {w : World} {b o : Nat} {L : List α} (h : R.Row w b o L) : ∀ j u, (R.flat L)[j]? = some u → w.cell? ((⟨b, o, none⟩ : Addr).add j) = some u := by
  intro j u hu
  have hadd : (⟨b, o, none⟩ : Addr).add j = ⟨b, o + j, none⟩ := by unfold Addr.add; split <;> simp_all
  have hlt : j < L.length * R.k := by
    rw [← R.flat_length]
    rcases Nat.lt_or_ge j (R.flat L).length with h' | h'
    · exact h'
    · rw [List.getElem?_eq_none h'] at hu; cases hu
  have hk := R.pos
  have hi : j / R.k < L.length := Nat.div_lt_of_lt_mul (by rw [Nat.mul_comm]; exact hlt)
  have hj : j % R.k < R.k := Nat.mod_lt _ hk
  have he : j / R.k * R.k + j % R.k = j := by rw [Nat.mul_comm]; exact Nat.div_add_mod j R.k
  have := h.get _ hi _ hj
  rw [Nat.add_assoc, he, ← R.flat_get L _ _ hi hj, he, hu] at this
  rw [hadd]; exact this

variable {P : Program} {ops : Array Oper} {rest : List Oper} {o : Oper} {a : Act} {Q : Exit → Act → World → Prop} {w : World}
/-- append(v, l...) -/
theorem run_append_list {t ty : TypeId} {bytes : Nat} (hT : Ty P t R bytes) {base : Nat} {v : Value} {L : List α} (hown : R.Own w base v L) {sa : Option Addr} {m c : Nat} {M : List α} (hM : R.Sl w sa m c M) (hc : sa = none → c = 0)
    (hmax : L.length + m ≤ maxLen) (hbytes : (L.length + m) * bytes ≤ 140737488355328) (hbase : base ≤ w.heap.size) :
    ∃ v' w', (Builtin.append_ #[t, t] ty #[v, .slice sa m c]).run P w = .ok v' w' ∧ R.Own w' base v' (L ++ M) ∧ Below base w w' ∧ w.grownBy w' v.ownBlock := by
  obtain ⟨i, z, h1, h2, h3, h4, h5⟩ := hT.hi
  cases sa with
  | none =>
    obtain rfl := hc rfl
    have hm : m = 0 := by
      rcases Nat.eq_zero_or_pos m with h0 | h0
      · exact h0
      · obtain ⟨b, o, e, _⟩ := hM.row h0; cases e
    subst hm
    have hMe : M = [] := List.length_eq_zero_iff.1 hM.len.symm
    subst hMe
    refine ⟨v, w, run_append_owned_none (w := w) base t ty R.T i R.k hT.ht h1 v L.length (R.flat L) hown, ?_, Below.refl _ _, World.grownBy.refl _ _⟩
    rw [List.append_nil]; exact hown
  | some ad =>
    have hnews : ∀ j u, (R.flat M)[j]? = some u → w.cell? (ad.add j) = some u := by
      rcases Nat.eq_zero_or_pos m with h0 | h0
      · have hMe : M = [] := List.length_eq_zero_iff.1 (hM.len.symm.trans h0)
        subst hMe; intro j u hu; simp [flat] at hu
      · obtain ⟨b, o, e, hr⟩ := hM.row h0
        cases e
        exact news_of_row hr
    obtain ⟨v', w', e1, e2, e3, _⟩ := run_append_own (P := P) (w := w) base t ty R.T i z R.k bytes hT.ht h1 h2 h3 h4 h5 R.pos v L.length (R.flat L) hown ad m c (R.flat M) (by rw [R.flat_length, ← hM.len]) hnews (fun u hu => R.flat_cell1 M u hu) hmax hbytes hbase
    refine ⟨v', w', e1, ?_, ?_, e3⟩
    · show World.ownsRow w' base R.T R.k v' (L ++ M).length (R.flat (L ++ M))
      rw [R.flat_append, List.length_append, ← hM.len]
      exact e2
    · exact (Below.refl base w).grown e3 hbase (fun k hk => by
        rcases hown.2 with ⟨h2, _⟩ | ⟨g, cap, cur, hv, hg, _⟩
        · rw [h2] at hk; cases hk
        · rw [hv] at hk; injection hk with hk; dsimp only at hk; omega)
theorem append_list {t : TypeId} {bytes : Nat} (hT : Ty P t R bytes) (hgd : o.guard = none) (s x : Operand) (ho : o.op = .call { callee := .builtin .append, args := #[s, x], argTypes := #[t, t] })
    {base : Nat} {v : Value} {L : List α} (hs : a.eval s = v) (hown : R.Own w base v L) {sa : Option Addr} {m c : Nat} {M : List α} (hx : a.eval x = .slice sa m c) (hM : R.Sl w sa m c M) (hc : sa = none → c = 0)
    (hmax : L.length + m ≤ maxLen) (hbytes : (L.length + m) * bytes ≤ 140737488355328) (hbase : base ≤ w.heap.size)
    (h : ∀ v' w', R.Own w' base v' (L ++ M) → Below base w w' → w.grownBy w' v.ownBlock → wpList P ops Q rest (a.put o.dst v') w') : wpList P ops Q (o :: rest) a w :=
  wpList_plain hgd fun K hK => by
    obtain ⟨v', w', e1, e2, e3, e4⟩ := run_append_list hT hown hM hc hmax hbytes hbase (ty := o.type)
    have hk := hK _ _ (h v' w' e2 e3 e4)
    unfold Oper.wp execOp
    simp only [ho, resolve, invoke, builtin, Sem.run_bind, Sem.run_pure, Result.andThen_ok, List.map_toArray, List.map_cons, List.map_nil, hs, hx, e1]
    exact hk

theorem step_append {t : TypeId} {v u v' : Value} {w' : World} (hgd : o.guard = none) (s x : Operand) (ho : o.op = .call { callee := .builtin .append, args := #[s, x], argTypes := #[t, t] }) (hs : a.eval s = v) (hx : a.eval x = u)
    (hrun : (Builtin.append_ #[t, t] o.type #[v, u]).run P w = .ok v' w') (h : wpList P ops Q rest (a.put o.dst v') w') : wpList P ops Q (o :: rest) a w :=
  wpList_plain hgd fun K hK => by
    have hk := hK _ _ h
    unfold Oper.wp execOp
    simp only [ho, resolve, invoke, builtin, Sem.run_bind, Sem.run_pure, Result.andThen_ok, List.map_toArray, List.map_cons, List.map_nil, hs, hx, hrun]
    exact hk
/-- storing cells from a place on -/
theorem run_storeCells' {P : Program} (b o : Nat) (T : TypeId) : ∀ (vs : List Value) (i : Nat) (w : World) (cur : Array Value), w.heap[b]? = some (.cells cur T (0, 0)) → (∀ v ∈ vs, v.oneCell' = true) → o + i + vs.length ≤ cur.size →
    ∃ w' cur', (storeCells ⟨b, o, none⟩ vs i).run P w = .ok () w' ∧ w'.heap[b]? = some (.cells cur' T (0, 0)) ∧ cur'.size = cur.size ∧ (∀ q, cur'[q]? = if o + i ≤ q ∧ q < o + i + vs.length then vs[q - (o + i)]? else cur[q]?) ∧ SetB w w' b (.cells cur' T (0, 0))
  | [], i, w, cur, h, _, _ => ⟨w, cur, rfl, h, rfl, fun q => by rw [if_neg (by simp)], SetB.self h⟩
  | v :: r, i, w, cur, h, h1, hs => by
    have hlt : o + i < cur.size := by simp at hs; omega
    have hc : w.cell? ⟨b, o + i, none⟩ = some cur[o + i] := cell_of h (by simp [hlt])
    have hf : w.frozen? ⟨b, o + i, none⟩ = false := free_of h
    have ha : (Addr.add ⟨b, o, none⟩ i) = ⟨b, o + i, none⟩ := by unfold Addr.add; split <;> simp_all
    obtain ⟨w', cur', e1, e2, e3, e4, e5⟩ := run_storeCells' b o T r (i + 1) (w.setCell ⟨b, o + i, none⟩ v) (cur.setIfInBounds (o + i) v) (setCell_blk h _ _) (fun u hu => h1 u (List.mem_cons_of_mem _ hu)) (by simp at hs ⊢; omega)
    refine ⟨w', cur', ?_, e2, by simpa using e3, fun q => ?_, ((SetB.self h).store (lt_of_blk h) v).trans e5⟩
    · unfold storeCells
      simp only [Sem.run_bind, ha, run_store P w _ v .plain (h1 v (by simp)), hc, hf, Bool.false_eq_true, if_false, Result.andThen]
      exact e1
    · rw [e4 q, Array.getElem?_setIfInBounds]
      simp only [List.length_cons]
      by_cases hq : o + i = q
      · subst hq
        rw [if_neg (by omega), if_pos rfl, if_pos hlt, if_pos (by omega)]
        simp
      · by_cases h4 : o + (i + 1) ≤ q ∧ q < o + (i + 1) + r.length
        · rw [if_pos h4, if_pos (by omega)]
          rw [show q - (o + i) = (q - (o + (i + 1))) + 1 by omega, List.getElem?_cons_succ]
        · rw [if_neg h4, if_neg hq, if_neg (by omega)]
theorem zeroCells_oneCell (z : Array Value) (h : ∀ v ∈ z.toList, v.oneCell' = true) (n : Nat) : ∀ v ∈ (Builtin.zeroCells z n).toList, v.oneCell' = true := by
  intro v hv
  unfold Builtin.zeroCells at hv
  simp only [Array.toList_map, List.mem_map] at hv
  obtain ⟨i, hi, rfl⟩ := hv
  simp at hi
  have hz : i % z.size < z.size := Nat.mod_lt _ (by rcases Nat.eq_zero_or_pos z.size with h0 | h0; rw [h0] at hi; simp at hi; exact h0)
  rw [getElem!_pos z _ hz]
  exact h _ (by simp)
/-- clear of a slice within a block of the call's own -/
theorem run_clear_in {t ty : TypeId} {T : TypeId} {z : Value} {k : Nat} (ht : P.underlying t = some (.slice T)) (hz : ∀ w, (zeroValue T).run P w = .ok z w) (hk : z.cells.size = k) (h1 : ∀ v ∈ z.cells.toList, v.oneCell' = true)
    (w : World) (b i n c cap : Nat) (cur : Array Value) (h : w.heap[b]? = some (.cells cur T (0, 0))) (hs : cur.size = cap * k) (hin : i + n ≤ cap) :
    ∃ w' cur', (Builtin.clear_ #[t] ty #[.slice (some ⟨b, i * k, none⟩) n c]).run P w = .ok (.tuple #[]) w' ∧ w'.heap[b]? = some (.cells cur' T (0, 0)) ∧ cur'.size = cur.size ∧ (∀ q, q < i * k → cur'[q]? = cur[q]?) ∧ SetB w w' b (.cells cur' T (0, 0)) := by
  cases n with
  | zero => exact ⟨w, cur, by simp [Builtin.clear_, run_underlying ht, Result.andThen], h, rfl, fun _ _ => rfl, SetB.self h⟩
  | succ n =>
    have hl : (Builtin.zeroCells z.cells (n + 1)).toList.length = (n + 1) * k := by rw [Array.length_toList, size_zeroCells, hk]
    obtain ⟨w', cur', e1, e2, e3, e4, e5⟩ := run_storeCells' (P := P) b (i * k) T (Builtin.zeroCells z.cells (n + 1)).toList 0 w cur h
      (zeroCells_oneCell _ h1 _) (by
        rw [hl, hs, Nat.add_zero, ← Nat.add_mul]
        exact Nat.mul_le_mul_right k hin)
    refine ⟨w', cur', ?_, e2, e3, fun q hq => by rw [e4 q, if_neg (by omega)], e5⟩
    simp only [Builtin.clear_, List.getElem?_toArray, List.getElem?_cons_zero, Sem.run_bind, run_underlying ht, Result.andThen, hz, Sem.run_pure]
    rw [e1]
/-- append(s[:i], s[j:]...) in place -/
theorem run_append_within {t ty : TypeId} {bytes : Nat} (hT : Ty P t R bytes) {w : World} {g cap i j n : Nat} {L : List α} (hL : L.length = n) (hblk : ∃ cur, w.heap[g]? = some (.cells cur R.T (0, 0)) ∧ cur.size = cap * R.k) (hr : R.Row w g 0 L) (hij : i ≤ j) (hjn : j ≤ n) (hnc : n ≤ cap) (m c : Nat) (hm : m = n - j) (ad : Addr) (had : 0 < m → ad = ⟨g, j * R.k, none⟩) :
    ∃ w' cur', (Builtin.append_ #[t, t] ty #[.slice (some ⟨g, 0, none⟩) i cap, .slice (some ad) m c]).run P w = .ok (.slice (some ⟨g, 0, none⟩) (i + m) cap) w' ∧
      w'.heap[g]? = some (.cells cur' R.T (0, 0)) ∧ cur'.size = cap * R.k ∧ R.Row w' g 0 (L.take i ++ L.drop j) ∧ But w w' [g] := by
  subst hm
  subst hL
  obtain ⟨cur, hb, hs⟩ := hblk
  obtain ⟨inf, z, h1, h2, h3, h4, h5⟩ := hT.hi
  have hd : R.Row w g (j * R.k) (L.drop j) := by have := hr.drop j; rwa [Nat.zero_add] at this
  have hnl : (R.flat (L.drop j)).length = (L.length - j) * R.k := by rw [R.flat_length, List.length_drop]
  have hfit : i * R.k + (L.length - j) * R.k ≤ cur.size := by rw [hs, ← Nat.add_mul]; exact Nat.mul_le_mul_right _ (by omega)
  have hnews : ∀ q u, (R.flat (L.drop j))[q]? = some u → w.cell? (ad.add q) = some u := by
    rcases Nat.eq_zero_or_pos (L.length - j) with h0 | h0
    · have : L.drop j = [] := List.drop_eq_nil_of_le (by omega)
      rw [this]; intro q u hu; simp [flat] at hu
    · rw [had h0]; exact news_of_row hd
  have hrun := run_append_room (P := P) w t ty R.T inf hT.ht h1 g i cap cur hb ad (L.length - j) c (R.flat (L.drop j)) (by rw [hnl, h3]) hnews (fun u hu => R.flat_cell1 _ u hu) (by omega) (by rw [h3, hnl]; exact hfit)
  rw [h3] at hrun
  refine ⟨_, _, hrun, setRow_heap w g cur _ R.T _ hb, ?_, ?_, ⟨rfl, rfl, rfl, by simp, fun k hk hn => setRow_other w g k _ (fun e => hn (by simp [e]))⟩⟩
  · simp only [List.size_toArray, List.length_append, List.length_take, List.length_drop, Array.length_toList, hnl]
    omega
  · have hlt : g < w.heap.size := lt_of_blk hb
    refine ⟨by simpa using hlt, fun a ha q hq => ?_⟩
    have hb' := setRow_heap w g cur (cur.toList.take (i * R.k) ++ R.flat (L.drop j) ++ cur.toList.drop (i * R.k + (R.flat (L.drop j)).length)).toArray R.T (0, 0) hb
    have hti : (cur.toList.take (i * R.k)).length = i * R.k := by simp; omega
    rw [show w.setRow g _ = _ from rfl, World.cell?, hb']
    dsimp only
    rw [Nat.zero_add]
    simp only [Option.isSome_none, Bool.false_eq_true, if_false, List.getElem?_toArray]
    rw [List.length_append, List.length_take, List.length_drop, Nat.min_eq_left (by omega)] at ha
    by_cases hai : a < i
    · have hl := mul_lt hai hq
      rw [List.append_assoc, List.getElem?_append_left (by omega), List.getElem?_take, if_pos (by omega)]
      have := hr.get a (by omega) q hq
      rw [Nat.zero_add] at this
      simp only [World.cell?, hb, Option.isSome_none, Bool.false_eq_true, if_false] at this
      rw [Array.getElem?_toList, this]
      have : L.getD a default = (L.take i ++ L.drop j).getD a default := by
        simp [List.getD_eq_getElem?_getD, List.getElem?_append, hai, show a < L.length by omega, show min i L.length = i by omega]
      rw [this]
    · have hl : i * R.k ≤ a * R.k := Nat.mul_le_mul_right _ (by omega)
      have hl2 : (a - i) * R.k + q < (L.length - j) * R.k := mul_lt (by omega) hq
      rw [List.append_assoc, List.getElem?_append_right (by omega), hti, List.getElem?_append_left (by
        rw [hnl]; rw [Nat.sub_mul] at hl2; omega)]
      have e : a * R.k + q - i * R.k = (a - i) * R.k + q := by rw [Nat.sub_mul]; omega
      rw [e, R.flat_get _ _ _ (by simp; omega) hq]
      have : (L.drop j).getD (a - i) default = (L.take i ++ L.drop j).getD a default := by
        simp [List.getD_eq_getElem?_getD, List.getElem?_append, hai, show min i L.length = i by omega]
      rw [this]
end Rep
end Go.Proofs.Ytadoflcomienoaa
/- A region that draws its order: a head that only reads or calls what leaves the world in a class, and a tail in a forced order: one walk, in the order of the text. -/
namespace Go.Proofs.Ytadoflcomienoaa
open Go Go.RowKit

section
variable {P : Program} {ops : Array Oper} {md : Region.Mode} {C : World → Prop}

/-- so many more operations come up, all of the head, each quiet; then L -/
def headQ (P : Program) (md : Region.Mode) (ops : Array Oper) (C : World → Prop) (n : Nat) (L : Array Bool → Act → Prop) : Nat → Array Bool → Act → Prop
  | 0, listed, a => L listed a
  | f + 1, listed, a => Region.ready md ops listed ≠ [] ∧ ∀ i ∈ Region.ready md ops listed, i < n ∧ qOp P ops C i (headQ P md ops C n L f (listed.setIfInBounds i true)) a

theorem any_of_headQ {n g : Nat} {L : Array Bool → Act → Prop} {Q' : Exit → Act → World → Prop} (hL : ∀ listed a w, C w → L listed a → wpAny P md ops Q' g listed a w) (f : Nat) :
    ∀ (listed : Array Bool) (a : Act) (w : World), C w → headQ P md ops C n L f listed a → wpAny P md ops Q' (f + g) listed a w := by
  induction f with
  | zero => intro listed a w hw h; rw [Nat.zero_add]; exact hL _ _ _ hw h
  | succ f ih =>
    intro listed a w hw h
    rw [Nat.succ_add]
    exact ⟨fun h0 => absurd h0 h.1, fun i hi => wpOp_of_qOp hw (fun a' w' hw' h' => ih _ a' w' hw' h') (h.2 i hi).2⟩

/-- what may come up now, and yields the same in every world of the class, may be taken first -/
theorem headQ_first {n i : Nat} {oi : Oper} {v : Value} {L : Array Bool → Act → Prop} (hi : ops[i]? = some oi) (hsel : ∀ (j : Nat) (o : Oper) cs b, ops[j]? = some o → o.op ≠ .select cs b)
    (hs : Region.sinkB md ops n = true) (hc : Region.chainB md ops n = true) (hn : n < ops.size) (hin : i < n) (hdone : ∀ listed a, L listed a → ∀ j ∈ Region.ready md ops listed, n ≤ j) (f : Nat) :
    ∀ (listed : Array Bool) (a : Act), HeadInv md ops n listed →
      (∀ j oj, ops[j]? = some oj → j ≠ i → listed.getD j true = false → (∀ e ∈ oj.after, Region.binds md e = true → e.on ≠ i) → oi.apart ops oj = true) →
      i ∈ Region.ready md ops listed → YieldsIn P ops C oi v a → headQ P md ops C n L f (listed.setIfInBounds i true) (a.put oi.dst v) → headQ P md ops C n L (f + 1) listed a := by
  induction f with
  | zero =>
    intro listed a inv _ hr hy H
    have hun := (mem_ready.1 hr).1
    refine ⟨fun h => (by rw [h] at hr; cases hr), fun j hj => ?_⟩
    have hjn : j < n := Nat.lt_of_not_le fun h => tail_waits hs hc hn inv _ i rfl hin hun j h hj
    refine ⟨hjn, ?_⟩
    by_cases hji : j = i
    · subst hji; exact hy.qOp hi H
    · exact absurd (hdone _ _ H j (ready_mono hj hji)) (by omega)
  | succ f ih =>
    intro listed a inv hfree hr hy H
    have hun := (mem_ready.1 hr).1
    refine ⟨fun h => (by rw [h] at hr; cases hr), fun j hj => ?_⟩
    have hjn : j < n := Nat.lt_of_not_le fun h => tail_waits hs hc hn inv _ i rfl hin hun j h hj
    refine ⟨hjn, ?_⟩
    by_cases hji : j = i
    · subst hji; exact hy.qOp hi H
    obtain ⟨hjun, oj, hoj, hall⟩ := mem_ready.1 hj
    have hnot : ∀ e ∈ oj.after, Region.binds md e = true → e.on ≠ i := by
      intro e he hb heq
      have h1 := hall e he hb
      rw [heq, getD_both hun] at h1
      cases h1
    have h2 := qOp_put hoj (hfree j oj hoj hji hjun hnot) (fun cs b => hsel i oi cs b hi) (fun cs b => hsel j oj cs b hoj) hy (H.2 j (ready_mono hj hji)).2
    refine qOp_mono (fun a' h3 => ih (listed.setIfInBounds j true) a' (inv.set hj hjn) ?_ (ready_mono hr (Ne.symm hji)) h3.1 ?_) h2
    · intro k ok hk hki hun' hno
      refine hfree k ok hk hki ?_ hno
      by_cases hjk : j = k
      · subst hjk; exact hjun
      · rw [getD_set_ne true hjk] at hun'; exact hun'
    · rw [Array.setIfInBounds_comm _ _ hji]; exact h3.2

theorem headQ_lex {n g : Nat} {Lq : Act → Prop} (hsel : Region.noSelect ops = true) (hs : Region.sinkB md ops n = true) (hc : Region.chainB md ops n = true) (hn : n < ops.size) (l : List Oper) :
    ∀ (k : Nat) (listed : Array Bool) (a : Act), (∀ j, j < l.length → l[j]? = ops[k + j]?) → k + l.length = n → HeadInv md ops n listed →
    Region.lexHead md ops g l.length k listed = true → wpQuiet P ops C Lq l a → headQ P md ops C n (fun listed' a' => Region.seqB md ops g n listed' = true ∧ Lq a') l.length listed a := by
  induction l with
  | nil =>
    intro k listed a _ hk _ hB h
    have : k = n := by simpa using hk
    subst this
    exact ⟨by simpa [Region.lexHead] using hB, h⟩
  | cons o l ih =>
    intro k listed a hl hk inv hB h
    have h0 : ops[k]? = some o := by simpa using (hl 0 (by simp)).symm
    simp only [List.length_cons, Region.lexHead, Bool.and_eq_true] at hB
    obtain ⟨⟨hr, hf⟩, hB'⟩ := hB
    simp only [List.length_cons] at hk
    have hr' : k ∈ Region.ready md ops listed := by simpa using hr
    have hq : qOp P ops C k (wpQuiet P ops C Lq l) a := by unfold qOp; simp only [h0]; exact h
    obtain ⟨v, hy, hK⟩ := yieldsIn_of_qOp h0 hq
    refine headQ_first h0 (Region.noSelect_spec hsel) hs hc hn (by omega) (fun listed' a' hL => seqB_ready hL.1) l.length listed a inv (Region.free_spec h0 hf) hr' hy ?_
    refine ih (k + 1) _ _ (fun j hj => ?_) (by omega) (inv.set hr' (by omega)) hB' hK
    have := hl (j + 1) (by simp; omega)
    simpa [Nat.add_assoc, Nat.add_comm 1 j] using this

/-- the region: n operations of the head, in whatever order; then the rest -/
theorem wp_region_quiet_tail {id : Nat} {Q : Exit → Act → World → Prop} {a : Act} {w : World} {l : List Oper} (C : World → Prop) (n : Nat) (hm : P.follows .mixedOrders = true) (hB : Region.lexTailB .any l.toArray n = true) (hC : C w.drew)
    (h : wpQuiet P l.toArray C (fun a' => ∀ w', C w' → wpList P l.toArray Q (l.drop n) a' w') (l.take n) a) : (Code.region id l.toArray true).wp P Q a w := by
  simp only [Region.lexTailB, Bool.and_eq_true, decide_eq_true_eq] at hB
  obtain ⟨⟨⟨⟨hsel, hn⟩, hs⟩, hc⟩, hlex⟩ := hB
  have hn' : n < l.length := by simpa using hn
  have htl : (l.take n).length = n := by simp; omega
  have hdl : (l.drop n).length = l.toArray.size - n := by simp
  have inv0 : HeadInv .any l.toArray n (Array.replicate l.toArray.size false) :=
    ⟨by simp, fun j oj _ hl => (by rw [getD_replicate_false] at hl; cases hl), fun t _ ht => getD_in (by simpa using ht) (getD_replicate_false _ _)⟩
  have H := headQ_lex (md := .any) (g := l.toArray.size - n) hsel hs hc hn (l.take n) 0 _ a (fun j hj => by
    have hj' : j < n := by rw [htl] at hj; exact hj
    simp [hj']) (by simpa using htl) inv0 (by rw [htl]; exact hlex) h
  refine wp_region_any hm ?_
  have := any_of_headQ (Q' := Q) (g := l.toArray.size - n) (fun listed a' w' hw' hL => by
    have := wpAny_of_seq (md := .any) (Q' := Q) (l.drop n) n listed a' w' (fun j => by simp [List.getElem?_drop]) (by rw [hdl]; exact hL.1) (hL.2 w' hw')
    rwa [hdl] at this) _ _ _ _ hC H
  rw [htl, show n + (l.toArray.size - n) = l.toArray.size by omega] at this
  exact this
end
end Go.Proofs.Ytadoflcomienoaa
/- A region that draws its order: what only computes may be taken first; the rest comes up one by one. -/
namespace Go.Proofs.Ytadoflcomienoaa
open Go Go.RowKit

section
variable {P : Program} {ops : Array Oper} {md : Region.Mode}

/-- operations that yield the same in every world, one behind the other; then L -/
def wpPure (P : Program) (ops : Array Oper) (L : Act → Prop) : List Oper → Act → Prop
  | [], a => L a
  | o :: rest, a => if Region.wanted o (yielded ops a.tmps) = true then ∃ v, (∀ w, (execOp a.eval o).run P w = .ok (.value v) w) ∧ wpPure P ops L rest (a.put o.dst v) else wpPure P ops L rest (a.put o.dst undef)
theorem wpPure_nil {L : Act → Prop} {a : Act} (h : L a) : wpPure P ops L [] a := h
theorem wpPure_step {L : Act → Prop} {a : Act} {o : Oper} {rest : List Oper}
    (h : ∀ K : Act → Prop, (∀ a, wpPure P ops L rest a → K a) → if Region.wanted o (yielded ops a.tmps) = true then ∃ v, (∀ w, (execOp a.eval o).run P w = .ok (.value v) w) ∧ K (a.put o.dst v) else K (a.put o.dst undef)) : wpPure P ops L (o :: rest) a :=
  h _ (fun _ h => h)

def pick (l : List Oper) : List Nat → List Oper
  | [] => []
  | i :: r => l.getD i default :: pick l r
/-- each comes up alone -/
def soloB (md : Region.Mode) (ops : Array Oper) : List Nat → Array Bool → Bool
  | [], listed => (Region.ready md ops listed).isEmpty
  | i :: r, listed => decide (Region.ready md ops listed = [i]) && soloB md ops r (listed.setIfInBounds i true)
/-- those of hd may be taken first, in this order; those of tl come up behind them one by one -/
def pureB (md : Region.Mode) (ops : Array Oper) (tl : List Nat) : List Nat → Array Bool → Bool
  | [], listed => soloB md ops tl listed
  | i :: r, listed => (Region.ready md ops listed).contains i && Region.free md ops listed i && pureB md ops tl r (listed.setIfInBounds i true)

theorem ready_lt {listed : Array Bool} {i : Nat} (h : i ∈ Region.ready md ops listed) : ∃ o, ops[i]? = some o := by
  obtain ⟨_, o, ho, _⟩ := mem_ready.1 h
  exact ⟨o, ho⟩
theorem wpAny_of_solo {Q : Exit → Act → World → Prop} : ∀ (tl : List Nat) (listed : Array Bool) (a : Act) (w : World), soloB md ops tl listed = true → wpList P ops Q (pick ops.toList tl) a w → wpAny P md ops Q tl.length listed a w
  | [], listed, a, w, hB, h => wpAny_done (by simpa [soloB] using hB) h _
  | i :: r, listed, a, w, hB, h => by
    simp only [soloB, Bool.and_eq_true, decide_eq_true_eq] at hB
    obtain ⟨o, ho⟩ := ready_lt (md := md) (ops := ops) (listed := listed) (i := i) (by rw [hB.1]; simp)
    refine wpAny_all hB.1 (by simp) fun j hj => ?_
    obtain rfl : j = i := by simpa using hj
    have hp : pick ops.toList (j :: r) = o :: pick ops.toList r := by simp [pick, List.getD_eq_getElem?_getD, ho]
    rw [hp] at h
    unfold wpOp
    simp only [ho]
    unfold wpList at h
    by_cases hw : Region.wanted o (yielded ops a.tmps) = true
    · rw [if_pos hw] at h ⊢
      exact h.imp (Oper.wp_mono fun a' w' h' => wpAny_of_solo r _ a' w' hB.2 h') id
    · rw [if_neg hw] at h ⊢
      exact wpAny_of_solo r _ _ w hB.2 h
theorem wpAny_of_pure {Q : Exit → Act → World → Prop} (hsel : Region.noSelect ops = true) (hQ : ∀ c (a : Act) d v w, Q (.panic c) (a.put d v) w → Q (.panic c) a w) {tl : List Nat} {w : World} : ∀ (hd : List Nat) (listed : Array Bool) (a : Act), pureB md ops tl hd listed = true → wpPure P ops (fun a' => wpList P ops Q (pick ops.toList tl) a' w) (pick ops.toList hd) a → wpAny P md ops Q (hd.length + tl.length) listed a w
  | [], listed, a, hB, h => by rw [List.length_nil, Nat.zero_add]; exact wpAny_of_solo tl listed a w hB h
  | i :: r, listed, a, hB, h => by
    simp only [pureB, Bool.and_eq_true] at hB
    obtain ⟨⟨hr, hf⟩, hB'⟩ := hB
    obtain ⟨o, ho⟩ := ready_lt (md := md) (ops := ops) (listed := listed) (i := i) (by simpa using hr)
    have hp : pick ops.toList (i :: r) = o :: pick ops.toList r := by simp [pick, List.getD_eq_getElem?_getD, ho]
    rw [hp] at h
    rw [List.length_cons, Nat.succ_add]
    unfold wpPure at h
    by_cases hw : Region.wanted o (yielded ops a.tmps) = true
    · rw [if_pos hw] at h
      obtain ⟨v, hv, hrest⟩ := h
      exact wpAny_take ho hsel hf hr (fun c a w => hQ c a _ _ w) (.inl ⟨hw, hv⟩) (wpAny_of_pure hsel hQ r _ _ hB' hrest)
    · rw [if_neg hw] at h
      exact wpAny_take ho hsel hf hr (fun c a w => hQ c a _ _ w) (.inr ⟨by simpa using hw, rfl⟩) (wpAny_of_pure hsel hQ r _ _ hB' h)
/-- the region: those of hd first, then those of tl -/
theorem wp_region_pure {id : Nat} {Q : Exit → Act → World → Prop} {a : Act} {w : World} {l : List Oper} (hd tl : List Nat) (hm : P.follows .mixedOrders = true)
    (hB : (Region.noSelect l.toArray && decide (hd.length + tl.length = l.length) && pureB .any l.toArray tl hd (Array.replicate l.length false)) = true) (hQ : ∀ c (a : Act) d v w, Q (.panic c) (a.put d v) w → Q (.panic c) a w)
    (h : wpPure P l.toArray (fun a' => wpList P l.toArray Q (pick l tl) a' w.drew) (pick l hd) a) : (Code.region id l.toArray true).wp P Q a w := by
  simp only [Bool.and_eq_true, decide_eq_true_eq] at hB
  obtain ⟨⟨h1, h2⟩, h3⟩ := hB
  refine wp_region_any hm ?_
  have := wpAny_of_pure (P := P) (md := .any) (w := w.drew) h1 hQ hd _ a h3 h
  rw [h2] at this
  simpa using this
end
end Go.Proofs.Ytadoflcomienoaa
/- A region that draws its order: a head that reads, or calls what leaves the world in a class; then what only computes; then the rest one by one. -/
namespace Go.Proofs.Ytadoflcomienoaa
open Go Go.RowKit

section
variable {P : Program} {ops : Array Oper} {md : Region.Mode} {C : World → Prop}

/-- behind a head of n none comes up while one of the head has not -/
def TW (md : Region.Mode) (ops : Array Oper) (n : Nat) : Prop :=
  ∀ listed, HeadInv md ops n listed → ∀ i, i < n → listed.getD i true = false → ∀ t, n ≤ t → t ∉ Region.ready md ops listed
def restB (md : Region.Mode) (ops : Array Oper) (h : Nat) : Bool :=
  (List.range ops.size).all fun t => decide (t ≤ h) || (List.range t).any fun s => decide (h ≤ s) && Region.waitsFor md ops t s
theorem all_before {n h : Nat} {listed : Array Bool} (hs : Region.sinkB md ops h = true) (inv : HeadInv md ops n listed) (hh : listed.getD h false = true) : ∀ (d i : Nat), h - i = d → i < h → listed.getD i false = true := by
  intro d
  induction d using Nat.strongRecOn with
  | _ d ih =>
    intro i hd hi
    have h1 := List.all_eq_true.1 hs i (List.mem_range.2 hi)
    obtain ⟨j, hj, hj2⟩ := List.any_eq_true.1 h1
    simp only [Bool.and_eq_true, decide_eq_true_eq] at hj2
    obtain ⟨oj, hoj, e, he, hb, hon⟩ := Region.waitsFor_spec hj2.2
    have hjle : j ≤ h := by have := List.mem_range.1 hj; omega
    have hl : listed.getD j false = true := by
      by_cases hjh : j = h
      · rw [hjh]; exact hh
      · exact ih (h - j) (by omega) j rfl (by omega)
    rw [← hon]
    exact inv.closed j oj hoj hl e he hb
theorem tw_of {h : Nat} (hs : Region.sinkB md ops h = true) (hr : restB md ops h = true) : TW md ops (h + 1) := by
  intro listed inv i hi hun t ht htr
  obtain ⟨_, ot, hot, hall⟩ := mem_ready.1 htr
  have htlt : t < ops.size := (Array.getElem?_eq_some_iff.1 hot).1
  have h1 := List.all_eq_true.1 hr t (List.mem_range.2 htlt)
  simp only [Bool.or_eq_true, decide_eq_true_eq] at h1
  rcases h1 with h1 | h1
  · omega
  · obtain ⟨s, hs1, hs2⟩ := List.any_eq_true.1 h1
    simp only [Bool.and_eq_true, decide_eq_true_eq] at hs2
    obtain ⟨o', ho', e, he, hb, hon⟩ := Region.waitsFor_spec hs2.2
    have : o' = ot := Option.some.inj (ho'.symm.trans hot)
    subst this
    have h2 := hall e he hb
    rw [hon] at h2
    have hst : s < t := List.mem_range.1 hs1
    by_cases hsh : s = h
    · subst hsh
      by_cases his : i = s
      · subst his; rw [getD_both hun] at h2; cases h2
      · have := all_before hs inv h2 (s - i) i rfl (by omega)
        rw [getD_both hun] at this; cases this
    · rw [getD_both (inv.tail s (by omega) (by omega))] at h2; cases h2

theorem headT_first {n i : Nat} {oi : Oper} {v : Value} {L : Array Bool → Act → Prop} (hi : ops[i]? = some oi) (hsel : ∀ (j : Nat) (o : Oper) cs b, ops[j]? = some o → o.op ≠ .select cs b)
    (htw : TW md ops n) (hin : i < n) (hdone : ∀ listed a, L listed a → ∀ j ∈ Region.ready md ops listed, n ≤ j) (f : Nat) :
    ∀ (listed : Array Bool) (a : Act), HeadInv md ops n listed →
      (∀ j oj, ops[j]? = some oj → j ≠ i → listed.getD j true = false → (∀ e ∈ oj.after, Region.binds md e = true → e.on ≠ i) → oi.apart ops oj = true) →
      i ∈ Region.ready md ops listed → YieldsIn P ops C oi v a → headQ P md ops C n L f (listed.setIfInBounds i true) (a.put oi.dst v) → headQ P md ops C n L (f + 1) listed a := by
  induction f with
  | zero =>
    intro listed a inv _ hr hy H
    have hun := (mem_ready.1 hr).1
    refine ⟨fun h => (by rw [h] at hr; cases hr), fun j hj => ?_⟩
    have hjn : j < n := Nat.lt_of_not_le fun h => htw _ inv i hin hun j h hj
    refine ⟨hjn, ?_⟩
    by_cases hji : j = i
    · subst hji; exact hy.qOp hi H
    · exact absurd (hdone _ _ H j (ready_mono hj hji)) (by omega)
  | succ f ih =>
    intro listed a inv hfree hr hy H
    have hun := (mem_ready.1 hr).1
    refine ⟨fun h => (by rw [h] at hr; cases hr), fun j hj => ?_⟩
    have hjn : j < n := Nat.lt_of_not_le fun h => htw _ inv i hin hun j h hj
    refine ⟨hjn, ?_⟩
    by_cases hji : j = i
    · subst hji; exact hy.qOp hi H
    obtain ⟨hjun, oj, hoj, hall⟩ := mem_ready.1 hj
    have hnot : ∀ e ∈ oj.after, Region.binds md e = true → e.on ≠ i := by
      intro e he hb heq
      have h1 := hall e he hb
      rw [heq, getD_both hun] at h1
      cases h1
    have h2 := qOp_put hoj (hfree j oj hoj hji hjun hnot) (fun cs b => hsel i oi cs b hi) (fun cs b => hsel j oj cs b hoj) hy (H.2 j (ready_mono hj hji)).2
    refine qOp_mono (fun a' h3 => ih (listed.setIfInBounds j true) a' (inv.set hj hjn) ?_ (ready_mono hr (Ne.symm hji)) h3.1 ?_) h2
    · intro k ok hk hki hun' hno
      refine hfree k ok hk hki ?_ hno
      by_cases hjk : j = k
      · subst hjk; exact hjun
      · rw [getD_set_ne true hjk] at hun'; exact hun'
    · rw [Array.setIfInBounds_comm _ _ hji]; exact h3.2
/-- the head in the order of the text; behind it what is there comes of n on, and a check of its own -/
def lexT (md : Region.Mode) (ops : Array Oper) (n : Nat) (chk : Array Bool → Bool) : Nat → Nat → Array Bool → Bool
  | 0, _, listed => (Region.ready md ops listed).all (fun j => decide (n ≤ j)) && chk listed
  | f + 1, k, listed => (Region.ready md ops listed).contains k && Region.free md ops listed k && lexT md ops n chk f (k + 1) (listed.setIfInBounds k true)
theorem headT_lex {n : Nat} {chk : Array Bool → Bool} {Lq : Act → Prop} (hsel : Region.noSelect ops = true) (htw : TW md ops n) (l : List Oper) :
    ∀ (k : Nat) (listed : Array Bool) (a : Act), (∀ j, j < l.length → l[j]? = ops[k + j]?) → k + l.length = n → HeadInv md ops n listed →
    lexT md ops n chk l.length k listed = true → wpQuiet P ops C Lq l a → headQ P md ops C n (fun listed' a' => ((Region.ready md ops listed').all (fun j => decide (n ≤ j)) && chk listed') = true ∧ Lq a') l.length listed a := by
  induction l with
  | nil =>
    intro k listed a _ hk _ hB h
    exact ⟨by simpa [lexT] using hB, h⟩
  | cons o l ih =>
    intro k listed a hl hk inv hB h
    have h0 : ops[k]? = some o := by simpa using (hl 0 (by simp)).symm
    simp only [List.length_cons, lexT, Bool.and_eq_true] at hB
    obtain ⟨⟨hr, hf⟩, hB'⟩ := hB
    simp only [List.length_cons] at hk
    have hr' : k ∈ Region.ready md ops listed := by simpa using hr
    have hq : qOp P ops C k (wpQuiet P ops C Lq l) a := by unfold qOp; simp only [h0]; exact h
    obtain ⟨v, hy, hK⟩ := yieldsIn_of_qOp h0 hq
    refine headT_first h0 (Region.noSelect_spec hsel) htw (by omega) (fun listed' a' hL j hj => ?_) l.length listed a inv (Region.free_spec h0 hf) hr' hy ?_
    · have := hL.1
      simp only [Bool.and_eq_true, List.all_eq_true, decide_eq_true_eq] at this
      exact this.1 j hj
    refine ih (k + 1) _ _ (fun j hj => ?_) (by omega) (inv.set hr' (by omega)) hB' hK
    have := hl (j + 1) (by simp; omega)
    simpa [Nat.add_assoc, Nat.add_comm 1 j] using this

/-- the region: a head of h + 1 in class C; then pu, which only computes; then tl, one by one -/
theorem wp_region_mixed {id : Nat} {Q : Exit → Act → World → Prop} {a : Act} {w : World} {l : List Oper} (C : World → Prop) (h : Nat) (pu tl : List Nat) (hm : P.follows .mixedOrders = true)
    (hB : (Region.noSelect l.toArray && decide (h + 1 ≤ l.length) && decide (pu.length + tl.length = l.length - (h + 1)) && Region.sinkB .any l.toArray h && restB .any l.toArray h && lexT .any l.toArray (h + 1) (pureB .any l.toArray tl pu) (h + 1) 0 (Array.replicate l.length false)) = true)
    (hQ : ∀ c (a : Act) d v w, Q (.panic c) (a.put d v) w → Q (.panic c) a w) (hC : C w.drew)
    (hw : wpQuiet P l.toArray C (fun a' => ∀ w', C w' → wpPure P l.toArray (fun a'' => wpList P l.toArray Q (pick l tl) a'' w') (pick l pu) a') (l.take (h + 1)) a) : (Code.region id l.toArray true).wp P Q a w := by
  simp only [Bool.and_eq_true, decide_eq_true_eq] at hB
  obtain ⟨⟨⟨⟨⟨h1, h2⟩, h3⟩, h4⟩, h5⟩, h6⟩ := hB
  have htl : (l.take (h + 1)).length = h + 1 := by simp; omega
  have inv0 : HeadInv .any l.toArray (h + 1) (Array.replicate l.toArray.size false) :=
    ⟨by simp, fun j oj _ hl => (by rw [getD_replicate_false] at hl; cases hl), fun t _ ht => getD_in (by simpa using ht) (getD_replicate_false _ _)⟩
  have H := headT_lex (md := .any) (chk := pureB .any l.toArray tl pu) h1 (tw_of h4 h5) (l.take (h + 1)) 0 _ a (fun j hj => by
    have hj' : j < h + 1 := by rw [htl] at hj; exact hj
    simp [hj']) (by simpa using htl) inv0 (by rw [htl]; simpa using h6) hw
  refine wp_region_any hm ?_
  have := any_of_headQ (Q' := Q) (g := pu.length + tl.length) (fun listed a' w' hw' hL => by
    have hc := hL.1
    simp only [Bool.and_eq_true] at hc
    exact wpAny_of_pure (P := P) (md := .any) (w := w') h1 hQ pu listed a' hc.2 (hL.2 w' hw')) _ _ _ _ hC H
  rw [htl, show h + 1 + (pu.length + tl.length) = l.toArray.size by simp; omega] at this
  exact this
end
end Go.Proofs.Ytadoflcomienoaa
/- A struct stored whole into, loaded whole out of, a block of its own; a result that lies in a cell. -/
namespace Go.Proofs.Ytadoflcomienoaa
open Go.RowKit

section
variable {P : Program} {ops : Array Oper} {rest : List Oper} {o : Oper} {a : Act} {Q : Exit → Act → World → Prop} {w : World}
theorem run_store_whole {ty T : TypeId} {b : Nat} {cur cells : Array Value} (hb : w.heap[b]? = some (.cells cur T (0, 0))) (hs : cur.size = cells.size) (hi : (P.info? ty).map (·.size) = some cells.size) (h1 : cells.all (·.oneCell') = true) :
    ∃ w1, (Instr.storeAt ty (.pointer (some ⟨b, 0, none⟩)) (.agg cells)).run P w = .ok () w1 ∧ w1.heap[b]? = some (.cells cells T (0, 0)) ∧ SetB w w1 b (.cells cells T (0, 0)) := by
  obtain ⟨w1, cur', e1, e2, e3, e4, e5⟩ := Rep.run_storeCells' (P := P) b 0 T cells.toList 0 w cur hb (fun v hv => (Array.all_eq_true_iff_forall_mem.1 h1) v (by simpa using hv)) (by simp; omega)
  have hc : cur' = cells := by
    apply Array.ext_getElem?
    intro q
    rw [e4 q]
    simp only [Nat.add_zero, Nat.zero_add, Nat.zero_le, true_and, Nat.sub_zero, Array.length_toList]
    split
    · simp
    · rw [Array.getElem?_eq_none (by omega), Array.getElem?_eq_none (by omega)]
  subst hc
  refine ⟨w1, ?_, e2, e5⟩
  cases hq : P.info? ty with
  | none => simp [hq] at hi
  | some i =>
    have hs : cur'.size = i.size := by simp [hq] at hi; omega
    simp only [Instr.storeAt, Instr.sureAddr, Sem.run_bind, Sem.run_pure, Result.andThen_ok]
    simp [storeVar, sizeOf, typeInfo, hq, Value.cells, hs, e1]
/-- the walk stops ahead of a store of such a type -/
theorem halt_store (ty : TypeId) {x y : Operand} (_ho : o.op = .store ty x y) (h : Halted (wpList P ops Q (o :: rest) a w)) : wpList P ops Q (o :: rest) a w := h
theorem store_whole (hgd : o.guard = none) (ty : TypeId) (x y : Operand) (ho : o.op = .store ty x y) (b : Nat) (cells : Array Value) (hx : a.eval x = .pointer (some ⟨b, 0, none⟩)) (hy : a.eval y = .agg cells)
    {cur : Array Value} {T : TypeId} (hb : w.heap[b]? = some (.cells cur T (0, 0))) (hs : cur.size = cells.size) (hi : (P.info? ty).map (·.size) = some cells.size) (h1 : cells.all (·.oneCell') = true)
    (h : ∀ w1, w1.heap[b]? = some (.cells cells T (0, 0)) → SetB w w1 b (.cells cells T (0, 0)) → wpList P ops Q rest (a.put o.dst undef) w1) : wpList P ops Q (o :: rest) a w :=
  wpList_plain hgd fun K hK => by
    obtain ⟨w1, e1, e2, e3⟩ := run_store_whole (P := P) (w := w) hb hs hi h1
    have hk := hK _ _ (h w1 e2 e3)
    unfold Oper.wp execOp
    simp only [ho, hx, hy, Sem.run_bind, e1, Sem.run_pure, Result.andThen_ok]
    exact hk
theorem run_load_whole {ty T : TypeId} {b : Nat} {cells : Array Value} {fr : Nat × Nat} (hb : w.heap[b]? = some (.cells cells T fr)) {d : TypeDesc} (hu : P.underlying ty = some d) (hd : d.isRow = true) (hi : (P.info? ty).map (·.size) = some cells.size) :
    (loadVar ty ⟨b, 0, none⟩).run P w = .ok (.agg cells) w := by
  have hc : w.rangeAt b 0 cells.toList := fun j v hv => by rw [Nat.zero_add]; exact cell_of hb (by simpa using hv)
  have := run_loadVar_mid (P := P) w b 0 ty cells.toList d hc hu hd (by simpa using hi)
  simpa using this
/-- a function's one result lies in a cell -/
theorem ret_cell {fn : Func} {R : Ending → World → Prop} {p : Tmp} {ty T : TypeId} {b : Nat} {cells : Array Value} {fr : Nat × Nat} (hr : fn.results = #[.cell p ty]) (hp : a.tmps.getD p undef = .pointer (some ⟨b, 0, none⟩)) (hd : a.defers = [])
    (hb : w.heap[b]? = some (.cells cells T fr)) {d : TypeDesc} (hu : P.underlying ty = some d) (hdr : d.isRow = true) (hi : (P.info? ty).map (·.size) = some cells.size) (h : R (.returned (.agg cells)) w) : bodyPost P fn R .ret a w := by
  refine bodyPost_ret ?_ hd h
  simp only [results, hr]
  have hp' : a.tmps[p]?.getD undef = .pointer (some ⟨b, 0, none⟩) := by simpa using hp
  simp [asAddr, hp', run_load_whole (P := P) hb hu hdr hi]
end
end Go.Proofs.Ytadoflcomienoaa
