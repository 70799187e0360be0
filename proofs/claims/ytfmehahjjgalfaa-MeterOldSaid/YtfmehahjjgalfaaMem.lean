/- Small facts on memory: a block known whole, and what a store into it leaves. -/
import Derived.WalkKit
import Derived.WalkSpells
import Derived.WalkLawsBesides
import Derived.Deep.QuietTactic
import Derived.BigQuiet
import Derived.Outline
import Derived.Handy
import Derived.Deep.RegionHeld3
import Derived.StillTailTactics
import Derived.Deep.LoopGhost
import Derived.Deep.DeepCutAuto
import Derived.Deep.DeepFit
import Derived.Lib.Hide
namespace Go.Proofs.Ytfmehahjjgalfaa
open Go.RowKit
/-- a goal at which the walk stops -/
def Halted (p : Prop) : Prop := p
theorem halt {p : Prop} (h : Halted p) : p := h
theorem Halted.go {p : Prop} (h : p) : Halted p := h
theorem ret_int {k : IntKind} {a b : Int} (h : a = b) : Ending.returned (.int k a) = .returned (.int k b) := by rw [h]
theorem ret_bool {a b : Bool} (h : a = b) : Ending.returned (.bool a) = .returned (.bool b) := by rw [h]

theorem cell_of {w : World} {b : Nat} {cs : Array Value} {T : TypeId} {fr : Nat × Nat} {o : Nat} {v : Value} (h : w.heap[b]? = some (.cells cs T fr)) (hv : cs[o]? = some v) : w.cell? ⟨b, o, none⟩ = some v := by
  simp [World.cell?, h, hv]
theorem free_of {w : World} {b : Nat} {cs : Array Value} {T : TypeId} {o : Nat} (h : w.heap[b]? = some (.cells cs T (0, 0))) : w.frozen? ⟨b, o, none⟩ = false := by
  simp [World.frozen?, h]
theorem lt_of_blk {w : World} {b : Nat} {o : Obj} (h : w.heap[b]? = some o) : b < w.heap.size := by
  rcases Nat.lt_or_ge b w.heap.size with h' | h'
  · exact h'
  · rw [Array.getElem?_eq_none h'] at h; cases h

/-- w' is w with block b made o, and some draws. -/
structure SetB (w w' : World) (b : Nat) (o : Obj) : Prop where
  os : w'.os = w.os
  tape : w'.tape = w.tape
  output : w'.output = w.output
  heap : w'.heap = w.heap.setIfInBounds b o
theorem SetB.self {w : World} {b : Nat} {o : Obj} (h : w.heap[b]? = some o) : SetB w w b o := ⟨rfl, rfl, rfl, by
  apply Array.ext_getElem?
  intro i
  rw [Array.getElem?_setIfInBounds]
  split
  · rename_i e; subst e; rw [if_pos (lt_of_blk h), h]
  · rfl⟩
theorem SetB.trans {w w1 w2 : World} {b : Nat} {o o' : Obj} (h : SetB w w1 b o) (k : SetB w1 w2 b o') : SetB w w2 b o' := ⟨k.os.trans h.os, k.tape.trans h.tape, k.output.trans h.output, by
  rw [k.heap, h.heap]
  apply Array.ext_getElem?
  intro i
  simp only [Array.getElem?_setIfInBounds, Array.size_setIfInBounds]
  split <;> simp_all⟩
theorem SetB.drew {w w1 : World} {b : Nat} {o : Obj} (h : SetB w w1 b o) : SetB w w1.drew b o := ⟨h.os, h.tape, h.output, h.heap⟩
theorem SetB.drewN {w w1 : World} {b n : Nat} {o : Obj} (h : SetB w w1 b o) : SetB w (w1.drewN n) b o := ⟨h.os, h.tape, h.output, h.heap⟩
theorem SetB.at {w w1 : World} {b : Nat} {o : Obj} (h : SetB w w1 b o) (hb : b < w.heap.size) : w1.heap[b]? = some o := by
  rw [h.heap]; simp [hb]
theorem SetB.other {w w1 : World} {b k : Nat} {o : Obj} (h : SetB w w1 b o) (hb : k ≠ b) : w1.heap[k]? = w.heap[k]? := by
  rw [h.heap, Array.getElem?_setIfInBounds, if_neg (Ne.symm hb)]
theorem SetB.size {w w1 : World} {b : Nat} {o : Obj} (h : SetB w w1 b o) : w1.heap.size = w.heap.size := by rw [h.heap]; simp
theorem SetB.store {w w1 : World} {b o : Nat} {cs : Array Value} {T : TypeId} {fr : Nat × Nat} (h : SetB w w1 b (.cells cs T fr)) (hb : b < w.heap.size) (v : Value) : SetB w (w1.setCell ⟨b, o, none⟩ v) b (.cells (cs.setIfInBounds o v) T fr) :=
  ⟨h.os, h.tape, h.output, by
    have ha := h.at hb
    apply Array.ext_getElem?
    intro i
    simp only [World.setCell, Array.getElem?_modify, Array.getElem?_setIfInBounds]
    split
    · rename_i e; subst e; simp [ha]
    · rename_i e; rw [h.other (Ne.symm e)]⟩
theorem SetB.below {w w1 : World} {b B : Nat} {o : Obj} (h : SetB w w1 b o) (hB : B ≤ b) : Below B w w1 :=
  ⟨h.os, h.tape, h.output, by rw [h.size]; exact Nat.le_refl _, fun k hk => h.other (by omega)⟩
theorem hnew (w : World) (o : Obj) : (w.alloc o).heap[w.heap.size]? = some o := by
  show (w.heap.push o)[w.heap.size]? = _
  simp
theorem hnewAt {w : World} {o : Obj} {n : Nat} (h : n = w.heap.size) : (w.alloc o).heap[n]? = some o := by rw [h]; exact hnew w o
theorem hold {w : World} {b : Nat} {o : Obj} {x : Obj} (h : w.heap[b]? = some x) : (w.alloc o).heap[b]? = some x := (Below.heap_alloc w o b (lt_of_blk h)).trans h
theorem bdn {B : Nat} {a w : World} (h : Below B a w) (n : Nat) : Below B a (w.drewN n) := ⟨h.os, h.tape, h.output, h.size, h.block⟩
theorem heap_ad1 {w : World} {b : Nat} (h : b < w.heap.size) (o : Obj) : ((w.alloc o).drew).heap[b]? = w.heap[b]? := Below.heap_alloc w o b h
theorem heap_ad {w : World} {b : Nat} (h : b < w.heap.size) (o : Obj) (n : Nat) : ((w.alloc o).drewN n).heap[b]? = w.heap[b]? := Below.heap_alloc w o b h

/-- w' is w with new blocks; of the old ones only those of bs may have turned -/
structure But (w w' : World) (bs : List Nat) : Prop where
  os : w'.os = w.os
  tape : w'.tape = w.tape
  output : w'.output = w.output
  size : w.heap.size ≤ w'.heap.size
  block : ∀ k, k < w.heap.size → k ∉ bs → w'.heap[k]? = w.heap[k]?
theorem But.of_below {w w' : World} (h : Below w.heap.size w w') (bs : List Nat) : But w w' bs := ⟨h.os, h.tape, h.output, h.size, fun k hk _ => h.block k hk⟩
theorem But.of_set {w w' : World} {b : Nat} {o : Obj} (h : SetB w w' b o) {bs : List Nat} (hb : b ∈ bs) : But w w' bs := ⟨h.os, h.tape, h.output, by rw [h.size]; exact Nat.le_refl _, fun k _ hk => h.other (fun e => hk (e ▸ hb))⟩
theorem But.trans {a b c : World} {bs : List Nat} (h : But a b bs) (k : But b c bs) : But a c bs :=
  ⟨k.os.trans h.os, k.tape.trans h.tape, k.output.trans h.output, Nat.le_trans h.size k.size, fun i hi hn => (k.block i (Nat.lt_of_lt_of_le hi h.size) hn).trans (h.block i hi hn)⟩
theorem But.refl (w : World) (bs : List Nat) : But w w bs := ⟨rfl, rfl, rfl, Nat.le_refl _, fun _ _ _ => rfl⟩
theorem But.below {w w' : World} {bs : List Nat} (h : But w w' bs) {B : Nat} (hB : B ≤ w.heap.size) (hbs : ∀ b ∈ bs, B ≤ b) : Below B w w' :=
  ⟨h.os, h.tape, h.output, h.size, fun k hk => h.block k (by omega) (fun hm => by have := hbs k hm; omega)⟩

theorem But.alloc {w w' : World} {bs : List Nat} (h : But w w' bs) (o : Obj) : But w (w'.alloc o) bs := h.trans (But.of_below ((Below.refl _ _).alloc (Nat.le_refl _) _) bs)
theorem But.drew {w w' : World} {bs : List Nat} (h : But w w' bs) : But w w'.drew bs := ⟨h.os, h.tape, h.output, h.size, h.block⟩
theorem But.drewN {w w' : World} {bs : List Nat} (h : But w w' bs) (n : Nat) : But w (w'.drewN n) bs := ⟨h.os, h.tape, h.output, h.size, h.block⟩
theorem But.setBlock {w w' : World} {bs : List Nat} (h : But w w' bs) {b : Nat} (hb : w.heap.size ≤ b ∨ b ∈ bs) (o : Obj) : But w (Go.ChangeMaps.setBlock w' b o) bs :=
  ⟨h.os, h.tape, h.output, by simp [Go.ChangeMaps.setBlock]; exact h.size, fun k hk hn => by
    simp only [Go.ChangeMaps.setBlock, Array.getElem?_setIfInBounds]
    rw [if_neg (by rintro rfl; rcases hb with hb | hb; omega; exact hn hb)]
    exact h.block k hk hn⟩
theorem But.setCell {w w' : World} {bs : List Nat} (h : But w w' bs) {a : Addr} (hb : w.heap.size ≤ a.block ∨ a.block ∈ bs) (v : Value) : But w (w'.setCell a v) bs :=
  ⟨h.os, h.tape, h.output, by simp [World.setCell]; exact h.size, fun k hk hn => by
    rw [Below.heap_setCell _ _ _ _ (by rintro rfl; rcases hb with hb | hb; omega; exact hn hb)]
    exact h.block k hk hn⟩

theorem But.mono {w w' : World} {bs cs : List Nat} (h : But w w' bs) (hb : ∀ b ∈ bs, b ∈ cs) : But w w' cs := ⟨h.os, h.tape, h.output, h.size, fun k hk hn => h.block k hk (fun hm => hn (hb k hm))⟩
theorem World.heap_far {w : World} {b j : Nat} (v : Value) (h : b ≠ j) {v' : Value} : (((w.setCell ⟨b, 0, none⟩ v).setCell ⟨b, 2, none⟩ v').heap[j]? = w.heap[j]?) := by
  rw [Below.heap_setCell _ _ _ _ (Ne.symm h), Below.heap_setCell _ _ _ _ (Ne.symm h)]
theorem setCell_blk {w : World} {b : Nat} {cs : Array Value} {T : TypeId} {fr : Nat × Nat} (h : w.heap[b]? = some (.cells cs T fr)) (o : Nat) (v : Value) : (w.setCell ⟨b, o, none⟩ v).heap[b]? = some (.cells (cs.setIfInBounds o v) T fr) := by
  simp [World.setCell, Array.getElem?_modify, h]
theorem But.thenSet {w w1 w2 : World} {bs : List Nat} {b : Nat} {o : Obj} (h : But w w1 bs) (k : SetB w1 w2 b o) (hb : w.heap.size ≤ b ∨ b ∈ bs) : But w w2 bs :=
  ⟨k.os.trans h.os, k.tape.trans h.tape, k.output.trans h.output, by rw [k.size]; exact h.size, fun i hi hn => (k.other (by rintro rfl; rcases hb with hb | hb; omega; exact hn hb)).trans (h.block i hi hn)⟩
theorem Below.step {B : Nat} {w w1 w2 : World} {bs : List Nat} (h : Below B w w1) (hB : B ≤ w1.heap.size) (k : But w1 w2 bs) (hbs : ∀ b ∈ bs, B ≤ b) : Below B w w2 := h.trans (k.below hB hbs)

theorem cell_same {w w' : World} {b o : Nat} (h : w'.heap[b]? = w.heap[b]?) : w'.cell? ⟨b, o, none⟩ = w.cell? ⟨b, o, none⟩ := by simp [World.cell?, h]
theorem undrew {w w2 : World} (h : Below w.drew.heap.size w.drew w2) : Below w.heap.size w w2 := ⟨h.os, h.tape, h.output, h.size, h.block⟩
theorem cell_hold {w : World} {a : Addr} {v : Value} (h : w.cell? a = some v) (o : Obj) : (w.alloc o).cell? a = some v := (World.cell?_alloc_some w a o (by rw [h]; rfl)).trans h
theorem cell_far {w : World} {a p : Addr} {v u : Value} (h : w.cell? a = some v) (hne : p.block ≠ a.block) : (w.setCell p u).cell? a = some v := (World.cell?_setCell_far w p a u hne).trans h
theorem cell_realloc {w : World} {a : Addr} {v : Value} {o o' : Obj} (h : (w.alloc o).cell? a = some v) (hlt : a.block < w.heap.size) : (w.alloc o').cell? a = some v := by
  rw [((Below.refl _ _).alloc (Nat.le_refl _) o' : Below w.heap.size w (w.alloc o')).cell (p := a) hlt]
  rw [((Below.refl _ _).alloc (Nat.le_refl _) o : Below w.heap.size w (w.alloc o)).cell (p := a) hlt] at h
  exact h
end Go.Proofs.Ytfmehahjjgalfaa
