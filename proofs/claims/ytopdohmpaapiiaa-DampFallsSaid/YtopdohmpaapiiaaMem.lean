/- Small facts on memory: a block known whole, and what a store into it leaves. -/
import Derived.WalkKit
import Derived.WalkSpells
import Derived.WalkLawsBesides
import Derived.Deep.QuietTactic
import Derived.BigQuiet
import Derived.Outline
import Derived.Handy
import Derived.Deep.RegionHeld3
import Derived.StillTailTactics
import Derived.Deep.LoopGhost
import Derived.Deep.DeepCutAuto
import Derived.Deep.DeepFit
import Derived.Lib.Hide
namespace Go.Proofs.Ytopdohmpaapiiaa
open Go.RowKit
theorem ret_int {k : IntKind} {a b : Int} (h : a = b) : Ending.returned (.int k a) = .returned (.int k b) := by rw [h]
theorem ret_bool {a b : Bool} (h : a = b) : Ending.returned (.bool a) = .returned (.bool b) := by rw [h]

theorem cell_of {w : World} {b : Nat} {cs : Array Value} {T : TypeId} {fr : Nat × Nat} {o : Nat} {v : Value} (h : w.heap[b]? = some (.cells cs T fr)) (hv : cs[o]? = some v) : w.cell? ⟨b, o, none⟩ = some v := by
  simp [World.cell?, h, hv]
theorem free_of {w : World} {b : Nat} {cs : Array Value} {T : TypeId} {o : Nat} (h : w.heap[b]? = some (.cells cs T (0, 0))) : w.frozen? ⟨b, o, none⟩ = false := by
  simp [World.frozen?, h]
theorem lt_of_blk {w : World} {b : Nat} {o : Obj} (h : w.heap[b]? = some o) : b < w.heap.size := by
  rcases Nat.lt_or_ge b w.heap.size with h' | h'
  · exact h'
  · rw [Array.getElem?_eq_none h'] at h; cases h

/-- w' is w with block b made o, and some draws. -/
structure SetB (w w' : World) (b : Nat) (o : Obj) : Prop where
  os : w'.os = w.os
  tape : w'.tape = w.tape
  output : w'.output = w.output
  heap : w'.heap = w.heap.setIfInBounds b o
theorem SetB.self {w : World} {b : Nat} {o : Obj} (h : w.heap[b]? = some o) : SetB w w b o := ⟨rfl, rfl, rfl, by
  apply Array.ext_getElem?
  intro i
  rw [Array.getElem?_setIfInBounds]
  split
  · rename_i e; subst e; rw [if_pos (lt_of_blk h), h]
  · rfl⟩
theorem SetB.trans {w w1 w2 : World} {b : Nat} {o o' : Obj} (h : SetB w w1 b o) (k : SetB w1 w2 b o') : SetB w w2 b o' := ⟨k.os.trans h.os, k.tape.trans h.tape, k.output.trans h.output, by
  rw [k.heap, h.heap]
  apply Array.ext_getElem?
  intro i
  simp only [Array.getElem?_setIfInBounds, Array.size_setIfInBounds]
  split <;> simp_all⟩
theorem SetB.drew {w w1 : World} {b : Nat} {o : Obj} (h : SetB w w1 b o) : SetB w w1.drew b o := ⟨h.os, h.tape, h.output, h.heap⟩
theorem SetB.drewN {w w1 : World} {b n : Nat} {o : Obj} (h : SetB w w1 b o) : SetB w (w1.drewN n) b o := ⟨h.os, h.tape, h.output, h.heap⟩
theorem SetB.at {w w1 : World} {b : Nat} {o : Obj} (h : SetB w w1 b o) (hb : b < w.heap.size) : w1.heap[b]? = some o := by
  rw [h.heap]; simp [Array.getElem?_setIfInBounds, hb]
theorem SetB.other {w w1 : World} {b k : Nat} {o : Obj} (h : SetB w w1 b o) (hb : k ≠ b) : w1.heap[k]? = w.heap[k]? := by
  rw [h.heap, Array.getElem?_setIfInBounds, if_neg (Ne.symm hb)]
theorem SetB.size {w w1 : World} {b : Nat} {o : Obj} (h : SetB w w1 b o) : w1.heap.size = w.heap.size := by rw [h.heap]; simp
theorem SetB.store {w w1 : World} {b o : Nat} {cs : Array Value} {T : TypeId} {fr : Nat × Nat} (h : SetB w w1 b (.cells cs T fr)) (hb : b < w.heap.size) (v : Value) : SetB w (w1.setCell ⟨b, o, none⟩ v) b (.cells (cs.setIfInBounds o v) T fr) :=
  ⟨h.os, h.tape, h.output, by
    have ha := h.at hb
    apply Array.ext_getElem?
    intro i
    simp only [World.setCell, Array.getElem?_modify, Array.getElem?_setIfInBounds]
    split
    · rename_i e; subst e; simp [ha, hb]
    · rename_i e; rw [h.other (Ne.symm e)]⟩
theorem SetB.below {w w1 : World} {b B : Nat} {o : Obj} (h : SetB w w1 b o) (hB : B ≤ b) : Below B w w1 :=
  ⟨h.os, h.tape, h.output, by rw [h.size]; exact Nat.le_refl _, fun k hk => h.other (by omega)⟩
theorem hnew (w : World) (o : Obj) : (w.alloc o).heap[w.heap.size]? = some o := by
  show (w.heap.push o)[w.heap.size]? = _
  simp
theorem hnewAt {w : World} {o : Obj} {n : Nat} (h : n = w.heap.size) : (w.alloc o).heap[n]? = some o := by rw [h]; exact hnew w o
theorem hold {w : World} {b : Nat} {o : Obj} {x : Obj} (h : w.heap[b]? = some x) : (w.alloc o).heap[b]? = some x := (Below.heap_alloc w o b (lt_of_blk h)).trans h
theorem bdn {B : Nat} {a w : World} (h : Below B a w) (n : Nat) : Below B a (w.drewN n) := ⟨h.os, h.tape, h.output, h.size, h.block⟩
end Go.Proofs.Ytopdohmpaapiiaa
