/- Slices of routes in memory, and the candidates that left makes of them. -/
import Derived.Test.YtlgmoiilfigamaaRow
namespace Go.Proofs.Ytlgmoiilfigamaa
open Go.RowKit

structure Cells10 (w : World) (b o : Nat) (x : Rt) : Prop where
  c0 : w.cell? ⟨b, o, none⟩ = some (.int .i64 x.r)
  c1 : w.cell? ⟨b, o + 1, none⟩ = some (.int .u32 x.a)
  c2 : w.cell? ⟨b, o + 2, none⟩ = some (.int .i64 x.l)
  c3 : w.cell? ⟨b, o + 3, none⟩ = some (.int .i64 x.i)
  c4 : w.cell? ⟨b, o + 4, none⟩ = some (.int .i64 x.o)
  c5 : w.cell? ⟨b, o + 5, none⟩ = some (.slice x.pa x.pn x.pc)
  c6 : w.cell? ⟨b, o + 6, none⟩ = some (.int .u32 x.nx)
  c7 : w.cell? ⟨b, o + 7, none⟩ = some (.int .i64 x.md)
  c8 : w.cell? ⟨b, o + 8, none⟩ = some (.int .i64 x.pf)
  c9 : w.cell? ⟨b, o + 9, none⟩ = some (.slice x.ca x.cn x.cc)
/-- the routes of a slice, from a place of a block on -/
structure RtsAt (w : World) (b off : Nat) (L : List Rt) : Prop where
  lt : b < w.heap.size
  max : L.length ≤ maxLen
  get : ∀ i, i < L.length → Cells10 w b (off + i * 10) (L.getD i default)
theorem Cells10.keep {w w' : World} {b o : Nat} {x : Rt} (h : Cells10 w b o x) (e : ∀ o', w'.cell? ⟨b, o', none⟩ = w.cell? ⟨b, o', none⟩) : Cells10 w' b o x :=
  ⟨(e _).trans h.c0, (e _).trans h.c1, (e _).trans h.c2, (e _).trans h.c3, (e _).trans h.c4, (e _).trans h.c5, (e _).trans h.c6, (e _).trans h.c7, (e _).trans h.c8, (e _).trans h.c9⟩
theorem RtsAt.below {w w' : World} {b off : Nat} {L : List Rt} (h : RtsAt w b off L) (hb : Below w.heap.size w w') : RtsAt w' b off L :=
  ⟨Nat.lt_of_lt_of_le h.lt hb.size, h.max, fun i hi => (h.get i hi).keep fun o' => hb.cell (p := ⟨b, o', none⟩) h.lt⟩
theorem RtsAt.tail {w : World} {b off : Nat} {L : List Rt} (h : RtsAt w b off L) (k : Nat) (hk : k ≤ L.length) : RtsAt w b (off + k * 10) (L.drop k) := by
  refine ⟨h.lt, by have := h.max; simp; omega, fun i hi => ?_⟩
  simp at hi
  have := h.get (k + i) (by omega)
  rw [show off + k * 10 + i * 10 = off + (k + i) * 10 by omega]
  have e : (L.drop k).getD i default = L.getD (k + i) default := by simp [List.getD_eq_getElem?_getD]
  rw [e]; exact this
/-- routes, and where they stand -/
def withAt (L : List Rt) : List Cd := L.zipIdx.map fun p => (p.1, (p.2 : Int))
theorem withAt_length (L : List Rt) : (withAt L).length = L.length := by simp [withAt]
theorem withAt_take (L : List Rt) (k : Nat) (h : k < L.length) : withAt (L.take (k + 1)) = withAt (L.take k) ++ [(L.getD k default, (k : Int))] := by
  unfold withAt
  rw [List.take_succ_eq_append_getElem h, List.zipIdx_append, List.map_append]
  simp [h, Nat.min_eq_left (Nat.le_of_lt h)]
end Go.Proofs.Ytlgmoiilfigamaa
