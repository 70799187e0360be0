/- Rows of candidates. -/
import Derived.Test.YtlgmoiilfigamaaWb
import Derived.Laws.OwnMore
namespace Go.Proofs.Ytlgmoiilfigamaa
open Go.RowKit

abbrev Cd := Rt × Int
instance : Inhabited Cd := ⟨(default, 0)⟩
def cdCells (c : Cd) : List Value := c.1.cells ++ [.int .i64 c.2]
def flatC (L : List Cd) : List Value := L.flatMap cdCells
theorem cdCells_length (c : Cd) : (cdCells c).length = 11 := rfl
theorem flatC_length (L : List Cd) : (flatC L).length = L.length * 11 := by
  induction L with
  | nil => rfl
  | cons c r ih => simp only [flatC, List.flatMap_cons, List.length_append, cdCells_length, List.length_cons] at *; omega
theorem flatC_get (L : List Cd) (i j : Nat) (hi : i < L.length) (hj : j < 11) : (flatC L)[i * 11 + j]? = (cdCells (L.getD i default))[j]? := by
  induction L generalizing i with
  | nil => simp at hi
  | cons c r ih =>
    unfold flatC at *
    rw [List.flatMap_cons]
    cases i with
    | zero =>
      rw [List.getElem?_append_left (by rw [cdCells_length]; omega)]
      simp
    | succ i =>
      rw [List.getElem?_append_right (by rw [cdCells_length]; omega), cdCells_length]
      have := ih i (by simpa using hi)
      rw [show (i + 1) * 11 + j - 11 = i * 11 + j by omega, this]
      simp
/-- the row of a block holds L first -/
structure RowC (w : World) (b cap : Nat) (L : List Cd) (cur : Array Value) : Prop where
  blk : w.heap[b]? = some (.cells cur 50 (0, 0))
  size : cur.size = cap * 11
  le : L.length ≤ cap
  max : cap ≤ maxLen
  get : ∀ i j, i < L.length → j < 11 → cur[i * 11 + j]? = (cdCells (L.getD i default))[j]?
theorem RowC.of_owns {w : World} {base b cap : Nat} {L : List Cd} (h : w.ownsRow base 50 11 (.slice (some ⟨b, 0, none⟩) L.length cap) L.length (flatC L)) : ∃ cur, RowC w b cap L cur ∧ base ≤ b := by
  obtain ⟨h1, h2⟩ := h
  rcases h2 with ⟨h2, _⟩ | ⟨g, cap', cur, hv, hg, hh, h3, h4, h5, h6⟩
  · cases h2
  · cases hv
    refine ⟨cur, ⟨hh, h5, h3, h4, ?_⟩, hg⟩
    intro i j hi hj
    rw [← flatC_get L i j hi hj, ← h6, List.getElem?_take, if_pos (by omega)]
    simp
theorem RowC.keep {w w' : World} {b cap : Nat} {L : List Cd} {cur : Array Value} (h : RowC w b cap L cur) (e : w'.heap[b]? = w.heap[b]?) : RowC w' b cap L cur := ⟨e.trans h.blk, h.size, h.le, h.max, h.get⟩
/-- the eleven cells of a place -/
structure Cells11 (w : World) (b o : Nat) (x : Rt) (n : Int) : Prop where
  c0 : w.cell? ⟨b, o, none⟩ = some (.int .i64 x.r)
  c1 : w.cell? ⟨b, o + 1, none⟩ = some (.int .u32 x.a)
  c2 : w.cell? ⟨b, o + 2, none⟩ = some (.int .i64 x.l)
  c3 : w.cell? ⟨b, o + 3, none⟩ = some (.int .i64 x.i)
  c4 : w.cell? ⟨b, o + 4, none⟩ = some (.int .i64 x.o)
  c5 : w.cell? ⟨b, o + 5, none⟩ = some (.slice x.pa x.pn x.pc)
  c6 : w.cell? ⟨b, o + 6, none⟩ = some (.int .u32 x.nx)
  c7 : w.cell? ⟨b, o + 7, none⟩ = some (.int .i64 x.md)
  c8 : w.cell? ⟨b, o + 8, none⟩ = some (.int .i64 x.pf)
  c9 : w.cell? ⟨b, o + 9, none⟩ = some (.slice x.ca x.cn x.cc)
  c10 : w.cell? ⟨b, o + 10, none⟩ = some (.int .i64 n)
theorem RowC.at {w : World} {b cap : Nat} {L : List Cd} {cur : Array Value} (h : RowC w b cap L cur) {i : Nat} (hi : i < L.length) : Cells11 w b (i * 11) (L.getD i default).1 (L.getD i default).2 := by
  have g := fun j hj => h.get i j hi hj
  exact ⟨cell_of h.blk (g 0 (by omega)), cell_of h.blk (g 1 (by omega)), cell_of h.blk (g 2 (by omega)), cell_of h.blk (g 3 (by omega)), cell_of h.blk (g 4 (by omega)), cell_of h.blk (g 5 (by omega)), cell_of h.blk (g 6 (by omega)), cell_of h.blk (g 7 (by omega)), cell_of h.blk (g 8 (by omega)), cell_of h.blk (g 9 (by omega)), cell_of h.blk (g 10 (by omega))⟩

/-- the place of the first that p holds of -/
def idxOf (p : Cd → Bool) : List Cd → Nat
  | [] => 0
  | c :: r => if p c then 0 else idxOf p r + 1
theorem idxOf_le (p : Cd → Bool) (L : List Cd) : idxOf p L ≤ L.length := by
  induction L with
  | nil => simp [idxOf]
  | cons c r ih => unfold idxOf; split <;> simp <;> omega
theorem idxOf_eq (p : Cd → Bool) (L : List Cd) (k : Nat) (hk : k < L.length) (hno : ∀ i, i < k → p (L.getD i default) = false) (hy : p (L.getD k default) = true) : idxOf p L = k := by
  induction L generalizing k with
  | nil => simp at hk
  | cons c r ih =>
    unfold idxOf
    cases k with
    | zero => simp at hy; simp [hy]
    | succ k =>
      have h0 := hno 0 (by omega)
      simp at h0
      rw [if_neg (by simp [h0]), ih k (by simpa using hk) (fun i hi => by have := hno (i + 1) (by omega); simpa using this) (by simpa using hy)]
theorem idxOf_none (p : Cd → Bool) (L : List Cd) (hno : ∀ i, i < L.length → p (L.getD i default) = false) : idxOf p L = L.length := by
  induction L with
  | nil => rfl
  | cons c r ih =>
    have h0 := hno 0 (by simp)
    simp at h0
    unfold idxOf
    rw [if_neg (by simp [h0]), ih (fun i hi => by have := hno (i + 1) (by simpa using hi); simpa using this)]
    rfl
end Go.Proofs.Ytlgmoiilfigamaa
