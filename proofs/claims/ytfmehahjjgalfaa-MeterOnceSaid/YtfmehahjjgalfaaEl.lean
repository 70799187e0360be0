/- Slices of things that lie in several cells: read from anywhere (Sl), owned by the call (Own); append of one. -/
import Derived.Test.YtfmehahjjgalfaaMem
import Derived.Laws.OwnMore
import Derived.Laws.AppendOwn
import Derived.OwnWalk
namespace Go.Proofs.Ytfmehahjjgalfaa
open Go.RowKit

/-- how values of a Lean type lie in cells -/
structure Rep (α : Type) [Inhabited α] where
  T : TypeId
  k : Nat
  pos : 0 < k
  cells : α → List Value
  len : ∀ x, (cells x).length = k
  one : ∀ x, (cells x).all (·.oneCell') = true
namespace Rep
variable {α : Type} [Inhabited α] (R : Rep α)
def flat (L : List α) : List Value := L.flatMap R.cells
theorem flat_length (L : List α) : (R.flat L).length = L.length * R.k := by
  induction L with
  | nil => simp [flat]
  | cons c r ih => simp only [flat, List.flatMap_cons, List.length_append, R.len, List.length_cons, Nat.succ_mul] at *; omega
theorem flat_append (L M : List α) : R.flat (L ++ M) = R.flat L ++ R.flat M := by simp [flat]
theorem flat_one (x : α) : R.flat [x] = R.cells x := by simp [flat]
theorem mul_lt {i n k j : Nat} (hi : i < n) (hj : j < k) : i * k + j < n * k := by
  have : (i + 1) * k ≤ n * k := Nat.mul_le_mul_right k hi
  rw [Nat.succ_mul] at this; omega
theorem flat_get (L : List α) (i j : Nat) (hi : i < L.length) (hj : j < R.k) : (R.flat L)[i * R.k + j]? = (R.cells (L.getD i default))[j]? := by
  induction L generalizing i with
  | nil => simp at hi
  | cons c r ih =>
    unfold flat at *
    rw [List.flatMap_cons]
    cases i with
    | zero =>
      rw [List.getElem?_append_left (by rw [R.len]; omega)]
      simp
    | succ i =>
      rw [List.getElem?_append_right (by rw [R.len, Nat.succ_mul]; omega), R.len]
      have := ih i (by simpa using hi)
      rw [show (i + 1) * R.k + j - R.k = i * R.k + j by rw [Nat.succ_mul]; omega, this]
      simp
theorem flat_cell1 (L : List α) (u : Value) (hu : u ∈ R.flat L) : u.oneCell' = true := by
  obtain ⟨x, _, hx⟩ := List.mem_flatMap.1 hu
  exact List.all_eq_true.1 (R.one x) u hx

/-- the cells of one thing at a place -/
def At (w : World) (b o : Nat) (x : α) : Prop := ∀ j, j < R.k → w.cell? ⟨b, o + j, none⟩ = (R.cells x)[j]?
/-- the list of things that lie from a place on -/
structure Row (w : World) (b o : Nat) (L : List α) : Prop where
  lt : b < w.heap.size
  get : ∀ i, i < L.length → R.At w b (o + i * R.k) (L.getD i default)
/-- a slice reads as a list -/
structure Sl (w : World) (a : Option Addr) (n c : Nat) (L : List α) : Prop where
  len : n = L.length
  max : n ≤ maxLen
  row : 0 < n → ∃ b o, a = some ⟨b, o, none⟩ ∧ R.Row w b o L
def Own (w : World) (base : Nat) (v : Value) (L : List α) : Prop := w.ownsRow base R.T R.k v L.length (R.flat L)

variable {R}
theorem At.keep {w w' : World} {b o : Nat} {x : α} (h : R.At w b o x) (e : w'.heap[b]? = w.heap[b]?) : R.At w' b o x := fun j hj => (World.cell?_of_block (a := ⟨b, o + j, none⟩) e).trans (h j hj)
theorem Row.below {w w' : World} {b o : Nat} {L : List α} (h : R.Row w b o L) (hb : Below w.heap.size w w') : R.Row w' b o L :=
  ⟨Nat.lt_of_lt_of_le h.lt hb.size, fun i hi => (h.get i hi).keep (hb.block b h.lt)⟩
theorem Row.keep {w w' : World} {b o : Nat} {L : List α} (h : R.Row w b o L) (e : w'.heap[b]? = w.heap[b]?) : R.Row w' b o L :=
  ⟨(by
      rcases Nat.lt_or_ge b w'.heap.size with h' | h'
      · exact h'
      · rw [Array.getElem?_eq_none h', Array.getElem?_eq_getElem h.lt] at e; cases e), fun i hi => (h.get i hi).keep e⟩
theorem Row.drop {w : World} {b o : Nat} {L : List α} (h : R.Row w b o L) (k : Nat) : R.Row w b (o + k * R.k) (L.drop k) := by
  refine ⟨h.lt, fun i hi => ?_⟩
  simp at hi
  have := h.get (k + i) (by omega)
  rw [show o + k * R.k + i * R.k = o + (k + i) * R.k by rw [Nat.add_mul]; omega]
  have e : (L.drop k).getD i default = L.getD (k + i) default := by simp [List.getD_eq_getElem?_getD]
  rw [e]; exact this
theorem Row.take {w : World} {b o : Nat} {L : List α} (h : R.Row w b o L) (k : Nat) : R.Row w b o (L.take k) := by
  refine ⟨h.lt, fun i hi => ?_⟩
  simp at hi
  have hk : i < k := by omega
  have e : (L.take k).getD i default = L.getD i default := by simp [List.getD_eq_getElem?_getD, hk]
  rw [e]; exact h.get i (by omega)
theorem Sl.keep {w w' : World} {a : Option Addr} {n c : Nat} {L : List α} (h : R.Sl w a n c L) (hb : Below w.heap.size w w') : R.Sl w' a n c L :=
  ⟨h.len, h.max, fun hn => let ⟨b, o, e, r⟩ := h.row hn; ⟨b, o, e, r.below hb⟩⟩
theorem Sl.at {w : World} {a : Option Addr} {n c : Nat} {L : List α} (h : R.Sl w a n c L) {i : Nat} (hi : i < n) : ∃ b o, a = some ⟨b, o, none⟩ ∧ b < w.heap.size ∧ R.At w b (o + i * R.k) (L.getD i default) := by
  obtain ⟨b, o, e, r⟩ := h.row (by omega)
  exact ⟨b, o, e, r.lt, r.get i (by rw [← h.len]; exact hi)⟩
theorem Own.nil (w : World) (base : Nat) : R.Own w base (.slice none 0 0) [] := World.ownsRow_nil _ _ _ _
theorem Own.alloc {w : World} {base : Nat} {v : Value} {L : List α} (h : R.Own w base v L) (o : Obj) : R.Own (w.alloc o) base v L := World.ownsRow.alloc h o
theorem Own.drew {w : World} {base : Nat} {v : Value} {L : List α} (h : R.Own w base v L) : R.Own w.drew base v L := h
theorem Own.below {w w' : World} {base : Nat} {v : Value} {L : List α} (h : R.Own w base v L) (hb : Below w.heap.size w w') : R.Own w' base v L := by
  refine ⟨h.1, ?_⟩
  rcases h.2 with h2 | ⟨g, cap, cur, hv, hg, hh, h3⟩
  · exact .inl h2
  · exact .inr ⟨g, cap, cur, hv, hg, (hb.block g (lt_of_blk hh)).trans hh, h3⟩
theorem Own.keep {w w' : World} {base : Nat} {v : Value} {L : List α} (h : R.Own w base v L) (hb : ∀ b, v.ownBlock = some b → w'.heap[b]? = w.heap[b]?) : R.Own w' base v L := by
  refine ⟨h.1, ?_⟩
  rcases h.2 with h2 | ⟨g, cap, cur, hv, hg, hh, h3⟩
  · exact .inl h2
  · exact .inr ⟨g, cap, cur, hv, hg, (hb g (by rw [hv]; rfl)).trans hh, h3⟩
theorem Own.mono {w : World} {base base' : Nat} {v : Value} {L : List α} (h : R.Own w base v L) (hb : base' ≤ base) : R.Own w base' v L := by
  refine ⟨h.1, ?_⟩
  rcases h.2 with h2 | ⟨g, cap, cur, hv, hg, h3⟩
  · exact .inl h2
  · exact .inr ⟨g, cap, cur, hv, by omega, h3⟩
/-- what an owned slice is -/
theorem Own.cases {w : World} {base : Nat} {v : Value} {L : List α} (h : R.Own w base v L) : (v = .slice none 0 0 ∧ L = []) ∨ ∃ g cap, v = .slice (some ⟨g, 0, none⟩) L.length cap ∧ base ≤ g ∧ g < w.heap.size ∧ L.length ≤ cap ∧ cap ≤ maxLen ∧ R.Row w g 0 L ∧ (∀ o, w.frozen? ⟨g, o, none⟩ = false) ∧ ∃ cur, w.heap[g]? = some (.cells cur R.T (0, 0)) ∧ cur.size = cap * R.k := by
  obtain ⟨h1, h2⟩ := h
  rcases h2 with ⟨h2, h3⟩ | ⟨g, cap, cur, hv, hg, hh, h3, h4, h5, h6⟩
  · exact .inl ⟨h2, List.length_eq_zero_iff.1 h3⟩
  · refine .inr ⟨g, cap, hv, hg, lt_of_blk hh, h3, h4, ⟨lt_of_blk hh, fun i hi j hj => ?_⟩, fun o => free_of hh, cur, hh, h5⟩
    rw [Nat.zero_add, ← R.flat_get L i j hi hj, ← h6]
    have hlt := mul_lt hi hj
    simp [World.cell?, hh, hlt]
/-- an owned slice reads -/
theorem Own.sl {w : World} {base : Nat} {v : Value} {L : List α} (h : R.Own w base v L) : ∃ a c, v = .slice a L.length c ∧ L.length ≤ c ∧ c ≤ maxLen ∧ R.Sl w a L.length c L ∧ (∀ b o, a = some ⟨b, o, none⟩ → base ≤ b) := by
  rcases h.cases with ⟨rfl, rfl⟩ | ⟨g, cap, rfl, hg, hl, h1, h2, hr, -⟩
  · exact ⟨none, 0, rfl, by simp, by unfold maxLen; omega, ⟨rfl, by unfold maxLen; simp, fun h => absurd h (by simp)⟩, by simp⟩
  · exact ⟨some ⟨g, 0, none⟩, cap, rfl, h1, h2, ⟨rfl, by omega, fun _ => ⟨g, 0, rfl, hr⟩⟩, fun b o e => by injection e with e; injection e with e1 _ _; omega⟩

/-- a slice type, its elements -/
structure Ty (P : Program) (t : TypeId) (R : Rep α) (bytes : Nat) : Prop where
  ht : P.underlying t = some (.slice R.T)
  hi : ∃ i z, P.info? R.T = some i ∧ i.zero = some z ∧ i.size = R.k ∧ i.bytes = bytes ∧ z.cells.size = R.k
theorem Ty.mk' {P : Program} {t : TypeId} {R : Rep α} {bytes : Nat} {z : Value} (ht : P.underlying t = some (.slice R.T)) (hi : (P.info? R.T).map (fun i => (i.zero, i.size, i.bytes)) = some (some z, R.k, bytes)) (hz : z.cells.size = R.k) : Ty P t R bytes := by
  obtain ⟨i, h1, h2, h3, h4⟩ := info_parts hi
  exact ⟨ht, i, z, h1, h2, h3, h4, hz⟩

variable {P : Program} {ops : Array Oper} {rest : List Oper} {o : Oper} {a : Act} {Q : Exit → Act → World → Prop} {w : World}
/-- append(v, x): x lies in a new block of its own -/
theorem append_one {t : TypeId} {bytes : Nat} (hT : Ty P t R bytes) (hgd : o.guard = none) (s x : Operand) (ho : o.op = .call { callee := .builtin .append, args := #[s, x], argTypes := #[t, t] })
    {base : Nat} {v : Value} {L : List α} {n : Nat} (hs : a.eval s = v) (hown : R.Own w base v L) (y : α) (b c : Nat) {T' : TypeId} {fr : Nat × Nat} (hx : a.eval x = .slice (some ⟨b, 0, none⟩) 1 c)
    (hb : w.heap[b]? = some (.cells (R.cells y).toArray T' fr)) (hn : L.length = n) (hmax : n + 1 ≤ maxLen) (hbytes : (n + 1) * bytes ≤ 140737488355328) (hbase : base ≤ w.heap.size)
    (h : ∀ v' w', R.Own w' base v' (L ++ [y]) → Below base w w' → w.grownBy w' v.ownBlock → wpList P ops Q rest (a.put o.dst v') w') : wpList P ops Q (o :: rest) a w := by
  subst hn
  obtain ⟨i, z, h1, h2, h3, h4, h5⟩ := hT.hi
  refine wpList_append_own w hgd s x t ho base R.T i z R.k bytes hT.ht h1 h2 h3 h4 h5 R.pos v L.length (R.flat L) hs hown ⟨b, 0, none⟩ 1 c (R.cells y) hx (by rw [R.len, Nat.one_mul]) ?_ ?_ hmax hbytes hbase ?_
  · intro j u hu
    have : (⟨b, 0, none⟩ : Addr).add j = ⟨b, j, none⟩ := by unfold Addr.add; split <;> simp_all
    rw [this]
    exact cell_of hb (by simpa using hu)
  · intro u hu; exact List.all_eq_true.1 (R.one y) u hu
  · intro v' w' hown' hg _
    refine h v' w' ?_ ?_ hg
    · show World.ownsRow w' base R.T R.k v' (L ++ [y]).length (R.flat (L ++ [y]))
      rw [R.flat_append, R.flat_one, List.length_append]
      exact hown'
    · exact (Below.refl base w).grown hg hbase (fun k hk => by
        rcases hown.2 with ⟨h2, _⟩ | ⟨g, cap, cur, hv, hg, _⟩
        · rw [h2] at hk; cases hk
        · rw [hv] at hk; injection hk with hk; dsimp only at hk; omega)
end Rep
end Go.Proofs.Ytfmehahjjgalfaa
