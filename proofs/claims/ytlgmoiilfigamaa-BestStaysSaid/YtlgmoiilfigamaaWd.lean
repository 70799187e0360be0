/- slices.DeleteFunc over candidates, by the two closures. -/
import Derived.Test.YtlgmoiilfigamaaWc
namespace Go.Proofs.Ytlgmoiilfigamaa
open Go.RowKit

/-- so many cells of vs are stored from o on -/
structure Part (w : World) (b o : Nat) (cur0 : Array Value) (vs : List Value) (t : Nat) : Prop where
  ex : ∃ cur, w.heap[b]? = some (.cells cur 50 (0, 0)) ∧ cur.size = cur0.size ∧ ∀ q, cur[q]? = if o ≤ q ∧ q < o + t then vs[q - o]? else cur0[q]?
theorem Part.start {w : World} {b o : Nat} {cur0 : Array Value} {vs : List Value} (h : w.heap[b]? = some (.cells cur0 50 (0, 0))) : Part w b o cur0 vs 0 :=
  ⟨cur0, h, rfl, fun q => by rw [if_neg (by omega)]⟩
theorem Part.step {w : World} {b o : Nat} {cur0 : Array Value} {vs : List Value} {t : Nat} (h : Part w b o cur0 vs t) {v : Value} (hv : vs[t]? = some v) (hin : o + t < cur0.size) {a : Nat} (ha : a = o + t) : Part (w.setCell ⟨b, a, none⟩ v) b o cur0 vs (t + 1) := by
  subst ha
  obtain ⟨cur, h1, h2, h3⟩ := h.ex
  refine ⟨cur.setIfInBounds (o + t) v, setCell_blk h1 _ _, by simp [h2], fun q => ?_⟩
  rw [Array.getElem?_setIfInBounds, h3]
  by_cases hq : o + t = q
  · subst hq
    rw [if_pos rfl, if_pos (by rw [h2]; exact hin), if_pos (by omega), show o + t - o = t by omega, hv]
  · rw [if_neg hq]
    by_cases h4 : o ≤ q ∧ q < o + t
    · rw [if_pos h4, if_pos (by omega)]
    · rw [if_neg h4, if_neg (by omega)]
theorem RowC.store {w w' : World} {b cap : Nat} {L : List Cd} {cur : Array Value} (h : RowC w b cap L cur) {i : Nat} (hi : i < L.length) {c : Cd} (hp : Part w' b (i * 11) cur (cdCells c) 11) : ∃ cur', RowC w' b cap (L.set i c) cur' := by
  obtain ⟨cur', h1, h2, h3⟩ := hp.ex
  refine ⟨cur', h1, h2.trans h.size, by simpa using h.le, h.max, ?_⟩
  intro a j ha hj
  rw [h3]
  simp only [List.length_set] at ha
  by_cases hai : a = i
  · subst hai
    rw [if_pos (by omega), show a * 11 + j - a * 11 = j by omega]
    simp [List.getD_eq_getElem?_getD, ha]
  · rw [if_neg (by omega), h.get a j ha hj]
    simp [List.getD_eq_getElem?_getD, Ne.symm hai]
theorem RowC.head {w w' : World} {b cap : Nat} {L : List Cd} {cur cur' : Array Value} (h : RowC w b cap L cur) {i : Nat} (hi : i ≤ L.length) (hb : w'.heap[b]? = some (.cells cur' 50 (0, 0))) (hs : cur'.size = cur.size) (hg : ∀ q, q < i * 11 → cur'[q]? = cur[q]?) : RowC w' b cap (L.take i) cur' := by
  have hl : (L.take i).length = i := by simp; omega
  refine ⟨hb, hs.trans h.size, by rw [hl]; exact Nat.le_trans hi h.le, h.max, ?_⟩
  intro a j ha hj
  rw [hl] at ha
  rw [hg _ (by omega), h.get a j (by omega) hj]
  congr 2
  simp [List.getD_eq_getElem?_getD, ha]

/-- zeroing cells from a place on -/
theorem run_storeCells {P : Program} (b : Nat) (o : Nat) : ∀ (vs : List Value) (i : Nat) (w : World) (cur : Array Value), w.heap[b]? = some (.cells cur 50 (0, 0)) → (∀ v ∈ vs, v.oneCell' = true) → o + i + vs.length ≤ cur.size →
    ∃ w' cur', (storeCells ⟨b, o, none⟩ vs i).run P w = .ok () w' ∧ w'.heap[b]? = some (.cells cur' 50 (0, 0)) ∧ cur'.size = cur.size ∧ (∀ q, q < o + i → cur'[q]? = cur[q]?) ∧ SetB w w' b (.cells cur' 50 (0, 0))
  | [], i, w, cur, h, _, _ => ⟨w, cur, rfl, h, rfl, fun _ _ => rfl, SetB.self h⟩
  | v :: r, i, w, cur, h, h1, hs => by
    have hlt : o + i < cur.size := by simp at hs; omega
    have hc : w.cell? ⟨b, o + i, none⟩ = some cur[o + i] := cell_of h (by simp [hlt])
    have hf : w.frozen? ⟨b, o + i, none⟩ = false := free_of h
    have ha : (Addr.add ⟨b, o, none⟩ i) = ⟨b, o + i, none⟩ := by unfold Addr.add; split <;> simp_all
    obtain ⟨w', cur', e1, e2, e3, e4, e5⟩ := run_storeCells b o r (i + 1) (w.setCell ⟨b, o + i, none⟩ v) (cur.setIfInBounds (o + i) v) (setCell_blk h _ _) (fun u hu => h1 u (List.mem_cons_of_mem _ hu)) (by simp at hs ⊢; omega)
    refine ⟨w', cur', ?_, e2, by simpa using e3, fun q hq => ?_, ((SetB.self h).store (lt_of_blk h) v).trans e5⟩
    · unfold storeCells
      simp only [Sem.run_bind, ha, run_store P w _ v .plain (h1 v (by simp)), hc, hf, Bool.false_eq_true, if_false, Result.andThen]
      exact e1
    · rw [e4 q (by omega), Array.getElem?_setIfInBounds, if_neg (by omega)]

theorem zero50 (w : World) : (zeroValue 50).run Try.prog w = .ok (.agg #[.int .i64 0, .int .u32 0, .int .i64 0, .int .i64 0, .int .i64 0, .slice none 0 0, .int .u32 0, .int .i64 0, .int .i64 0, .slice none 0 0, .int .i64 0]) w := by kernel_rfl
theorem zeroCells_one (z : Array Value) (h : ∀ v ∈ z.toList, v.oneCell' = true) (n : Nat) : ∀ v ∈ (Builtin.zeroCells z n).toList, v.oneCell' = true := by
  intro v hv
  unfold Builtin.zeroCells at hv
  simp only [Array.toList_map, List.mem_map] at hv
  obtain ⟨i, hi, rfl⟩ := hv
  simp at hi
  have hz : i % z.size < z.size := Nat.mod_lt _ (by rcases Nat.eq_zero_or_pos z.size with h0 | h0; rw [h0] at hi; simp at hi; exact h0)
  rw [getElem!_pos z _ hz]
  exact h _ (by simp)
theorem run_clear46 (w : World) (b i n c cap : Nat) (ty : TypeId) (cur : Array Value) (h : w.heap[b]? = some (.cells cur 50 (0, 0))) (hs : cur.size = cap * 11) (hin : i + n ≤ cap) :
    ∃ w' cur', (Builtin.clear_ #[46] ty #[.slice (some ⟨b, i * 11, none⟩) n c]).run Try.prog w = .ok (.tuple #[]) w' ∧ w'.heap[b]? = some (.cells cur' 50 (0, 0)) ∧ cur'.size = cur.size ∧ (∀ q, q < i * 11 → cur'[q]? = cur[q]?) ∧ SetB w w' b (.cells cur' 50 (0, 0)) := by
  cases n with
  | zero => exact ⟨w, cur, by simp [Builtin.clear_, run_underlying Try.underlying46, Result.andThen], h, rfl, fun _ _ => rfl, SetB.self h⟩
  | succ n =>
    obtain ⟨w', cur', e1, e2, e3, e4, e5⟩ := run_storeCells (P := Try.prog) b (i * 11) (Builtin.zeroCells #[.int .i64 0, .int .u32 0, .int .i64 0, .int .i64 0, .int .i64 0, .slice none 0 0, .int .u32 0, .int .i64 0, .int .i64 0, .slice none 0 0, .int .i64 0] (n + 1)).toList 0 w cur h
      (zeroCells_one _ (by simp [Value.oneCell']) _) (by simp [Builtin.zeroCells]; omega)
    refine ⟨w', cur', ?_, e2, e3, e4, e5⟩
    simp only [Builtin.clear_, List.getElem?_toArray, List.getElem?_cons_zero, Sem.run_bind, run_underlying Try.underlying46, Result.andThen, zero50, Sem.run_pure]
    simp only [Value.cells]
    rw [e1]
end Go.Proofs.Ytlgmoiilfigamaa
