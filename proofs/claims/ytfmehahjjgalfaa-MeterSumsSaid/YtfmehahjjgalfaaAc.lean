/- append onto a slice that is full: what it gives lies in a new block. -/
import Derived.Test.YtfmehahjjgalfaaAp
namespace Go.Proofs.Ytfmehahjjgalfaa
open Go Go.RowKit
namespace Rep
variable {α : Type} [Inhabited α] {R : Rep α} {P : Program} {ops : Array Oper} {rest : List Oper} {o : Oper} {a : Act} {Q : Exit → Act → World → Prop} {w : World}
theorem run_append_cut {t ty : TypeId} {bytes : Nat} (hT : Ty P t R bytes) {sa : Option Addr} {k : Nat} {L : List α} (hL : R.Sl w sa k k L) {sb : Option Addr} {m c : Nat} {M : List α} (hM : R.Sl w sb m c M) (h0 : 0 < m)
    (hmax : k + m ≤ maxLen) (hbytes : (k + m) * bytes ≤ 140737488355328) :
    ∃ v' w', (Builtin.append_ #[t, t] ty #[.slice sa k k, .slice sb m c]).run P w = .ok v' w' ∧ R.Own w' w.heap.size v' (L ++ M) ∧ Below w.heap.size w w' := by
  obtain ⟨b, off, rfl, hr⟩ := hM.row h0
  cases sa with
  | none =>
    have hk : k = 0 := by
      rcases Nat.eq_zero_or_pos k with h | h
      · exact h
      · obtain ⟨_, _, e, _⟩ := hL.row h; cases e
    subst hk
    obtain rfl : L = [] := List.length_eq_zero_iff.1 hL.len.symm
    obtain ⟨v', w', e1, e2, e3, _⟩ := run_append_list (ty := ty) hT (Own.nil (R := R) w w.heap.size) hM (fun h => by cases h) (by simpa using hmax) (by simpa using hbytes) (Nat.le_refl _)
    exact ⟨v', w', e1, e2, e3⟩
  | some ad =>
    obtain ⟨i, z, h1, h2, h3, h4, h5⟩ := hT.hi
    have holds : ∀ j u, (R.flat L)[j]? = some u → w.cell? (ad.add j) = some u := by
      rcases Nat.eq_zero_or_pos k with hk | hk
      · obtain rfl : L = [] := List.length_eq_zero_iff.1 (hL.len.symm.trans hk)
        intro j u hu; simp [flat] at hu
      · obtain ⟨b', o', e, hr'⟩ := hL.row hk
        cases e
        exact news_of_row hr'
    have hsmall : k + m ≤ 9223372036854775807 := by simp only [maxLen] at hmax; omega
    have hlo : (R.flat L).length = k * i.size := by rw [R.flat_length, ← hL.len, h3]
    have hln : (R.flat M).length = m * i.size := by rw [R.flat_length, ← hM.len, h3]
    have hrun := run_append_grow (P := P) w t ty R.T i z hT.ht h1 h2 ad k k (R.flat L) hlo holds ⟨b, off, none⟩ m c (R.flat M) hln (news_of_row hr) (by omega) (by omega) (growslice_fits (by omega) (by rw [h4]; exact hbytes))
    have hge := grownCap_ge w (k + m) k R.T
    have hcm : grownCap w (k + m) k R.T ≤ maxLen := grownCap_le_maxLen w (k + m) k R.T hmax
    refine ⟨_, _, hrun, ?_, ((Below.refl w.heap.size w).drew).alloc (Nat.le_refl _) _⟩
    show World.ownsRow _ _ R.T R.k _ (L ++ M).length (R.flat (L ++ M))
    rw [R.flat_append, List.length_append, ← hL.len, ← hM.len]
    refine ⟨by rw [List.length_append, hlo, hln, h3, Nat.add_mul], .inr ⟨w.heap.size, _, _, rfl, Nat.le_refl _, hnew w.drew _, hge, hcm, ?_, ?_⟩⟩
    · simp only [Array.size_append, List.size_toArray, size_zeroCells, h5, hlo, hln, h3, ← Nat.add_mul]
      congr 1
      omega
    · simp only [Array.toList_append, List.append_assoc]
      rw [← List.append_assoc]
      have e : (k + m) * R.k = (R.flat L ++ R.flat M).length := by rw [List.length_append, hlo, hln, h3, Nat.add_mul]
      rw [e]
      exact List.take_left
theorem sl_one {b c : Nat} {y : α} {T : TypeId} {fr : Nat × Nat} (h : w.heap[b]? = some (.cells (R.cells y).toArray T fr)) : R.Sl w (some ⟨b, 0, none⟩) 1 c [y] :=
  ⟨rfl, by unfold maxLen; omega, fun _ => ⟨b, 0, rfl, lt_of_blk h, fun i hi j hj => by
    obtain rfl : i = 0 := by simp at hi; exact hi
    rw [Nat.zero_mul, Nat.zero_add]
    have hs : j < (R.cells y).toArray.size := by simp [R.len, hj]
    rw [cell_of h (Array.getElem?_eq_getElem hs)]
    simp [List.getElem?_eq_getElem (show j < (R.cells y).length by rw [R.len]; exact hj)]⟩⟩
theorem sl_nil {a : Option Addr} {c : Nat} : R.Sl w a 0 c [] := ⟨rfl, by unfold maxLen; omega, fun h => absurd h (Nat.lt_irrefl _)⟩
theorem own_empty {b base : Nat} (h : w.heap[b]? = some (.cells #[] R.T (0, 0))) (hb : base ≤ b) : R.Own w base (.slice (some ⟨b, 0, none⟩) 0 0) [] :=
  ⟨by simp [flat], .inr ⟨b, 0, #[], rfl, hb, h, Nat.le_refl _, by unfold maxLen; omega, by simp, by simp [flat]⟩⟩
theorem Own.sl0 {base : Nat} {v : Value} {L : List α} (h : R.Own w base v L) : ∃ a c, v = .slice a L.length c ∧ R.Sl w a L.length c L ∧ (a = none → c = 0) := by
  rcases h.cases with ⟨rfl, rfl⟩ | ⟨g, cap, rfl, hg, hl, h1, h2, hr, -⟩
  · exact ⟨none, 0, rfl, sl_nil, fun _ => rfl⟩
  · exact ⟨some ⟨g, 0, none⟩, cap, rfl, ⟨rfl, by omega, fun _ => ⟨g, 0, rfl, hr⟩⟩, fun e => by cases e⟩
theorem append_cut {t : TypeId} {bytes : Nat} (hT : Ty P t R bytes) (hgd : o.guard = none) (s x : Operand) (ho : o.op = .call { callee := .builtin .append, args := #[s, x], argTypes := #[t, t] })
    {sa : Option Addr} {k : Nat} {L : List α} (hs : a.eval s = .slice sa k k) (hL : R.Sl w sa k k L) {sb : Option Addr} {m c : Nat} {M : List α} (hx : a.eval x = .slice sb m c) (hM : R.Sl w sb m c M) (h0 : 0 < m)
    (hmax : k + m ≤ maxLen) (hbytes : (k + m) * bytes ≤ 140737488355328)
    (h : ∀ v' w', R.Own w' w.heap.size v' (L ++ M) → Below w.heap.size w w' → wpList P ops Q rest (a.put o.dst v') w') : wpList P ops Q (o :: rest) a w :=
  wpList_plain hgd fun K hK => by
    obtain ⟨v', w', e1, e2, e3⟩ := run_append_cut hT hL hM h0 hmax hbytes (ty := o.type)
    have hk := hK _ _ (h v' w' e2 e3)
    unfold Oper.wp execOp
    simp only [ho, resolve, invoke, builtin, Sem.run_bind, Sem.run_pure, Result.andThen_ok, List.map_toArray, List.map_cons, List.map_nil, hs, hx, e1]
    exact hk
end Rep
end Go.Proofs.Ytfmehahjjgalfaa
