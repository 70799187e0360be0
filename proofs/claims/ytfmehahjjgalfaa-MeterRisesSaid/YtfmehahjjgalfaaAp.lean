/- append of a list, clear, on slices of things. -/
import Derived.Test.YtfmehahjjgalfaaEl
namespace Go.Proofs.Ytfmehahjjgalfaa
open Go.RowKit
namespace Rep
variable {α : Type} [Inhabited α] {R : Rep α}

theorem Own.but {w w' : World} {base : Nat} {v : Value} {L : List α} (h : R.Own w base v L) {bs : List Nat} (hb : But w w' bs) (hbs : ∀ b ∈ bs, b < base) : R.Own w' base v L :=
  h.keep fun b e => by
    obtain ⟨h1, h2⟩ := World.ownsRow.lt h b e
    exact hb.block b h2 (fun hm => by have := hbs b hm; omega)
theorem But.step {a b c : World} {bs : List Nat} {B : Nat} (h : But a b bs) (k : Below B b c) (hB : a.heap.size ≤ B) : But a c bs :=
  ⟨k.os.trans h.os, k.tape.trans h.tape, k.output.trans h.output, Nat.le_trans h.size k.size, fun i hi hn => (k.block i (by omega)).trans (h.block i hi hn)⟩
theorem news_of_row {w : World} {b o : Nat} {L : List α} (h : R.Row w b o L) : ∀ j u, (R.flat L)[j]? = some u → w.cell? ((⟨b, o, none⟩ : Addr).add j) = some u := by
  intro j u hu
  have hadd : (⟨b, o, none⟩ : Addr).add j = ⟨b, o + j, none⟩ := by unfold Addr.add; split <;> simp_all
  have hlt : j < L.length * R.k := by
    rw [← R.flat_length]
    rcases Nat.lt_or_ge j (R.flat L).length with h' | h'
    · exact h'
    · rw [List.getElem?_eq_none h'] at hu; cases hu
  have hk := R.pos
  have hi : j / R.k < L.length := Nat.div_lt_of_lt_mul (by rw [Nat.mul_comm]; exact hlt)
  have hj : j % R.k < R.k := Nat.mod_lt _ hk
  have he : j / R.k * R.k + j % R.k = j := by rw [Nat.mul_comm]; exact Nat.div_add_mod j R.k
  have := h.get _ hi _ hj
  rw [Nat.add_assoc, he, ← R.flat_get L _ _ hi hj, he, hu] at this
  rw [hadd]; exact this

variable {P : Program} {ops : Array Oper} {rest : List Oper} {o : Oper} {a : Act} {Q : Exit → Act → World → Prop} {w : World}
/-- append(v, l...) -/
theorem run_append_list {t ty : TypeId} {bytes : Nat} (hT : Ty P t R bytes) {base : Nat} {v : Value} {L : List α} (hown : R.Own w base v L) {sa : Option Addr} {m c : Nat} {M : List α} (hM : R.Sl w sa m c M) (hc : sa = none → c = 0)
    (hmax : L.length + m ≤ maxLen) (hbytes : (L.length + m) * bytes ≤ 140737488355328) (hbase : base ≤ w.heap.size) :
    ∃ v' w', (Builtin.append_ #[t, t] ty #[v, .slice sa m c]).run P w = .ok v' w' ∧ R.Own w' base v' (L ++ M) ∧ Below base w w' ∧ w.grownBy w' v.ownBlock := by
  obtain ⟨i, z, h1, h2, h3, h4, h5⟩ := hT.hi
  cases sa with
  | none =>
    obtain rfl := hc rfl
    have hm : m = 0 := by
      rcases Nat.eq_zero_or_pos m with h0 | h0
      · exact h0
      · obtain ⟨b, o, e, _⟩ := hM.row h0; cases e
    subst hm
    have hMe : M = [] := List.length_eq_zero_iff.1 hM.len.symm
    subst hMe
    refine ⟨v, w, run_append_owned_none (w := w) base t ty R.T i R.k hT.ht h1 v L.length (R.flat L) hown, ?_, Below.refl _ _, World.grownBy.refl _ _⟩
    rw [List.append_nil]; exact hown
  | some ad =>
    have hnews : ∀ j u, (R.flat M)[j]? = some u → w.cell? (ad.add j) = some u := by
      rcases Nat.eq_zero_or_pos m with h0 | h0
      · have hMe : M = [] := List.length_eq_zero_iff.1 (hM.len.symm.trans h0)
        subst hMe; intro j u hu; simp [flat] at hu
      · obtain ⟨b, o, e, hr⟩ := hM.row h0
        cases e
        exact news_of_row hr
    obtain ⟨v', w', e1, e2, e3, _⟩ := run_append_own (P := P) (w := w) base t ty R.T i z R.k bytes hT.ht h1 h2 h3 h4 h5 R.pos v L.length (R.flat L) hown ad m c (R.flat M) (by rw [R.flat_length, ← hM.len]) hnews (fun u hu => R.flat_cell1 M u hu) hmax hbytes hbase
    refine ⟨v', w', e1, ?_, ?_, e3⟩
    · show World.ownsRow w' base R.T R.k v' (L ++ M).length (R.flat (L ++ M))
      rw [R.flat_append, List.length_append, ← hM.len]
      exact e2
    · exact (Below.refl base w).grown e3 hbase (fun k hk => by
        rcases hown.2 with ⟨h2, _⟩ | ⟨g, cap, cur, hv, hg, _⟩
        · rw [h2] at hk; cases hk
        · rw [hv] at hk; injection hk with hk; dsimp only at hk; omega)
theorem append_list {t : TypeId} {bytes : Nat} (hT : Ty P t R bytes) (hgd : o.guard = none) (s x : Operand) (ho : o.op = .call { callee := .builtin .append, args := #[s, x], argTypes := #[t, t] })
    {base : Nat} {v : Value} {L : List α} (hs : a.eval s = v) (hown : R.Own w base v L) {sa : Option Addr} {m c : Nat} {M : List α} (hx : a.eval x = .slice sa m c) (hM : R.Sl w sa m c M) (hc : sa = none → c = 0)
    (hmax : L.length + m ≤ maxLen) (hbytes : (L.length + m) * bytes ≤ 140737488355328) (hbase : base ≤ w.heap.size)
    (h : ∀ v' w', R.Own w' base v' (L ++ M) → Below base w w' → w.grownBy w' v.ownBlock → wpList P ops Q rest (a.put o.dst v') w') : wpList P ops Q (o :: rest) a w :=
  wpList_plain hgd fun K hK => by
    obtain ⟨v', w', e1, e2, e3, e4⟩ := run_append_list hT hown hM hc hmax hbytes hbase (ty := o.type)
    have hk := hK _ _ (h v' w' e2 e3 e4)
    unfold Oper.wp execOp
    simp only [ho, resolve, invoke, builtin, Sem.run_bind, Sem.run_pure, Result.andThen_ok, List.map_toArray, List.map_cons, List.map_nil, hs, hx, e1]
    exact hk

theorem step_append {t : TypeId} {v u v' : Value} {w' : World} (hgd : o.guard = none) (s x : Operand) (ho : o.op = .call { callee := .builtin .append, args := #[s, x], argTypes := #[t, t] }) (hs : a.eval s = v) (hx : a.eval x = u)
    (hrun : (Builtin.append_ #[t, t] o.type #[v, u]).run P w = .ok v' w') (h : wpList P ops Q rest (a.put o.dst v') w') : wpList P ops Q (o :: rest) a w :=
  wpList_plain hgd fun K hK => by
    have hk := hK _ _ h
    unfold Oper.wp execOp
    simp only [ho, resolve, invoke, builtin, Sem.run_bind, Sem.run_pure, Result.andThen_ok, List.map_toArray, List.map_cons, List.map_nil, hs, hx, hrun]
    exact hk
/-- storing cells from a place on -/
theorem run_storeCells' {P : Program} (b o : Nat) (T : TypeId) : ∀ (vs : List Value) (i : Nat) (w : World) (cur : Array Value), w.heap[b]? = some (.cells cur T (0, 0)) → (∀ v ∈ vs, v.oneCell' = true) → o + i + vs.length ≤ cur.size →
    ∃ w' cur', (storeCells ⟨b, o, none⟩ vs i).run P w = .ok () w' ∧ w'.heap[b]? = some (.cells cur' T (0, 0)) ∧ cur'.size = cur.size ∧ (∀ q, cur'[q]? = if o + i ≤ q ∧ q < o + i + vs.length then vs[q - (o + i)]? else cur[q]?) ∧ SetB w w' b (.cells cur' T (0, 0))
  | [], i, w, cur, h, _, _ => ⟨w, cur, rfl, h, rfl, fun q => by rw [if_neg (by simp)], SetB.self h⟩
  | v :: r, i, w, cur, h, h1, hs => by
    have hlt : o + i < cur.size := by simp at hs; omega
    have hc : w.cell? ⟨b, o + i, none⟩ = some cur[o + i] := cell_of h (by simp [hlt])
    have hf : w.frozen? ⟨b, o + i, none⟩ = false := free_of h
    have ha : (Addr.add ⟨b, o, none⟩ i) = ⟨b, o + i, none⟩ := by unfold Addr.add; split <;> simp_all
    obtain ⟨w', cur', e1, e2, e3, e4, e5⟩ := run_storeCells' b o T r (i + 1) (w.setCell ⟨b, o + i, none⟩ v) (cur.setIfInBounds (o + i) v) (setCell_blk h _ _) (fun u hu => h1 u (List.mem_cons_of_mem _ hu)) (by simp at hs ⊢; omega)
    refine ⟨w', cur', ?_, e2, by simpa using e3, fun q => ?_, ((SetB.self h).store (lt_of_blk h) v).trans e5⟩
    · unfold storeCells
      simp only [Sem.run_bind, ha, run_store P w _ v .plain (h1 v (by simp)), hc, hf, Bool.false_eq_true, if_false, Result.andThen]
      exact e1
    · rw [e4 q, Array.getElem?_setIfInBounds]
      simp only [List.length_cons]
      by_cases hq : o + i = q
      · subst hq
        rw [if_neg (by omega), if_pos rfl, if_pos hlt, if_pos (by omega)]
        simp
      · by_cases h4 : o + (i + 1) ≤ q ∧ q < o + (i + 1) + r.length
        · rw [if_pos h4, if_pos (by omega)]
          rw [show q - (o + i) = (q - (o + (i + 1))) + 1 by omega, List.getElem?_cons_succ]
        · rw [if_neg h4, if_neg hq, if_neg (by omega)]
theorem zeroCells_oneCell (z : Array Value) (h : ∀ v ∈ z.toList, v.oneCell' = true) (n : Nat) : ∀ v ∈ (Builtin.zeroCells z n).toList, v.oneCell' = true := by
  intro v hv
  unfold Builtin.zeroCells at hv
  simp only [Array.toList_map, List.mem_map] at hv
  obtain ⟨i, hi, rfl⟩ := hv
  simp at hi
  have hz : i % z.size < z.size := Nat.mod_lt _ (by rcases Nat.eq_zero_or_pos z.size with h0 | h0; rw [h0] at hi; simp at hi; exact h0)
  rw [getElem!_pos z _ hz]
  exact h _ (by simp)
/-- clear of a slice within a block of the call's own -/
theorem run_clear_in {t ty : TypeId} {T : TypeId} {z : Value} {k : Nat} (ht : P.underlying t = some (.slice T)) (hz : ∀ w, (zeroValue T).run P w = .ok z w) (hk : z.cells.size = k) (h1 : ∀ v ∈ z.cells.toList, v.oneCell' = true)
    (w : World) (b i n c cap : Nat) (cur : Array Value) (h : w.heap[b]? = some (.cells cur T (0, 0))) (hs : cur.size = cap * k) (hin : i + n ≤ cap) :
    ∃ w' cur', (Builtin.clear_ #[t] ty #[.slice (some ⟨b, i * k, none⟩) n c]).run P w = .ok (.tuple #[]) w' ∧ w'.heap[b]? = some (.cells cur' T (0, 0)) ∧ cur'.size = cur.size ∧ (∀ q, q < i * k → cur'[q]? = cur[q]?) ∧ SetB w w' b (.cells cur' T (0, 0)) := by
  cases n with
  | zero => exact ⟨w, cur, by simp [Builtin.clear_, run_underlying ht, Result.andThen], h, rfl, fun _ _ => rfl, SetB.self h⟩
  | succ n =>
    have hl : (Builtin.zeroCells z.cells (n + 1)).toList.length = (n + 1) * k := by rw [Array.length_toList, size_zeroCells, hk]
    obtain ⟨w', cur', e1, e2, e3, e4, e5⟩ := run_storeCells' (P := P) b (i * k) T (Builtin.zeroCells z.cells (n + 1)).toList 0 w cur h
      (zeroCells_oneCell _ h1 _) (by
        rw [hl, hs, Nat.add_zero, ← Nat.add_mul]
        exact Nat.mul_le_mul_right k hin)
    refine ⟨w', cur', ?_, e2, e3, fun q hq => by rw [e4 q, if_neg (by omega)], e5⟩
    simp only [Builtin.clear_, List.getElem?_toArray, List.getElem?_cons_zero, Sem.run_bind, run_underlying ht, Result.andThen, hz, Sem.run_pure]
    rw [e1]
/-- append(s[:i], s[j:]...) in place -/
theorem run_append_within {t ty : TypeId} {bytes : Nat} (hT : Ty P t R bytes) {w : World} {g cap i j n : Nat} {L : List α} (hL : L.length = n) (hblk : ∃ cur, w.heap[g]? = some (.cells cur R.T (0, 0)) ∧ cur.size = cap * R.k) (hr : R.Row w g 0 L) (hij : i ≤ j) (hjn : j ≤ n) (hnc : n ≤ cap) (m c : Nat) (hm : m = n - j) (ad : Addr) (had : 0 < m → ad = ⟨g, j * R.k, none⟩) :
    ∃ w' cur', (Builtin.append_ #[t, t] ty #[.slice (some ⟨g, 0, none⟩) i cap, .slice (some ad) m c]).run P w = .ok (.slice (some ⟨g, 0, none⟩) (i + m) cap) w' ∧
      w'.heap[g]? = some (.cells cur' R.T (0, 0)) ∧ cur'.size = cap * R.k ∧ R.Row w' g 0 (L.take i ++ L.drop j) ∧ But w w' [g] := by
  subst hm
  subst hL
  obtain ⟨cur, hb, hs⟩ := hblk
  obtain ⟨inf, z, h1, h2, h3, h4, h5⟩ := hT.hi
  have hd : R.Row w g (j * R.k) (L.drop j) := by have := hr.drop j; rwa [Nat.zero_add] at this
  have hnl : (R.flat (L.drop j)).length = (L.length - j) * R.k := by rw [R.flat_length, List.length_drop]
  have hfit : i * R.k + (L.length - j) * R.k ≤ cur.size := by rw [hs, ← Nat.add_mul]; exact Nat.mul_le_mul_right _ (by omega)
  have hnews : ∀ q u, (R.flat (L.drop j))[q]? = some u → w.cell? (ad.add q) = some u := by
    rcases Nat.eq_zero_or_pos (L.length - j) with h0 | h0
    · have : L.drop j = [] := List.drop_eq_nil_of_le (by omega)
      rw [this]; intro q u hu; simp [flat] at hu
    · rw [had h0]; exact news_of_row hd
  have hrun := run_append_room (P := P) w t ty R.T inf hT.ht h1 g i cap cur hb ad (L.length - j) c (R.flat (L.drop j)) (by rw [hnl, h3]) hnews (fun u hu => R.flat_cell1 _ u hu) (by omega) (by rw [h3, hnl]; exact hfit)
  rw [h3] at hrun
  refine ⟨_, _, hrun, setRow_heap w g cur _ R.T _ hb, ?_, ?_, ⟨rfl, rfl, rfl, by simp, fun k hk hn => setRow_other w g k _ (fun e => hn (by simp [e]))⟩⟩
  · simp only [List.size_toArray, List.length_append, List.length_take, List.length_drop, Array.length_toList, hnl]
    omega
  · have hlt : g < w.heap.size := lt_of_blk hb
    refine ⟨by simpa using hlt, fun a ha q hq => ?_⟩
    have hb' := setRow_heap w g cur (cur.toList.take (i * R.k) ++ R.flat (L.drop j) ++ cur.toList.drop (i * R.k + (R.flat (L.drop j)).length)).toArray R.T (0, 0) hb
    have hti : (cur.toList.take (i * R.k)).length = i * R.k := by simp; omega
    rw [show w.setRow g _ = _ from rfl, World.cell?, hb']
    dsimp only
    rw [Nat.zero_add]
    simp only [Option.isSome_none, Bool.false_eq_true, if_false, List.getElem?_toArray]
    rw [List.length_append, List.length_take, List.length_drop, Nat.min_eq_left (by omega)] at ha
    by_cases hai : a < i
    · have hl := mul_lt hai hq
      rw [List.append_assoc, List.getElem?_append_left (by omega), List.getElem?_take, if_pos (by omega)]
      have := hr.get a (by omega) q hq
      rw [Nat.zero_add] at this
      simp only [World.cell?, hb, Option.isSome_none, Bool.false_eq_true, if_false] at this
      rw [Array.getElem?_toList, this]
      have : L.getD a default = (L.take i ++ L.drop j).getD a default := by
        simp [List.getD_eq_getElem?_getD, List.getElem?_append, hai, show a < L.length by omega, show min i L.length = i by omega]
      rw [this]
    · have hl : i * R.k ≤ a * R.k := Nat.mul_le_mul_right _ (by omega)
      have hl2 : (a - i) * R.k + q < (L.length - j) * R.k := mul_lt (by omega) hq
      rw [List.append_assoc, List.getElem?_append_right (by omega), hti, List.getElem?_append_left (by
        rw [hnl]; rw [Nat.sub_mul] at hl2; omega)]
      have e : a * R.k + q - i * R.k = (a - i) * R.k + q := by rw [Nat.sub_mul]; omega
      rw [e, R.flat_get _ _ _ (by simp; omega) hq]
      have : (L.drop j).getD (a - i) default = (L.take i ++ L.drop j).getD a default := by
        simp [List.getD_eq_getElem?_getD, List.getElem?_append, hai, show min i L.length = i by omega]
      rw [this]
end Rep
end Go.Proofs.Ytfmehahjjgalfaa
