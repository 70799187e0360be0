/- append, and in which block its result lies. -/
import Derived.Test.YtfmehahjjgalfaaAp
namespace Go.Proofs.Ytfmehahjjgalfaa
open Go Go.RowKit

/-- append's block is the old one, or new -/
theorem append_block {P : Program} (w : World) (base : Nat) (t ty e : TypeId) (i : TypeInfo) (z : Value) (size bytes : Nat) (ht : P.underlying t = some (.slice e)) (hi : P.info? e = some i) (hz : i.zero = some z)
    (hsize : i.size = size) (hby : i.bytes = bytes) (v : Value) (n : Nat) (xs : List Value) (hown : w.ownsRow base e size v n xs)
    (a : Addr) (m c : Nat) (news : List Value) (hl : news.length = m * size) (hnews : ∀ j u, news[j]? = some u → w.cell? (a.add j) = some u) (h1 : ∀ u ∈ news, u.oneCell' = true)
    (hm : 0 < m) (h63 : n + m ≤ maxLen) (hbytes : (n + m) * bytes ≤ 140737488355328) {v' : Value} {w' : World} (hrun : (Builtin.append_ #[t, t] ty #[v, .slice (some a) m c]).run P w = .ok v' w') :
    v'.ownBlock = v.ownBlock ∨ v'.ownBlock = some w.heap.size := by
  subst hsize
  subst hby
  have hsmall : n + m ≤ 9223372036854775807 := by simp only [maxLen] at h63; omega
  rcases hown.2 with ⟨rfl, rfl⟩ | ⟨g, cap, cur, rfl, hbg, hg, hnc, hcm, hcs, htake⟩
  · have hr := run_append_nil (P := P) w t ty e i z ht hi hz a m c news hl hnews (by omega) (by omega) (by have hb := hbytes; simp only [Nat.zero_add] at hb; omega)
    rw [hr] at hrun
    injection hrun with h2 _
    subst h2
    exact .inr rfl
  · by_cases hroom : n + m ≤ cap
    · have hfit : n * i.size + news.length ≤ cur.size := by rw [hl, hcs, ← Nat.add_mul]; exact Nat.mul_le_mul_right _ hroom
      have hr := run_append_room (P := P) w t ty e i ht hi g n cap cur hg a m c news hl hnews h1 hroom hfit
      rw [hr] at hrun
      injection hrun with h2 _
      subst h2
      exact .inl rfl
    · have holds : ∀ j u, xs[j]? = some u → w.cell? ((⟨g, 0, none⟩ : Addr).add j) = some u := hown.cells (g := g) rfl
      have hr := run_append_grow (P := P) w t ty e i z ht hi hz ⟨g, 0, none⟩ n cap xs hown.1 holds a m c news hl hnews (by omega) (by omega) (growslice_fits (by omega) hbytes)
      rw [hr] at hrun
      injection hrun with h2 _
      subst h2
      exact .inr rfl

namespace Rep
variable {α : Type} [Inhabited α] {R : Rep α} {P : Program} {ops : Array Oper} {rest : List Oper} {o : Oper} {a : Act} {Q : Exit → Act → World → Prop} {w : World}
theorem run_append_list2 {t ty : TypeId} {bytes : Nat} (hT : Ty P t R bytes) {base : Nat} {v : Value} {L : List α} (hown : R.Own w base v L) {sa : Option Addr} {m c : Nat} {M : List α} (hM : R.Sl w sa m c M) (h0 : 0 < m)
    (hmax : L.length + m ≤ maxLen) (hbytes : (L.length + m) * bytes ≤ 140737488355328) (hbase : base ≤ w.heap.size) :
    ∃ v' w', (Builtin.append_ #[t, t] ty #[v, .slice sa m c]).run P w = .ok v' w' ∧ R.Own w' base v' (L ++ M) ∧ Below base w w' ∧ ∀ bad, v.ownBlock ≠ some bad → bad < w.heap.size → v'.ownBlock ≠ some bad ∧ w'.heap[bad]? = w.heap[bad]? := by
  obtain ⟨b, off, rfl, hr⟩ := hM.row h0
  obtain ⟨v', w', e1, e2, e3, e4⟩ := run_append_list (ty := ty) hT hown hM (fun h => by cases h) hmax hbytes hbase
  obtain ⟨i, z, h1, h2, h3, h4, h5⟩ := hT.hi
  have hb := append_block w base t ty R.T i z R.k bytes hT.ht h1 h2 h3 h4 v L.length (R.flat L) hown ⟨b, off, none⟩ m c (R.flat M) (by rw [R.flat_length, ← hM.len]) (news_of_row hr) (fun u hu => R.flat_cell1 M u hu) h0 hmax hbytes e1
  refine ⟨v', w', e1, e2, e3, fun bad h6 h7 => ⟨?_, e4.block bad h7 (fun h => h6 h.symm)⟩⟩
  rcases hb with hb | hb
  · rw [hb]; exact h6
  · rw [hb]; intro h; injection h with h; omega
theorem append_list2 {t : TypeId} {bytes : Nat} (hT : Ty P t R bytes) (hgd : o.guard = none) (s x : Operand) (ho : o.op = .call { callee := .builtin .append, args := #[s, x], argTypes := #[t, t] })
    {base : Nat} {v : Value} {L : List α} (hs : a.eval s = v) (hown : R.Own w base v L) {sa : Option Addr} {m c : Nat} {M : List α} (hx : a.eval x = .slice sa m c) (hM : R.Sl w sa m c M) (h0 : 0 < m)
    (hmax : L.length + m ≤ maxLen) (hbytes : (L.length + m) * bytes ≤ 140737488355328) (hbase : base ≤ w.heap.size)
    (h : ∀ v' w', R.Own w' base v' (L ++ M) → Below base w w' → (∀ bad, v.ownBlock ≠ some bad → bad < w.heap.size → v'.ownBlock ≠ some bad ∧ w'.heap[bad]? = w.heap[bad]?) → wpList P ops Q rest (a.put o.dst v') w') : wpList P ops Q (o :: rest) a w :=
  wpList_plain hgd fun K hK => by
    obtain ⟨v', w', e1, e2, e3, e4⟩ := run_append_list2 hT hown hM h0 hmax hbytes hbase (ty := o.type)
    have hk := hK _ _ (h v' w' e2 e3 e4)
    unfold Oper.wp execOp
    simp only [ho, resolve, invoke, builtin, Sem.run_bind, Sem.run_pure, Result.andThen_ok, List.map_toArray, List.map_cons, List.map_nil, hs, hx, e1]
    exact hk
end Rep
end Go.Proofs.Ytfmehahjjgalfaa
