/- A trie's prefixes in order; what a loop's body keeps of what an iterator has laid. -/
import Derived.Test.YtdhebjeajdohoaaTr
import Derived.RangeFuncNested
import Derived.RangeFuncBox
import Derived.RangeFuncBound
import Derived.RangeFuncLeaves
import Derived.OwnWalkIn
namespace Go.Proofs.Ytdhebjeajdohoaa
open Go.RowKit
section
variable {α : Type}
/-- the things of a branch, in order -/
def trav (M : Nat → Nat → Option α) : Nat → Nat → Nat → List (Nat × Nat)
  | 0, _, _ => []
  | f + 1, a, d => (if (M a d).isSome then [(a, d)] else []) ++ (trav M f (kid a d false) (d + 1) ++ trav M f (kid a d true) (d + 1))
variable {TN TT : TypeId} {enc : α → Value} {z : α} {w w' : World} {b n : Nat} {N : Nat → Nat → Option Nat} {M : Nat → Nat → Option α}
theorem TrieAt.trav_none (h : TrieAt TN TT enc z w b N n M) : ∀ (f a d : Nat), (Key a d ∨ 32 < d) → N a d = none → trav M f a d = []
  | 0, _, _, _, _ => rfl
  | f + 1, a, d, hk, hn => by
    have hkid : ∀ c, trav M f (kid a d c) (d + 1) = [] := fun c => by
      rcases hk with hk | hk
      · by_cases hd : d ≤ 31
        · refine h.trav_none f _ _ (.inl (hk.kid hd c)) ?_
          cases e : N (kid a d c) (d + 1) with
          | none => rfl
          | some q => have := h.up _ _ (by rw [e]; rfl); rw [kid_cut hk hd, hn] at this; cases this
        · exact h.trav_none f _ _ (.inr (by omega)) (h.none33 _ (by omega))
      · exact h.trav_none f _ _ (.inr (by omega)) (h.none33 _ (by omega))
    rw [trav, h.thing_none hn, hkid, hkid]; rfl
end

/-- the block of the slice that a box holds -/
def OwnAt (W : World) (B k : Nat) : Prop := ∃ v, W.cell? ⟨B, 0, none⟩ = some v ∧ v.ownBlock = some k
/-- what a round keeps: all cells but the box B and its slice's block -/
structure Kp (B : Nat) (W W' : World) : Prop where
  os : W'.os = W.os
  tape : W'.tape = W.tape
  output : W'.output = W.output
  size : W.heap.size ≤ W'.heap.size
  same : ∀ k, k < W.heap.size → k ≠ B → (∃ o, W.heap[k]? = some o ∧ o.isCells = true) → ¬ OwnAt W B k → W'.heap[k]? = W.heap[k]? ∧ ¬ OwnAt W' B k
  fresh : (∀ k, OwnAt W B k → k < W.heap.size) → ∀ k, OwnAt W' B k → k < W'.heap.size
theorem Kp.trans {B : Nat} {X Y Z : World} (h : Kp B X Y) (k : Kp B Y Z) : Kp B X Z :=
  ⟨k.os.trans h.os, k.tape.trans h.tape, k.output.trans h.output, Nat.le_trans h.size k.size, fun i hi hn ho hw => by
    obtain ⟨h1, h2⟩ := h.same i hi hn ho hw
    obtain ⟨h3, h4⟩ := k.same i (Nat.lt_of_lt_of_le hi h.size) hn (by rw [h1]; exact ho) h2
    exact ⟨h3.trans h1, h4⟩, fun hf => k.fresh (h.fresh hf)⟩
theorem ownAt_same {W W' : World} {B k : Nat} (e : W'.heap[B]? = W.heap[B]?) : OwnAt W' B k ↔ OwnAt W B k := by
  unfold OwnAt; rw [World.cell?_of_block (a := ⟨B, 0, none⟩) e]
theorem Kp.of_below {B : Nat} {W W' : World} (hB : B < W.heap.size) (h : Below W.heap.size W W') : Kp B W W' :=
  ⟨h.os, h.tape, h.output, h.size, fun k hk _ _ hw => ⟨h.block k hk, fun hw' => hw ((ownAt_same (h.block B hB)).1 hw')⟩, fun hf k hk => Nat.lt_of_lt_of_le (hf k ((ownAt_same (h.block B hB)).1 hk)) h.size⟩
theorem Kp.refl {B : Nat} (W : World) : Kp B W W := ⟨rfl, rfl, rfl, Nat.le_refl _, fun _ _ _ _ hw => ⟨rfl, hw⟩, fun hf => hf⟩
theorem Kp.putObj {B : Nat} {W : World} {l : Nat} {o : Obj} (o' : Obj) (hB : B < l) (hl : W.heap[l]? = some o) (ho : o.isCells = false) : Kp B W (W.putObj l o') := by
  have hne : (W.putObj l o').heap[B]? = W.heap[B]? := World.putObj_heap_other (by omega)
  refine ⟨rfl, rfl, rfl, by simp, fun k hk _ hc hw => ⟨World.putObj_heap_other (fun e => ?_), fun hw' => hw ((ownAt_same hne).1 hw')⟩, fun hf k hk => ?_⟩
  · subst e; obtain ⟨o2, h1, h2⟩ := hc; rw [hl] at h1; cases h1; rw [ho] at h2; cases h2
  · have := hf k ((ownAt_same hne).1 hk); simpa using this
/-- cells that a round keeps -/
structure Safe (B : Nat) (W : World) (k : Nat) : Prop where
  lt : k < W.heap.size
  ne : k ≠ B
  cells : ∃ o, W.heap[k]? = some o ∧ o.isCells = true
  own : ¬ OwnAt W B k
theorem Safe.kp {B : Nat} {W W' : World} {k : Nat} (h : Safe B W k) (hk : Kp B W W') : Safe B W' k ∧ W'.heap[k]? = W.heap[k]? := by
  obtain ⟨h1, h2⟩ := hk.same k h.lt h.ne h.cells h.own
  exact ⟨⟨Nat.lt_of_lt_of_le h.lt hk.size, h.ne, by rw [h1]; exact h.cells, h2⟩, h1⟩
/-- what is new is kept -/
theorem Safe.new {B : Nat} {W W' : World} {k : Nat} {cs : Array Value} {T : TypeId} {fr : Nat × Nat} (hB : B < W.heap.size) (hf : ∀ k, OwnAt W B k → k < W.heap.size) (h : Below W.heap.size W W') (hk : W.heap.size ≤ k) (hc : W'.heap[k]? = some (.cells cs T fr)) : Safe B W' k :=
  ⟨lt_of_blk hc, by omega, ⟨_, hc, rfl⟩, fun hw => by have := hf k ((ownAt_same (h.block B hB)).1 hw); omega⟩
section
variable {α : Type} {TN TT : TypeId} {enc : α → Value} {z : α} {W W' : World} {b n : Nat} {N : Nat → Nat → Option Nat} {M : Nat → Nat → Option α}
/-- a trie that no round turns -/
structure Rdy (TN TT : TypeId) (enc : α → Value) (z : α) (B : Nat) (W : World) (b : Nat) (N : Nat → Nat → Option Nat) (n : Nat) (M : Nat → Nat → Option α) : Prop where
  trie : TrieAt TN TT enc z W b N n M
  foot : ∀ k, foot b N k → k ≠ B ∧ ¬ OwnAt W B k
  box : B < W.heap.size
  fresh : ∀ k, OwnAt W B k → k < W.heap.size
theorem Rdy.safe {B : Nat} (h : Rdy TN TT enc z B W b N n M) {k : Nat} (hk : Ytdhebjeajdohoaa.foot b N k) : Safe B W k := by
  obtain ⟨h1, h2⟩ := h.foot k hk
  refine ⟨h.trie.lt hk, h1, ?_, h2⟩
  rcases hk with rfl | ⟨a, d, hk⟩
  · obtain ⟨r, _, hb⟩ := h.trie.root; exact ⟨_, hb, rfl⟩
  · exact ⟨_, h.trie.node _ _ _ hk, rfl⟩
theorem Rdy.kp {B : Nat} (h : Rdy TN TT enc z B W b N n M) (hk : Kp B W W') : Rdy TN TT enc z B W' b N n M :=
  ⟨h.trie.keep fun _k hf => ((h.safe hf).kp hk).2, fun _k hf => let s := ((h.safe hf).kp hk).1; ⟨s.ne, s.own⟩, Nat.lt_of_lt_of_le h.box hk.size, hk.fresh h.fresh⟩
end
theorem grown_of_below {w w' : World} (h : Below w.heap.size w w') : w.grownBy w' none := ⟨h.os, h.tape, h.output, h.size, fun k hk _ => h.block k hk⟩
/-- what the iterator is told, it abides where nothing that was there has turned -/
theorem abides_below {β : Type} {B : Nat} {J : β → World → Prop} (h : AbidesFrom B J) {s : β} {W W' : World} (hs : J s W) (hb : Below W.heap.size W W') : J s W' := h s W W' none hs (grown_of_below hb) (fun r e => by cases e)
theorem room_of_none {F : Fence} (hd : F.depth = none) (k : Nat) : F.room k := fun d h => by rw [hd] at h; cases h
theorem RoundIn.anyDepth {F : Fence} (hd : F.depth = none) {m m' : Nat} {P : Program} {l : Nat} {f : FuncId} {tmps : Array Value} {assign body : Code} {w : World} {R : Ending → World → Prop}
    (h : RoundIn F m P l f tmps assign body w R) : RoundIn F m' P l f tmps assign body w R := ⟨h.1, fun c cs _ => h.2 c cs (room_of_none hd _)⟩
theorem YieldAt.anyDepth {F : Fence} (hd : F.depth = none) {m : Nat} (m' : Nat) {P : Program} {l : Nat} {args : Array Value} {W : World} {R : Ending → World → Prop} (h : YieldAt F m P l args W R) : YieldAt F m' P l args W R := by
  obtain ⟨fn, tmps, assign, body, hy, hR⟩ := h
  exact ⟨fn, tmps, assign, body, hy, RoundIn.anyDepth hd hR⟩
theorem ownAt_nil {W : World} {B k : Nat} {t : TypeId} (h : Boxed W B t (.slice none 0 0)) : ¬ OwnAt W B k := fun ⟨u, h1, h2⟩ => by rw [h.cell] at h1; cases h1; cases h2
/-- append's block is the old one, or new -/
theorem append_block {P : Program} (w : World) (base : Nat) (t ty e : TypeId) (i : TypeInfo) (z : Value) (size bytes : Nat) (ht : P.underlying t = some (.slice e)) (hi : P.info? e = some i) (hz : i.zero = some z)
    (hsize : i.size = size) (hby : i.bytes = bytes) (v : Value) (n : Nat) (xs : List Value) (hown : w.ownsRow base e size v n xs)
    (a : Addr) (m c : Nat) (news : List Value) (hl : news.length = m * size) (hnews : ∀ j u, news[j]? = some u → w.cell? (a.add j) = some u) (h1 : ∀ u ∈ news, u.oneCell' = true)
    (hm : 0 < m) (h63 : n + m ≤ maxLen) (hbytes : (n + m) * bytes ≤ 140737488355328) {v' : Value} {w' : World} (hrun : (Builtin.append_ #[t, t] ty #[v, .slice (some a) m c]).run P w = .ok v' w') :
    v'.ownBlock = v.ownBlock ∨ v'.ownBlock = some w.heap.size := by
  subst hsize
  subst hby
  have hsmall : n + m ≤ 9223372036854775807 := by simp only [maxLen] at h63; omega
  rcases hown.2 with ⟨rfl, rfl⟩ | ⟨g, cap, cur, rfl, hbg, hg, hnc, hcm, hcs, htake⟩
  · have hr := run_append_nil (P := P) w t ty e i z ht hi hz a m c news hl hnews (by omega) (by omega) (by have hb := hbytes; simp only [Nat.zero_add] at hb; omega)
    rw [hr] at hrun
    injection hrun with h2 _
    subst h2
    exact .inr rfl
  · by_cases hroom : n + m ≤ cap
    · have hfit : n * i.size + news.length ≤ cur.size := by rw [hl, hcs, ← Nat.add_mul]; exact Nat.mul_le_mul_right _ hroom
      have hr := run_append_room (P := P) w t ty e i ht hi g n cap cur hg a m c news hl hnews h1 hroom hfit
      rw [hr] at hrun
      injection hrun with h2 _
      subst h2
      exact .inl rfl
    · have holds : ∀ j u, xs[j]? = some u → w.cell? ((⟨g, 0, none⟩ : Addr).add j) = some u := hown.cells (g := g) rfl
      have hr := run_append_grow (P := P) w t ty e i z ht hi hz ⟨g, 0, none⟩ n cap xs hown.1 holds a m c news hl hnews (by omega) (by omega) (growslice_fits (by omega) hbytes)
      rw [hr] at hrun
      injection hrun with h2 _
      subst h2
      exact .inr rfl
theorem wpListIn_append_blk {F : Fence} {n : Nat} {P : Program} (w : World) {ops : Array Oper} {rest : List Oper} {o : Oper} {a : Act} {Q : Exit → Act → World → Prop}
    (hg : o.guard = none) (s x : Operand) (t : TypeId) (hop : o.op = Op.call { callee := Callee.builtin Builtin.append, args := #[s, x], argTypes := #[t, t] })
    (base : Nat) (e : TypeId) (i : TypeInfo) (z : Value) (size bytes : Nat) (h1 : P.underlying t = some (.slice e)) (h2 : P.info? e = some i) (h3 : i.zero = some z) (h4 : i.size = size) (h5 : i.bytes = bytes) (h6 : z.cells.size = size) (h7 : 0 < size)
    (v : Value) (k : Nat) (xs : List Value) (hs : a.eval s = v) (hown : w.ownsRow base e size v k xs) (ad : Addr) (m c : Nat) (news : List Value) (hx : a.eval x = .slice (some ad) m c) (hn : news.length = m * size)
    (hc : ∀ j u, news[j]? = some u → w.cell? (ad.add j) = some u) (h1c : ∀ u ∈ news, u.oneCell' = true) (hm : 0 < m) (b1 : k + m ≤ maxLen) (b2 : (k + m) * bytes ≤ 140737488355328) (b3 : base ≤ w.heap.size)
    (hK : ∀ v' w', w'.ownsRow base e size v' (k + m) (xs ++ news) → w.grownBy w' v.ownBlock → (v'.ownBlock = v.ownBlock ∨ v'.ownBlock = some w.heap.size) → wpListIn F n P ops Q rest (a.put o.dst v') w') :
    wpListIn F n P ops Q (o :: rest) a w := by
  refine wpListIn_plain hg fun K hK' => ?_
  obtain ⟨v', w', hrun, r1, r2, r3⟩ := run_append_own (P := P) w base t o.type e i z size bytes h1 h2 h3 h4 h5 h6 h7 v k xs hown ad m c news hn hc h1c b1 b2 b3
  have r4 := append_block w base t o.type e i z size bytes h1 h2 h3 h4 h5 v k xs hown ad m c news hn hc h1c hm b1 b2 hrun
  unfold Oper.wpIn
  refine ⟨?_, ?_⟩
  · simp [Oper.about, hop, resolve, Target.leads, Sem.run_pure]
  · rw [Oper.semAt_plain F _ _ (by rw [hop]; intro c hc'; cases hc')]
    simp [execOp, hop, resolve, invoke, builtin, hs, hx, hrun, Result.andThen]
    exact hK' _ _ (hK v' w' r1 r2 r4)
/-- a round that appends keeps what it must -/
theorem Kp.appended {W w1 : World} {n₀ B : Nat} {t e : TypeId} {size : Nat} {v v' : Value} {k m : Nat} {xs ys : List Value} {tmp : Obj}
    (hv : Boxed W B t v) (hte : t ≠ e) (hrow : W.ownsRow n₀ e size v k xs) (hown' : w1.ownsRow n₀ e size v' m ys) (hgrow : (W.alloc tmp).grownBy w1 v.ownBlock)
    (hblk : v'.ownBlock = v.ownBlock ∨ v'.ownBlock = some (W.alloc tmp).heap.size) : Kp B W (w1.setCell ⟨B, 0, none⟩ v') := by
  have hv1 : Boxed w1 B t v := (hv.alloc tmp).kept hgrow (hv.not_row hte hrow)
  have hv2 : Boxed (w1.setCell ⟨B, 0, none⟩ v') B t v' := hv1.set v'
  have hsz : W.heap.size + 1 ≤ w1.heap.size := by have := hgrow.size; simpa using this
  have hown : ∀ q, OwnAt (w1.setCell ⟨B, 0, none⟩ v') B q ↔ v'.ownBlock = some q := fun q => ⟨fun ⟨u, h1, h2⟩ => by rw [hv2.cell] at h1; cases h1; exact h2, fun h => ⟨v', hv2.cell, h⟩⟩
  have hownW : ∀ q, OwnAt W B q ↔ v.ownBlock = some q := fun q => ⟨fun ⟨u, h1, h2⟩ => by rw [hv.cell] at h1; cases h1; exact h2, fun h => ⟨v, hv.cell, h⟩⟩
  refine ⟨?_, ?_, ?_, by simp [World.setCell]; omega, fun q hq hn hc hw => ⟨?_, fun hw' => ?_⟩, fun hf q hq => ?_⟩
  · exact hgrow.os
  · exact hgrow.tape
  · exact hgrow.output
  · have h1 : (w1.setCell ⟨B, 0, none⟩ v').heap[q]? = w1.heap[q]? := Below.heap_setCell _ _ _ _ hn
    have h2 : w1.heap[q]? = (W.alloc tmp).heap[q]? := hgrow.block q (by simp; omega) (fun e => hw ((hownW q).2 e.symm))
    rw [h1, h2]
    exact Below.heap_alloc W tmp q hq
  · have h := (hown q).1 hw'
    rcases hblk with h2 | h2
    · exact hw ((hownW q).2 (h2 ▸ h))
    · rw [h] at h2; simp at h2; omega
  · have h := (hown q).1 hq
    rcases hown'.2 with ⟨h2, _⟩ | ⟨g, cap, cur, h2, _, h3, _⟩
    · rw [h2] at h; cases h
    · rw [h2] at h
      injection h with h
      subst h
      have := lt_of_blk h3
      simpa [World.setCell] using this
end Go.Proofs.Ytdhebjeajdohoaa
