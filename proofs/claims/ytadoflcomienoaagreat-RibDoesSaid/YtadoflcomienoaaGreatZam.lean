/- A trie's prefixes in order; what a loop's body keeps of what an iterator has laid. -/
import Derived.Test.YtadoflcomienoaaGreatZaa
import Derived.RangeFuncNested
import Derived.RangeFuncBox
import Derived.RangeFuncBound
import Derived.RangeFuncLeaves
import Derived.OwnWalkIn
import Derived.Test.YtadoflcomienoaaGreatZal
import Derived.Test.YtadoflcomienoaaGreatZab
import Derived.Test.YtadoflcomienoaaGreatZac
import Derived.Shelf.Abstract
import Derived.TacticsInMore
import Derived.LoopNIn
import Derived.LoopIn
import Derived.Maps.AppendAt
namespace Go.Proofs.YtadoflcomienoaaGreat
open Go.RowKit
section
variable {α : Type}
/-- the things of a branch, in order -/
def trav (M : Nat → Nat → Option α) : Nat → Nat → Nat → List (Nat × Nat)
  | 0, _, _ => []
  | f + 1, a, d => (if (M a d).isSome then [(a, d)] else []) ++ (trav M f (kid a d false) (d + 1) ++ trav M f (kid a d true) (d + 1))
variable {TN TT : TypeId} {enc : α → Value} {z : α} {w w' : World} {b n : Nat} {N : Nat → Nat → Option Nat} {M : Nat → Nat → Option α}
theorem TrieAt.trav_none (h : TrieAt TN TT enc z w b N n M) : ∀ (f a d : Nat), (Key a d ∨ 32 < d) → N a d = none → trav M f a d = []
  | 0, _, _, _, _ => rfl
  | f + 1, a, d, hk, hn => by
    have hkid : ∀ c, trav M f (kid a d c) (d + 1) = [] := fun c => by
      rcases hk with hk | hk
      · by_cases hd : d ≤ 31
        · refine h.trav_none f _ _ (.inl (hk.kid hd c)) ?_
          cases e : N (kid a d c) (d + 1) with
          | none => rfl
          | some q => have := h.up _ _ (by rw [e]; rfl); rw [kid_cut hk hd, hn] at this; cases this
        · exact h.trav_none f _ _ (.inr (by omega)) (h.none33 _ (by omega))
      · exact h.trav_none f _ _ (.inr (by omega)) (h.none33 _ (by omega))
    rw [trav, h.thing_none hn, hkid, hkid]; rfl
end

/-- the block of the slice that a box holds -/
def OwnAt (W : World) (B k : Nat) : Prop := ∃ v, W.cell? ⟨B, 0, none⟩ = some v ∧ v.ownBlock = some k
/-- what a round keeps: all cells but the box B and its slice's block -/
structure Kp (B : Nat) (W W' : World) : Prop where
  os : W'.os = W.os
  tape : W'.tape = W.tape
  output : W'.output = W.output
  size : W.heap.size ≤ W'.heap.size
  same : ∀ k, k < W.heap.size → k ≠ B → (∃ o, W.heap[k]? = some o ∧ o.isCells = true) → ¬ OwnAt W B k → W'.heap[k]? = W.heap[k]? ∧ ¬ OwnAt W' B k
  fresh : (∀ k, OwnAt W B k → k < W.heap.size) → ∀ k, OwnAt W' B k → k < W'.heap.size
theorem Kp.trans {B : Nat} {X Y Z : World} (h : Kp B X Y) (k : Kp B Y Z) : Kp B X Z :=
  ⟨k.os.trans h.os, k.tape.trans h.tape, k.output.trans h.output, Nat.le_trans h.size k.size, fun i hi hn ho hw => by
    obtain ⟨h1, h2⟩ := h.same i hi hn ho hw
    obtain ⟨h3, h4⟩ := k.same i (Nat.lt_of_lt_of_le hi h.size) hn (by rw [h1]; exact ho) h2
    exact ⟨h3.trans h1, h4⟩, fun hf => k.fresh (h.fresh hf)⟩
theorem ownAt_same {W W' : World} {B k : Nat} (e : W'.heap[B]? = W.heap[B]?) : OwnAt W' B k ↔ OwnAt W B k := by
  unfold OwnAt; rw [World.cell?_of_block (a := ⟨B, 0, none⟩) e]
theorem Kp.of_below {B : Nat} {W W' : World} (hB : B < W.heap.size) (h : Below W.heap.size W W') : Kp B W W' :=
  ⟨h.os, h.tape, h.output, h.size, fun k hk _ _ hw => ⟨h.block k hk, fun hw' => hw ((ownAt_same (h.block B hB)).1 hw')⟩, fun hf k hk => Nat.lt_of_lt_of_le (hf k ((ownAt_same (h.block B hB)).1 hk)) h.size⟩
theorem Kp.refl {B : Nat} (W : World) : Kp B W W := ⟨rfl, rfl, rfl, Nat.le_refl _, fun _ _ _ _ hw => ⟨rfl, hw⟩, fun hf => hf⟩
theorem Kp.putObj {B : Nat} {W : World} {l : Nat} {o : Obj} (o' : Obj) (hB : B < l) (hl : W.heap[l]? = some o) (ho : o.isCells = false) : Kp B W (W.putObj l o') := by
  have hne : (W.putObj l o').heap[B]? = W.heap[B]? := World.putObj_heap_other (by omega)
  refine ⟨rfl, rfl, rfl, by simp, fun k hk _ hc hw => ⟨World.putObj_heap_other (fun e => ?_), fun hw' => hw ((ownAt_same hne).1 hw')⟩, fun hf k hk => ?_⟩
  · subst e; obtain ⟨o2, h1, h2⟩ := hc; rw [hl] at h1; cases h1; rw [ho] at h2; cases h2
  · have := hf k ((ownAt_same hne).1 hk); simpa using this
/-- cells that a round keeps -/
structure Safe (B : Nat) (W : World) (k : Nat) : Prop where
  lt : k < W.heap.size
  ne : k ≠ B
  cells : ∃ o, W.heap[k]? = some o ∧ o.isCells = true
  own : ¬ OwnAt W B k
theorem Safe.kp {B : Nat} {W W' : World} {k : Nat} (h : Safe B W k) (hk : Kp B W W') : Safe B W' k ∧ W'.heap[k]? = W.heap[k]? := by
  obtain ⟨h1, h2⟩ := hk.same k h.lt h.ne h.cells h.own
  exact ⟨⟨Nat.lt_of_lt_of_le h.lt hk.size, h.ne, by rw [h1]; exact h.cells, h2⟩, h1⟩
/-- what is new is kept -/
theorem Safe.new {B : Nat} {W W' : World} {k : Nat} {cs : Array Value} {T : TypeId} {fr : Nat × Nat} (hB : B < W.heap.size) (hf : ∀ k, OwnAt W B k → k < W.heap.size) (h : Below W.heap.size W W') (hk : W.heap.size ≤ k) (hc : W'.heap[k]? = some (.cells cs T fr)) : Safe B W' k :=
  ⟨lt_of_blk hc, by omega, ⟨_, hc, rfl⟩, fun hw => by have := hf k ((ownAt_same (h.block B hB)).1 hw); omega⟩
section
variable {α : Type} {TN TT : TypeId} {enc : α → Value} {z : α} {W W' : World} {b n : Nat} {N : Nat → Nat → Option Nat} {M : Nat → Nat → Option α}
/-- a trie that no round turns -/
structure Rdy (TN TT : TypeId) (enc : α → Value) (z : α) (B : Nat) (W : World) (b : Nat) (N : Nat → Nat → Option Nat) (n : Nat) (M : Nat → Nat → Option α) : Prop where
  trie : TrieAt TN TT enc z W b N n M
  foot : ∀ k, foot b N k → k ≠ B ∧ ¬ OwnAt W B k
  box : B < W.heap.size
  fresh : ∀ k, OwnAt W B k → k < W.heap.size
theorem Rdy.safe {B : Nat} (h : Rdy TN TT enc z B W b N n M) {k : Nat} (hk : YtadoflcomienoaaGreat.foot b N k) : Safe B W k := by
  obtain ⟨h1, h2⟩ := h.foot k hk
  refine ⟨h.trie.lt hk, h1, ?_, h2⟩
  rcases hk with rfl | ⟨a, d, hk⟩
  · obtain ⟨r, _, hb⟩ := h.trie.root; exact ⟨_, hb, rfl⟩
  · exact ⟨_, h.trie.node _ _ _ hk, rfl⟩
theorem Rdy.kp {B : Nat} (h : Rdy TN TT enc z B W b N n M) (hk : Kp B W W') : Rdy TN TT enc z B W' b N n M :=
  ⟨h.trie.keep fun _k hf => ((h.safe hf).kp hk).2, fun _k hf => let s := ((h.safe hf).kp hk).1; ⟨s.ne, s.own⟩, Nat.lt_of_lt_of_le h.box hk.size, hk.fresh h.fresh⟩
end
theorem grown_of_below {w w' : World} (h : Below w.heap.size w w') : w.grownBy w' none := ⟨h.os, h.tape, h.output, h.size, fun k hk _ => h.block k hk⟩
/-- what the iterator is told, it abides where nothing that was there has turned -/
theorem abides_below {β : Type} {B : Nat} {J : β → World → Prop} (h : AbidesFrom B J) {s : β} {W W' : World} (hs : J s W) (hb : Below W.heap.size W W') : J s W' := h s W W' none hs (grown_of_below hb) (fun r e => by cases e)
theorem room_of_none {F : Fence} (hd : F.depth = none) (k : Nat) : F.room k := fun d h => by rw [hd] at h; cases h
theorem RoundIn.anyDepth {F : Fence} (hd : F.depth = none) {m m' : Nat} {P : Program} {l : Nat} {f : FuncId} {tmps : Array Value} {assign body : Code} {w : World} {R : Ending → World → Prop}
    (h : RoundIn F m P l f tmps assign body w R) : RoundIn F m' P l f tmps assign body w R := ⟨h.1, fun c cs _ => h.2 c cs (room_of_none hd _)⟩
theorem YieldAt.anyDepth {F : Fence} (hd : F.depth = none) {m : Nat} (m' : Nat) {P : Program} {l : Nat} {args : Array Value} {W : World} {R : Ending → World → Prop} (h : YieldAt F m P l args W R) : YieldAt F m' P l args W R := by
  obtain ⟨fn, tmps, assign, body, hy, hR⟩ := h
  exact ⟨fn, tmps, assign, body, hy, RoundIn.anyDepth hd hR⟩
theorem ownAt_nil {W : World} {B k : Nat} {t : TypeId} (h : Boxed W B t (.slice none 0 0)) : ¬ OwnAt W B k := fun ⟨u, h1, h2⟩ => by rw [h.cell] at h1; cases h1; cases h2
/-- append's block is the old one, or new -/
theorem append_block {P : Program} (w : World) (base : Nat) (t ty e : TypeId) (i : TypeInfo) (z : Value) (size bytes : Nat) (ht : P.underlying t = some (.slice e)) (hi : P.info? e = some i) (hz : i.zero = some z)
    (hsize : i.size = size) (hby : i.bytes = bytes) (v : Value) (n : Nat) (xs : List Value) (hown : w.ownsRow base e size v n xs)
    (a : Addr) (m c : Nat) (news : List Value) (hl : news.length = m * size) (hnews : ∀ j u, news[j]? = some u → w.cell? (a.add j) = some u) (h1 : ∀ u ∈ news, u.oneCell' = true)
    (hm : 0 < m) (h63 : n + m ≤ maxLen) (hbytes : (n + m) * bytes ≤ 140737488355328) {v' : Value} {w' : World} (hrun : (Builtin.append_ #[t, t] ty #[v, .slice (some a) m c]).run P w = .ok v' w') :
    v'.ownBlock = v.ownBlock ∨ v'.ownBlock = some w.heap.size := by
  subst hsize
  subst hby
  have hsmall : n + m ≤ 9223372036854775807 := by simp only [maxLen] at h63; omega
  rcases hown.2 with ⟨rfl, rfl⟩ | ⟨g, cap, cur, rfl, hbg, hg, hnc, hcm, hcs, htake⟩
  · have hr := run_append_nil (P := P) w t ty e i z ht hi hz a m c news hl hnews (by omega) (by omega) (by have hb := hbytes; simp only [Nat.zero_add] at hb; omega)
    rw [hr] at hrun
    injection hrun with h2 _
    subst h2
    exact .inr rfl
  · by_cases hroom : n + m ≤ cap
    · have hfit : n * i.size + news.length ≤ cur.size := by rw [hl, hcs, ← Nat.add_mul]; exact Nat.mul_le_mul_right _ hroom
      have hr := run_append_room (P := P) w t ty e i ht hi g n cap cur hg a m c news hl hnews h1 hroom hfit
      rw [hr] at hrun
      injection hrun with h2 _
      subst h2
      exact .inl rfl
    · have holds : ∀ j u, xs[j]? = some u → w.cell? ((⟨g, 0, none⟩ : Addr).add j) = some u := hown.cells (g := g) rfl
      have hr := run_append_grow (P := P) w t ty e i z ht hi hz ⟨g, 0, none⟩ n cap xs hown.1 holds a m c news hl hnews (by omega) (by omega) (growslice_fits (by omega) hbytes)
      rw [hr] at hrun
      injection hrun with h2 _
      subst h2
      exact .inr rfl
theorem wpListIn_append_blk {F : Fence} {n : Nat} {P : Program} (w : World) {ops : Array Oper} {rest : List Oper} {o : Oper} {a : Act} {Q : Exit → Act → World → Prop}
    (hg : o.guard = none) (s x : Operand) (t : TypeId) (hop : o.op = Op.call { callee := Callee.builtin Builtin.append, args := #[s, x], argTypes := #[t, t] })
    (base : Nat) (e : TypeId) (i : TypeInfo) (z : Value) (size bytes : Nat) (h1 : P.underlying t = some (.slice e)) (h2 : P.info? e = some i) (h3 : i.zero = some z) (h4 : i.size = size) (h5 : i.bytes = bytes) (h6 : z.cells.size = size) (h7 : 0 < size)
    (v : Value) (k : Nat) (xs : List Value) (hs : a.eval s = v) (hown : w.ownsRow base e size v k xs) (ad : Addr) (m c : Nat) (news : List Value) (hx : a.eval x = .slice (some ad) m c) (hn : news.length = m * size)
    (hc : ∀ j u, news[j]? = some u → w.cell? (ad.add j) = some u) (h1c : ∀ u ∈ news, u.oneCell' = true) (hm : 0 < m) (b1 : k + m ≤ maxLen) (b2 : (k + m) * bytes ≤ 140737488355328) (b3 : base ≤ w.heap.size)
    (hK : ∀ v' w', w'.ownsRow base e size v' (k + m) (xs ++ news) → w.grownBy w' v.ownBlock → (v'.ownBlock = v.ownBlock ∨ v'.ownBlock = some w.heap.size) → wpListIn F n P ops Q rest (a.put o.dst v') w') :
    wpListIn F n P ops Q (o :: rest) a w := by
  refine wpListIn_plain hg fun K hK' => ?_
  obtain ⟨v', w', hrun, r1, r2, r3⟩ := run_append_own (P := P) w base t o.type e i z size bytes h1 h2 h3 h4 h5 h6 h7 v k xs hown ad m c news hn hc h1c b1 b2 b3
  have r4 := append_block w base t o.type e i z size bytes h1 h2 h3 h4 h5 v k xs hown ad m c news hn hc h1c hm b1 b2 hrun
  unfold Oper.wpIn
  refine ⟨?_, ?_⟩
  · simp [Oper.about, hop, resolve, Target.leads, Sem.run_pure]
  · rw [Oper.semAt_plain F _ _ (by rw [hop]; intro c hc'; cases hc')]
    simp [execOp, hop, resolve, invoke, builtin, hs, hx, hrun, Result.andThen]
    exact hK' _ _ (hK v' w' r1 r2 r4)
/-- a round that appends keeps what it must -/
theorem Kp.appended {W w1 : World} {n₀ B : Nat} {t e : TypeId} {size : Nat} {v v' : Value} {k m : Nat} {xs ys : List Value} {tmp : Obj}
    (hv : Boxed W B t v) (hte : t ≠ e) (hrow : W.ownsRow n₀ e size v k xs) (hown' : w1.ownsRow n₀ e size v' m ys) (hgrow : (W.alloc tmp).grownBy w1 v.ownBlock)
    (hblk : v'.ownBlock = v.ownBlock ∨ v'.ownBlock = some (W.alloc tmp).heap.size) : Kp B W (w1.setCell ⟨B, 0, none⟩ v') := by
  have hv1 : Boxed w1 B t v := (hv.alloc tmp).kept hgrow (hv.not_row hte hrow)
  have hv2 : Boxed (w1.setCell ⟨B, 0, none⟩ v') B t v' := hv1.set v'
  have hsz : W.heap.size + 1 ≤ w1.heap.size := by have := hgrow.size; simpa using this
  have hown : ∀ q, OwnAt (w1.setCell ⟨B, 0, none⟩ v') B q ↔ v'.ownBlock = some q := fun q => ⟨fun ⟨u, h1, h2⟩ => by rw [hv2.cell] at h1; cases h1; exact h2, fun h => ⟨v', hv2.cell, h⟩⟩
  have hownW : ∀ q, OwnAt W B q ↔ v.ownBlock = some q := fun q => ⟨fun ⟨u, h1, h2⟩ => by rw [hv.cell] at h1; cases h1; exact h2, fun h => ⟨v, hv.cell, h⟩⟩
  refine ⟨?_, ?_, ?_, by simp [World.setCell]; omega, fun q hq hn hc hw => ⟨?_, fun hw' => ?_⟩, fun hf q hq => ?_⟩
  · exact hgrow.os
  · exact hgrow.tape
  · exact hgrow.output
  · have h1 : (w1.setCell ⟨B, 0, none⟩ v').heap[q]? = w1.heap[q]? := Below.heap_setCell _ _ _ _ hn
    have h2 : w1.heap[q]? = (W.alloc tmp).heap[q]? := hgrow.block q (by simp; omega) (fun e => hw ((hownW q).2 e.symm))
    rw [h1, h2]
    exact Below.heap_alloc W tmp q hq
  · have h := (hown q).1 hw'
    rcases hblk with h2 | h2
    · exact hw ((hownW q).2 (h2 ▸ h))
    · rw [h] at h2; simp at h2; omega
  · have h := (hown q).1 hq
    rcases hown'.2 with ⟨h2, _⟩ | ⟨g, cap, cur, h2, _, h3, _⟩
    · rw [h2] at h; cases h
    · rw [h2] at h
      injection h with h
      subst h
      have := lt_of_blk h3
      simpa [World.setCell] using this
end Go.Proofs.YtadoflcomienoaaGreat
/- walk: a recursive iterator. -/
namespace Go.Proofs.YtadoflcomienoaaGreat.Tm
open Go.RowKit Go.Shelf
attribute [local go_sem] Oper.semAt_some

/-- yield, in every world of the iterator's -/
def YieldsM (l B N : Nat) (J Jx : List (Nat × Nat) → World → Prop) : Prop :=
  ∀ m pre (x : Nat × Nat) W, J pre W → pre.length < N → YieldAt Fence.wide m Tryz.prog l #[pfx x.1 x.2] W fun e W' =>
      (e = .returned (.bool true) ∧ J (pre ++ [x]) W' ∧ Kp B W W') ∨ (e = .returned (.bool false) ∧ Jx (pre ++ [x]) W')
def WalkRM (B : Nat) (J Jx : List (Nat × Nat) → World → Prop) (pre xs : List (Nat × Nat)) (W : World) (e : Ending) (W' : World) : Prop :=
  (e = .returned (.bool true) ∧ J (pre ++ xs) W' ∧ Kp B W W') ∨ (e = .returned (.bool false) ∧ ∃ q, q <+: xs ∧ Jx (pre ++ q) W')
abbrev RdyM := Rdy (α := (Option Nat)) 172 174 (Value.map) none
set_option maxRecDepth 100000 in
set_option maxHeartbeats 4000000 in
theorem walkM_nil (l : Nat) (p : Value) (B : Nat) (J Jx : List (Nat × Nat) → World → Prop) (B1 : Nat) (hJ : AbidesFrom B1 J) (x1 x2 : Int) (hp : p = .agg #[.int .u32 x1, .int .i64 x2]) (pre : List (Nat × Nat)) (W : World) (hB : B < W.heap.size) (h0 : J pre W) (m : Nat) :
    CallsIn Fence.wide m Tryz.prog 197 #[.pointer none, p, .func (.yield l) #[] #[]] W fun e W' => WalkRM B J Jx pre [] W e W' := by
  subst hp
  refine callsIn_of_wp Tryz.func197 rfl trivial ?_ rfl
  simp only [Tryz.ntmps197, List.size_toArray, List.length_cons, List.length_nil, Nat.reduceAdd, Nat.reduceSub, Array.replicate_succ, Array.replicate_zero, List.push_toArray, List.append_toArray, List.nil_append, List.cons_append]
  gi_wp2
  go_ret
  exact .inl ⟨rfl, by simpa using abides_below hJ h0 ((Below.refl _ _).alloc (Nat.le_refl _) _), Kp.of_below hB ((Below.refl _ _).alloc (Nat.le_refl _) _)⟩
set_option maxRecDepth 100000 in
set_option maxHeartbeats 20000000 in
theorem walkM_in (l B : Nat) (J Jx : List (Nat × Nat) → World → Prop) (B1 : Nat) (hJ : AbidesFrom B1 J) (cap b n : Nat) (N : Nat → Nat → Option Nat) (M : Nat → Nat → Option (Option Nat)) (hY : YieldsM l B cap J Jx) :
    ∀ (f x e : Nat) (p1 p2 : Int) (pre : List (Nat × Nat)) (W : World) (m : Nat), 33 ≤ e + f → RdyM B W b N n M → (Key x e ∨ 32 < e) → ((N x e).isSome → p1 = x ∧ p2 = e) → J pre W → pre.length + (trav M f x e).length ≤ cap →
    CallsIn Fence.wide m Tryz.prog 197 #[ptr (N x e), .agg #[.int .u32 p1, .int .i64 p2], .func (.yield l) #[] #[]] W fun e' W' => WalkRM B J Jx pre (trav M f x e) W e' W' := by
  intro f
  induction f with
  | zero =>
    intro x e p1 p2 pre W m hf hr hkey hp h0 hcap
    rw [hr.trie.none33 _ (by omega)]
    exact walkM_nil l _ B J Jx B1 hJ p1 p2 rfl pre W hr.box h0 m
  | succ f ih =>
    intro x e p1 p2 pre W m hf hr hkey hp h0 hcap
    cases hN : N x e with
    | none =>
      rw [hr.trie.trav_none (f + 1) x e hkey hN]
      exact walkM_nil l _ B J Jx B1 hJ p1 p2 rfl pre W hr.box h0 m
    | some k =>
      obtain ⟨rfl, rfl⟩ := hp (by rw [hN]; rfl)
      have hK := hr.trie.key _ _ _ hN
      have hle := hK.le
      have hkl := hr.trie.lt (.inr ⟨_, _, hN⟩)
      have hb0 := ((Below.refl W.heap.size W).alloc (Nat.le_refl _) (.cells #[.int .u32 x, .int .i64 e] 58))
      have hpb := hnew W (.cells #[.int .u32 x, .int .i64 e] 58)
      have hS0 := Safe.new hr.box hr.fresh hb0 (Nat.le_refl _) hpb
      have hJ0 := abides_below hJ h0 hb0
      have hr0 := hr.kp (Kp.of_below hr.box hb0)
      have hk0 := Kp.of_below hr.box hb0
      have q0 : (W.alloc (.cells #[.int .u32 x, .int .i64 e] 58)).cell? ⟨W.heap.size, 0, none⟩ = some (.int .u32 x) := cell_of hpb rfl
      have q1 : (W.alloc (.cells #[.int .u32 x, .int .i64 e] 58)).cell? ⟨W.heap.size, 1, none⟩ = some (.int .i64 e) := cell_of hpb rfl
      obtain ⟨c0, c1, c2, c3, -⟩ := nodeM hr0.trie hN
      rw [trav] at hcap ⊢
      have HIH := Lib.hid ih
      have HJ := Lib.hid (And.intro hJ hY)
      have hdd : ∀ k : Nat, (Fence.wide.depth.isSome = true → 1 ≤ k) := fun k h => by cases h
      cases hM : M x e with
      | none =>
        rw [hM] at c3 hcap
        simp only [Option.isSome_none, Bool.false_eq_true, if_false, List.nil_append] at c3 hcap ⊢
        have H0 := Lib.hid (And.intro hr (And.intro hr0 (And.intro hk0 (And.intro hS0 (And.intro hJ0 (And.intro hpb (And.intro hN (And.intro hcap hK))))))))
        clear hr hr0 hk0 hS0 hJ0 hpb hN hcap ih hJ hY hp h0 hK hb0 c0 c1 c2 hM
        unfold ptr
        simp only [Option.map_some]
        refine callsIn_of_wp Tryz.func197 rfl trivial ?_ rfl
        simp only [Tryz.ntmps197, List.size_toArray, List.length_cons, List.length_nil, Nat.reduceAdd, Nat.reduceSub, Array.replicate_succ, Array.replicate_zero, List.push_toArray, List.append_toArray, List.nil_append, List.cons_append]
        by_cases h32 : e < 32
        · have h32' : (e : Int) < 32 := by omega
          have hee : IntKind.i64.wrap ((e : Int) + 1) = (e : Int) + 1 := IntWalk.i64_in _ (by omega)
          gi_wp2
          refine ⟨fun _ h => (by cases h), ?_⟩
          gi_wp2
          have hL : (((W.alloc (.cells #[.int .u32 x, .int .i64 e] 58)).alloc (.cells #[.int .u32 x, .int .i64 ((e : Int) + 1)] 58)).alloc (.cells #[.int .u32 x, .int .i64 ((e : Int) + 1)] 58)).heap[W.heap.size + 1]? = some (.cells #[.int .u32 x, .int .i64 ((e : Int) + 1)] 58) := hold (hnewAt (by simp))
          have hH : (((W.alloc (.cells #[.int .u32 x, .int .i64 e] 58)).alloc (.cells #[.int .u32 x, .int .i64 ((e : Int) + 1)] 58)).alloc (.cells #[.int .u32 x, .int .i64 ((e : Int) + 1)] 58)).heap[W.heap.size + 1 + 1]? = some (.cells #[.int .u32 x, .int .i64 ((e : Int) + 1)] 58) := hnewAt (by simp)
          have hbl : Below (W.alloc (.cells #[.int .u32 x, .int .i64 e] 58)).heap.size (W.alloc (.cells #[.int .u32 x, .int .i64 e] 58)) (((W.alloc (.cells #[.int .u32 x, .int .i64 e] 58)).alloc (.cells #[.int .u32 x, .int .i64 ((e : Int) + 1)] 58)).alloc (.cells #[.int .u32 x, .int .i64 ((e : Int) + 1)] 58)) := ((Below.refl _ _).alloc (Nat.le_refl _) _).alloc (by simp) _
          have hLs : (W.alloc (.cells #[.int .u32 x, .int .i64 e] 58)).heap.size = W.heap.size + 1 := by simp
          have q1' := (Below.cell hbl (p := ⟨W.heap.size, 1, none⟩) (by simp)).trans q1
          generalize ((W.alloc (.cells #[.int .u32 x, .int .i64 e] 58)).alloc (.cells #[.int .u32 x, .int .i64 ((e : Int) + 1)] 58)).alloc (.cells #[.int .u32 x, .int .i64 ((e : Int) + 1)] 58) = w2 at hL hH hbl q1' ⊢
          have d0 : w2.cell? ⟨W.heap.size + 1 + 1, 0, none⟩ = some (.int .u32 x) := cell_of hH rfl
          have f0 : w2.frozen? ⟨W.heap.size + 1 + 1, 0, none⟩ = false := free_of hH
          have HL := Lib.hid (And.intro hL (And.intro hH (And.intro hbl hLs)))
          have hw31 : IntKind.i64.wrap ((31 : Int) - e) = 31 - e := IntWalk.i64_in _ (by omega)
          have he31 : ¬ (31 < e) := by omega
          have hn31 : ¬ ((31 : Int) - e < 0) := by omega
          clear hL hH hbl hLs q0 q1
          refine wpIn_wide.2 ?_
          refine wp_region_quiet_tail (fun w' => w' = w2.drew) 8 (by kernel_rfl) (by kernel_rfl) rfl ?_
          simp only [List.take_succ_cons, List.take_zero, List.drop_succ_cons, List.drop_zero]
          iterate 8 ((with_reducible refine wpQuiet_step (fun K hK => ?_)); go_simp; (with_reducible refine hK _ ?_); clear hK K)
          refine wpQuiet_nil ?_
          rintro _ rfl
          clear q1'
          go_wp2_with fail
          gi_wp2
          have hfin : ∃ w3, w3 = (w2.setCell ⟨W.heap.size + 1 + 1, 0, none⟩ (.int .u32 (bits .or .u32 (x : Int) (2 ^ (31 - e) % 4294967296)))).drew := ⟨_, rfl⟩
          obtain ⟨w3, hw3⟩ := hfin
          rw [← hw3]
          obtain ⟨hL, hH, hbl, hLs⟩ := HL.out
          have hs := (SetB.self hH).store (o := 0) (lt_of_blk hH) (.int .u32 (bits .or .u32 (x : Int) (2 ^ (31 - e) % 4294967296)))
          rw [or_kid H0.out.2.2.2.2.2.2.2.2 (by omega)] at hs hw3
          have hL3 : w3.heap[W.heap.size + 1]? = some (.cells #[.int .u32 x, .int .i64 ((e : Int) + 1)] 58) := by rw [hw3]; exact (hs.other (by omega)).trans hL
          have hH3 : w3.heap[W.heap.size + 1 + 1]? = some (.cells #[.int .u32 (kid x e true : Nat), .int .i64 ((e : Int) + 1)] 58) := by rw [hw3]; exact hs.at (lt_of_blk hH)
          have hb3 : Below (W.alloc (.cells #[.int .u32 x, .int .i64 e] 58)).heap.size (W.alloc (.cells #[.int .u32 x, .int .i64 e] 58)) w3 := by rw [hw3]; exact hbl.trans (bdn (hs.below (by simp)) 1)
          clear hw3 hs hL hH hbl d0 f0 HL
          obtain ⟨_, hr0, hk0, _, hJ0, _, _, hcap0, _⟩ := H0.out
          have hk3' := Kp.of_below hr0.box hb3
          have hr3 := hr0.kp hk3'
          have hJ3 := abides_below HJ.out.1 hJ0 hb3
          have hk3 := hk0.trans hk3'
          have hcap3 := hcap0
          have hS3 := Safe.new hr0.box hr0.fresh hb3 (by simp) hH3
          clear hk3' hr0 hk0 hJ0 hcap0 hb3
          generalize hphe : ((kid x e true : Nat) : Int) = ph at hH3
          have hph : (N (kid x e true) (e + 1)).isSome → ph = ((kid x e true : Nat) : Int) ∧ (e : Int) + 1 = ((e + 1 : Nat) : Int) := fun _ => ⟨hphe.symm, rfl⟩
          clear hphe
          have HR3 := Lib.hid (And.intro hr3 (And.intro hJ3 (And.intro hk3 (And.intro hcap3 hph))))
          have hkeyc : ∀ c, Key (kid x e c) (e + 1) ∨ 32 < e + 1 := fun c => by
            by_cases h : e ≤ 31
            · exact .inl (H0.out.2.2.2.2.2.2.2.2.kid h c)
            · exact .inr (by omega)
          have HKC := Lib.hid hkeyc
          have ih0 := Lib.hid (HIH.out (kid x e false) (e + 1) x ((e : Int) + 1) pre w3.drew m (by omega) (hr3.kp (Kp.of_below hr3.box (Below.drew (Below.refl _ _)))) (hkeyc false) (fun _ => ⟨rfl, rfl⟩) (abides_below HJ.out.1 hJ3 (Below.drew (Below.refl _ _))) (by simp only [List.length_append] at hcap3 ⊢; omega))
          obtain ⟨c0, c1, -, -, -⟩ := nodeM hr3.trie H0.out.2.2.2.2.2.2.1
          have l0 : w3.cell? ⟨W.heap.size + 1, 0, none⟩ = some (.int .u32 x) := cell_of hL3 rfl
          have l1 : w3.cell? ⟨W.heap.size + 1, 1, none⟩ = some (.int .i64 ((e : Int) + 1)) := cell_of hL3 rfl
          have HH3 := Lib.hid (And.intro hH3 hS3)
          clear hr3 hJ3 hk3 hcap3 hkeyc hph hL3 hH3 hS3 c1
          unfold ptr at c0 ih0
          refine wpIn_wide.2 ?_
          refine wp_region_pieces (by kernel_rfl) ?_
          refine wpAny_seg (fun w' => w' = w3.drew) [0, 1, 2, 3, 4, 5, 6] (g := 12) rfl (by kernel_rfl) rfl ?_
          simp only [pick, List.getD_cons_zero, List.getD_cons_succ]
          iterate 7 ((with_reducible refine wpQuiet_step (fun K hK => ?_)); go_simp; (with_reducible refine hK _ ?_); clear hK K)
          refine wpQuiet_nil ?_
          rintro _ rfl
          clear c0 l0 l1
          refine wpAny_one 7 (by kernel_rfl) ?_
          simp only [pick, List.getD_cons_zero, List.getD_cons_succ]
          go_wp2_with (go_at_call 197; refine (callsIn_wide.1 ih0.out).mono ?_; rintro e4 w4 (⟨rfl, hJ4, hk4⟩ | ⟨rfl, q, hq, hx4⟩))
          · obtain ⟨hr3, hJ3, hk3, hcap3, hph⟩ := HR3.out
            obtain ⟨hH3, hS3⟩ := HH3.out
            have hkd := Kp.of_below hr3.box (Below.drew (Below.refl w3.heap.size w3))
            have hk34 := hkd.trans hk4
            have hr4 := hr3.kp hk34
            obtain ⟨-, c1, -, -, -⟩ := nodeM hr4.trie H0.out.2.2.2.2.2.2.1
            have hH4 := (hS3.kp hk34).2.trans hH3
            have l0 : w4.cell? ⟨W.heap.size + 1 + 1, 0, none⟩ = some (.int .u32 ph) := cell_of hH4 rfl
            have l1 : w4.cell? ⟨W.heap.size + 1 + 1, 1, none⟩ = some (.int .i64 ((e : Int) + 1)) := cell_of hH4 rfl
            have ih1 := Lib.hid (HIH.out (kid x e true) (e + 1) ph ((e : Int) + 1) (pre ++ trav M f (kid x e false) (e + 1)) w4 m (by omega) hr4 (HKC.out true) hph hJ4 (by simp only [List.length_append] at hcap3 ⊢; omega))
            have HK4 := Lib.hid (hk3.trans hk34)
            clear hr3 hJ3 hk3 hcap3 hph hH3 hS3 hkd hk34 hr4 hH4 hJ4 hk4 ih0 HR3 HH3 HIH
            unfold ptr at c1 ih1
            refine wpAny_one 8 (by kernel_rfl) ?_
            simp only [pick, List.getD_cons_zero, List.getD_cons_succ]
            go_wp2_with fail
            refine wpAny_seg (fun w' => w' = w4) [9, 10, 11, 12, 13, 14, 15] (g := 3) rfl (by kernel_rfl) rfl ?_
            simp only [pick, List.getD_cons_zero, List.getD_cons_succ]
            iterate 7 ((with_reducible refine wpQuiet_step (fun K hK => ?_)); go_simp; (with_reducible refine hK _ ?_); clear hK K)
            refine wpQuiet_nil ?_
            rintro _ rfl
            clear c1 l0 l1
            refine wpAny_one 16 (by kernel_rfl) ?_
            simp only [pick, List.getD_cons_zero, List.getD_cons_succ]
            go_wp2_with (go_at_call 197; refine (callsIn_wide.1 ih1.out).mono ?_; rintro e5 w5 (⟨rfl, hJ5, hk5⟩ | ⟨rfl, q, hq, hx5⟩))
            · refine wpAny_one 17 (by kernel_rfl) ?_
              simp only [pick, List.getD_cons_zero, List.getD_cons_succ]
              go_wp2_with fail
              refine wpAny_one 18 (by kernel_rfl) ?_
              simp only [pick, List.getD_cons_zero, List.getD_cons_succ]
              go_wp2_with fail
              refine wpAny_done (by kernel_rfl) ?_ _
              gi_wp2
              go_ret
              exact .inl ⟨rfl, by simpa [List.append_assoc] using hJ5, HK4.out.trans hk5⟩
            · refine wpAny_one 17 (by kernel_rfl) ?_
              simp only [pick, List.getD_cons_zero, List.getD_cons_succ]
              go_wp2_with fail
              refine wpAny_one 18 (by kernel_rfl) ?_
              simp only [pick, List.getD_cons_zero, List.getD_cons_succ]
              go_wp2_with fail
              refine wpAny_done (by kernel_rfl) ?_ _
              gi_wp2
              go_ret
              obtain ⟨t, ht⟩ := hq
              exact .inr ⟨rfl, (trav M f (kid x e false) (e + 1) ++ q), ⟨t, by simp [← ht]⟩, by simpa [List.append_assoc] using hx5⟩
          · clear ih0 HR3 HH3 HIH
            refine wpAny_one 8 (by kernel_rfl) ?_
            simp only [pick, List.getD_cons_zero, List.getD_cons_succ]
            go_wp2_with fail
            refine wpAny_seg (fun w' => w' = w4) [9, 10, 11, 12, 13, 14, 15] (g := 3) rfl (by kernel_rfl) rfl ?_
            simp only [pick, List.getD_cons_zero, List.getD_cons_succ]
            iterate 7 ((with_reducible refine wpQuiet_step (fun K hK => ?_)); go_simp; (with_reducible refine hK _ ?_); clear hK K)
            refine wpQuiet_nil ?_
            rintro _ rfl
            refine wpAny_one 16 (by kernel_rfl) ?_
            simp only [pick, List.getD_cons_zero, List.getD_cons_succ]
            go_wp2_with fail
            refine wpAny_one 17 (by kernel_rfl) ?_
            simp only [pick, List.getD_cons_zero, List.getD_cons_succ]
            go_wp2_with fail
            refine wpAny_one 18 (by kernel_rfl) ?_
            simp only [pick, List.getD_cons_zero, List.getD_cons_succ]
            go_wp2_with fail
            refine wpAny_done (by kernel_rfl) ?_ _
            gi_wp2
            go_ret
            obtain ⟨t, ht⟩ := hq
            exact .inr ⟨rfl, q, ⟨t ++ trav M f (kid x e true) (e + 1), by simp [← ht, List.append_assoc]⟩, by simpa [List.append_assoc] using hx4⟩

        · have h32' : ¬ ((e : Int) < 32) := by omega
          have hee : IntKind.i64.wrap ((e : Int) + 1) = (e : Int) + 1 := IntWalk.i64_in _ (by omega)
          gi_wp2
          refine ⟨fun _ h => (by cases h), ?_⟩
          gi_wp2
          have hL : (((W.alloc (.cells #[.int .u32 x, .int .i64 e] 58)).alloc (.cells #[.int .u32 x, .int .i64 ((e : Int) + 1)] 58)).alloc (.cells #[.int .u32 x, .int .i64 ((e : Int) + 1)] 58)).heap[W.heap.size + 1]? = some (.cells #[.int .u32 x, .int .i64 ((e : Int) + 1)] 58) := hold (hnewAt (by simp))
          have hH : (((W.alloc (.cells #[.int .u32 x, .int .i64 e] 58)).alloc (.cells #[.int .u32 x, .int .i64 ((e : Int) + 1)] 58)).alloc (.cells #[.int .u32 x, .int .i64 ((e : Int) + 1)] 58)).heap[W.heap.size + 1 + 1]? = some (.cells #[.int .u32 x, .int .i64 ((e : Int) + 1)] 58) := hnewAt (by simp)
          have hbl : Below (W.alloc (.cells #[.int .u32 x, .int .i64 e] 58)).heap.size (W.alloc (.cells #[.int .u32 x, .int .i64 e] 58)) (((W.alloc (.cells #[.int .u32 x, .int .i64 e] 58)).alloc (.cells #[.int .u32 x, .int .i64 ((e : Int) + 1)] 58)).alloc (.cells #[.int .u32 x, .int .i64 ((e : Int) + 1)] 58)) := ((Below.refl _ _).alloc (Nat.le_refl _) _).alloc (by simp) _
          have hLs : (W.alloc (.cells #[.int .u32 x, .int .i64 e] 58)).heap.size = W.heap.size + 1 := by simp
          generalize ((W.alloc (.cells #[.int .u32 x, .int .i64 e] 58)).alloc (.cells #[.int .u32 x, .int .i64 ((e : Int) + 1)] 58)).alloc (.cells #[.int .u32 x, .int .i64 ((e : Int) + 1)] 58) = w3 at hL hH hbl ⊢
          have hL3 := hL
          have hH3 := hH
          have hb3 := hbl
          clear hL hH hbl
          obtain ⟨_, hr0, hk0, _, hJ0, _, _, hcap0, _⟩ := H0.out
          have hk3' := Kp.of_below hr0.box hb3
          have hr3 := hr0.kp hk3'
          have hJ3 := abides_below HJ.out.1 hJ0 hb3
          have hk3 := hk0.trans hk3'
          have hcap3 := hcap0
          have hS3 := Safe.new hr0.box hr0.fresh hb3 (by simp) hH3
          clear hk3' hr0 hk0 hJ0 hcap0 hb3
          have hno : N (kid x e true) (e + 1) = none := hr3.trie.none33 _ (by omega)
          have hph : (N (kid x e true) (e + 1)).isSome → (x : Int) = ((kid x e true : Nat) : Int) ∧ (e : Int) + 1 = ((e + 1 : Nat) : Int) := fun hs => by rw [hno] at hs; cases hs
          clear hno
          generalize hphe : (x : Int) = ph at hH3 hph
          clear hphe
          have HR3 := Lib.hid (And.intro hr3 (And.intro hJ3 (And.intro hk3 (And.intro hcap3 hph))))
          have hkeyc : ∀ c, Key (kid x e c) (e + 1) ∨ 32 < e + 1 := fun c => by
            by_cases h : e ≤ 31
            · exact .inl (H0.out.2.2.2.2.2.2.2.2.kid h c)
            · exact .inr (by omega)
          have HKC := Lib.hid hkeyc
          have ih0 := Lib.hid (HIH.out (kid x e false) (e + 1) x ((e : Int) + 1) pre w3.drew m (by omega) (hr3.kp (Kp.of_below hr3.box (Below.drew (Below.refl _ _)))) (hkeyc false) (fun _ => ⟨rfl, rfl⟩) (abides_below HJ.out.1 hJ3 (Below.drew (Below.refl _ _))) (by simp only [List.length_append] at hcap3 ⊢; omega))
          obtain ⟨c0, c1, -, -, -⟩ := nodeM hr3.trie H0.out.2.2.2.2.2.2.1
          have l0 : w3.cell? ⟨W.heap.size + 1, 0, none⟩ = some (.int .u32 x) := cell_of hL3 rfl
          have l1 : w3.cell? ⟨W.heap.size + 1, 1, none⟩ = some (.int .i64 ((e : Int) + 1)) := cell_of hL3 rfl
          have HH3 := Lib.hid (And.intro hH3 hS3)
          clear hr3 hJ3 hk3 hcap3 hkeyc hph hL3 hH3 hS3 c1
          unfold ptr at c0 ih0
          refine wpIn_wide.2 ?_
          refine wp_region_pieces (by kernel_rfl) ?_
          refine wpAny_seg (fun w' => w' = w3.drew) [0, 1, 2, 3, 4, 5, 6] (g := 12) rfl (by kernel_rfl) rfl ?_
          simp only [pick, List.getD_cons_zero, List.getD_cons_succ]
          iterate 7 ((with_reducible refine wpQuiet_step (fun K hK => ?_)); go_simp; (with_reducible refine hK _ ?_); clear hK K)
          refine wpQuiet_nil ?_
          rintro _ rfl
          clear c0 l0 l1
          refine wpAny_one 7 (by kernel_rfl) ?_
          simp only [pick, List.getD_cons_zero, List.getD_cons_succ]
          go_wp2_with (go_at_call 197; refine (callsIn_wide.1 ih0.out).mono ?_; rintro e4 w4 (⟨rfl, hJ4, hk4⟩ | ⟨rfl, q, hq, hx4⟩))
          · obtain ⟨hr3, hJ3, hk3, hcap3, hph⟩ := HR3.out
            obtain ⟨hH3, hS3⟩ := HH3.out
            have hkd := Kp.of_below hr3.box (Below.drew (Below.refl w3.heap.size w3))
            have hk34 := hkd.trans hk4
            have hr4 := hr3.kp hk34
            obtain ⟨-, c1, -, -, -⟩ := nodeM hr4.trie H0.out.2.2.2.2.2.2.1
            have hH4 := (hS3.kp hk34).2.trans hH3
            have l0 : w4.cell? ⟨W.heap.size + 1 + 1, 0, none⟩ = some (.int .u32 ph) := cell_of hH4 rfl
            have l1 : w4.cell? ⟨W.heap.size + 1 + 1, 1, none⟩ = some (.int .i64 ((e : Int) + 1)) := cell_of hH4 rfl
            have ih1 := Lib.hid (HIH.out (kid x e true) (e + 1) ph ((e : Int) + 1) (pre ++ trav M f (kid x e false) (e + 1)) w4 m (by omega) hr4 (HKC.out true) hph hJ4 (by simp only [List.length_append] at hcap3 ⊢; omega))
            have HK4 := Lib.hid (hk3.trans hk34)
            clear hr3 hJ3 hk3 hcap3 hph hH3 hS3 hkd hk34 hr4 hH4 hJ4 hk4 ih0 HR3 HH3 HIH
            unfold ptr at c1 ih1
            refine wpAny_one 8 (by kernel_rfl) ?_
            simp only [pick, List.getD_cons_zero, List.getD_cons_succ]
            go_wp2_with fail
            refine wpAny_seg (fun w' => w' = w4) [9, 10, 11, 12, 13, 14, 15] (g := 3) rfl (by kernel_rfl) rfl ?_
            simp only [pick, List.getD_cons_zero, List.getD_cons_succ]
            iterate 7 ((with_reducible refine wpQuiet_step (fun K hK => ?_)); go_simp; (with_reducible refine hK _ ?_); clear hK K)
            refine wpQuiet_nil ?_
            rintro _ rfl
            clear c1 l0 l1
            refine wpAny_one 16 (by kernel_rfl) ?_
            simp only [pick, List.getD_cons_zero, List.getD_cons_succ]
            go_wp2_with (go_at_call 197; refine (callsIn_wide.1 ih1.out).mono ?_; rintro e5 w5 (⟨rfl, hJ5, hk5⟩ | ⟨rfl, q, hq, hx5⟩))
            · refine wpAny_one 17 (by kernel_rfl) ?_
              simp only [pick, List.getD_cons_zero, List.getD_cons_succ]
              go_wp2_with fail
              refine wpAny_one 18 (by kernel_rfl) ?_
              simp only [pick, List.getD_cons_zero, List.getD_cons_succ]
              go_wp2_with fail
              refine wpAny_done (by kernel_rfl) ?_ _
              gi_wp2
              go_ret
              exact .inl ⟨rfl, by simpa [List.append_assoc] using hJ5, HK4.out.trans hk5⟩
            · refine wpAny_one 17 (by kernel_rfl) ?_
              simp only [pick, List.getD_cons_zero, List.getD_cons_succ]
              go_wp2_with fail
              refine wpAny_one 18 (by kernel_rfl) ?_
              simp only [pick, List.getD_cons_zero, List.getD_cons_succ]
              go_wp2_with fail
              refine wpAny_done (by kernel_rfl) ?_ _
              gi_wp2
              go_ret
              obtain ⟨t, ht⟩ := hq
              exact .inr ⟨rfl, (trav M f (kid x e false) (e + 1) ++ q), ⟨t, by simp [← ht]⟩, by simpa [List.append_assoc] using hx5⟩
          · clear ih0 HR3 HH3 HIH
            refine wpAny_one 8 (by kernel_rfl) ?_
            simp only [pick, List.getD_cons_zero, List.getD_cons_succ]
            go_wp2_with fail
            refine wpAny_seg (fun w' => w' = w4) [9, 10, 11, 12, 13, 14, 15] (g := 3) rfl (by kernel_rfl) rfl ?_
            simp only [pick, List.getD_cons_zero, List.getD_cons_succ]
            iterate 7 ((with_reducible refine wpQuiet_step (fun K hK => ?_)); go_simp; (with_reducible refine hK _ ?_); clear hK K)
            refine wpQuiet_nil ?_
            rintro _ rfl
            refine wpAny_one 16 (by kernel_rfl) ?_
            simp only [pick, List.getD_cons_zero, List.getD_cons_succ]
            go_wp2_with fail
            refine wpAny_one 17 (by kernel_rfl) ?_
            simp only [pick, List.getD_cons_zero, List.getD_cons_succ]
            go_wp2_with fail
            refine wpAny_one 18 (by kernel_rfl) ?_
            simp only [pick, List.getD_cons_zero, List.getD_cons_succ]
            go_wp2_with fail
            refine wpAny_done (by kernel_rfl) ?_ _
            gi_wp2
            go_ret
            obtain ⟨t, ht⟩ := hq
            exact .inr ⟨rfl, q, ⟨t ++ trav M f (kid x e true) (e + 1), by simp [← ht, List.append_assoc]⟩, by simpa [List.append_assoc] using hx4⟩

      | some y =>
        rw [hM] at c3 hcap
        simp only [Option.isSome_some, if_true, List.cons_append, List.nil_append] at c3 hcap ⊢
        have hcap1 : (pre ++ [(x, e)]).length + (trav M f (kid x e false) (e + 1) ++ trav M f (kid x e true) (e + 1)).length ≤ cap := by
          simp only [List.length_cons, List.length_append, List.length_nil] at hcap ⊢; omega
        obtain ⟨fn, tmps, assign, body, hy, hR⟩ := hY (m - 1) pre (x, e) _ hJ0 (by simp only [List.length_cons] at hcap; omega)
        dsimp only [pfx] at hy
        have hR2 := hR.mono (R' := fun e' W1 => (e' = .returned (.bool true) ∧ W.heap.size < W1.heap.size ∧ W1.cell? ⟨W.heap.size, 0, none⟩ = some (.int .u32 x) ∧ W1.cell? ⟨W.heap.size, 1, none⟩ = some (.int .i64 e) ∧ W1.heap[W.heap.size]? = some (.cells #[.int .u32 x, .int .i64 e] 58) ∧ RdyM B W1 b N n M ∧ Kp B W W1 ∧ Safe B W1 W.heap.size ∧ J (pre ++ [(x, e)]) W1) ∨ (e' = .returned (.bool false) ∧ Jx (pre ++ [(x, e)]) W1))
          (fun e' W1 h => h.elim (fun ⟨he, hj, hk1⟩ => .inl ⟨he, lt_of_blk ((hS0.kp hk1).2.trans hpb), cell_of ((hS0.kp hk1).2.trans hpb) rfl, cell_of ((hS0.kp hk1).2.trans hpb) rfl, (hS0.kp hk1).2.trans hpb, hr0.kp hk1, hk0.trans hk1, (hS0.kp hk1).1, hj⟩) .inr)
        have H1 := Lib.hid (And.intro hr (And.intro hN (And.intro hcap1 hK)))
        clear hr hr0 hk0 hS0 hJ0 hpb hN hcap hcap1 ih hJ hY hp h0 hK hb0 c0 c1 c2 hM hR
        unfold ptr
        simp only [Option.map_some]
        by_cases h32 : e < 32
        · have h32' : (e : Int) < 32 := by omega
          have hee : IntKind.i64.wrap ((e : Int) + 1) = (e : Int) + 1 := IntWalk.i64_in _ (by omega)
          refine callsIn_of_wp Tryz.func197 rfl trivial ?_ rfl
          simp only [Tryz.ntmps197, List.size_toArray, List.length_cons, List.length_nil, Nat.reduceAdd, Nat.reduceSub, Array.replicate_succ, Array.replicate_zero, List.push_toArray, List.append_toArray, List.nil_append, List.cons_append]
          gi_wp2_with ((try refine ⟨hdd _, ?_⟩); refine hR2.mono ?_; clear hR2; rintro e1 w1 (⟨rfl, hlt1, r0, r1, hpb, hr0, hk0, hS0, hJ0⟩ | ⟨rfl, hx1⟩))
          · have H0 := Lib.hid (And.intro H1.out.1 (And.intro hr0 (And.intro hk0 (And.intro hS0 (And.intro hJ0 (And.intro hpb (And.intro H1.out.2.1 (And.intro H1.out.2.2.1 H1.out.2.2.2))))))))
            clear hpb hr0 hk0 hS0 hJ0 hy q0 q1 c3
            have hL : ((w1.alloc (.cells #[.int .u32 x, .int .i64 ((e : Int) + 1)] 58)).alloc (.cells #[.int .u32 x, .int .i64 ((e : Int) + 1)] 58)).heap[w1.heap.size]? = some (.cells #[.int .u32 x, .int .i64 ((e : Int) + 1)] 58) := hold (hnewAt (by simp))
            have hH : ((w1.alloc (.cells #[.int .u32 x, .int .i64 ((e : Int) + 1)] 58)).alloc (.cells #[.int .u32 x, .int .i64 ((e : Int) + 1)] 58)).heap[w1.heap.size + 1]? = some (.cells #[.int .u32 x, .int .i64 ((e : Int) + 1)] 58) := hnewAt (by simp)
            have hbl : Below w1.heap.size w1 ((w1.alloc (.cells #[.int .u32 x, .int .i64 ((e : Int) + 1)] 58)).alloc (.cells #[.int .u32 x, .int .i64 ((e : Int) + 1)] 58)) := ((Below.refl _ _).alloc (Nat.le_refl _) _).alloc (by simp) _
            have hLs : w1.heap.size = w1.heap.size := by simp
            have q1' := (Below.cell hbl (p := ⟨W.heap.size, 1, none⟩) hlt1).trans r1
            generalize (w1.alloc (.cells #[.int .u32 x, .int .i64 ((e : Int) + 1)] 58)).alloc (.cells #[.int .u32 x, .int .i64 ((e : Int) + 1)] 58) = w2 at hL hH hbl q1' ⊢
            have d0 : w2.cell? ⟨w1.heap.size + 1, 0, none⟩ = some (.int .u32 x) := cell_of hH rfl
            have f0 : w2.frozen? ⟨w1.heap.size + 1, 0, none⟩ = false := free_of hH
            have HL := Lib.hid (And.intro hL (And.intro hH (And.intro hbl hLs)))
            have hw31 : IntKind.i64.wrap ((31 : Int) - e) = 31 - e := IntWalk.i64_in _ (by omega)
            have he31 : ¬ (31 < e) := by omega
            have hn31 : ¬ ((31 : Int) - e < 0) := by omega
            clear hL hH hbl hLs r0 r1
            refine wpIn_wide.2 ?_
            refine wp_region_quiet_tail (fun w' => w' = w2.drew) 8 (by kernel_rfl) (by kernel_rfl) rfl ?_
            simp only [List.take_succ_cons, List.take_zero, List.drop_succ_cons, List.drop_zero]
            iterate 8 ((with_reducible refine wpQuiet_step (fun K hK => ?_)); go_simp; (with_reducible refine hK _ ?_); clear hK K)
            refine wpQuiet_nil ?_
            rintro _ rfl
            clear q1'
            go_wp2_with fail
            gi_wp2
            have hfin : ∃ w3, w3 = (w2.setCell ⟨w1.heap.size + 1, 0, none⟩ (.int .u32 (bits .or .u32 (x : Int) (2 ^ (31 - e) % 4294967296)))).drew := ⟨_, rfl⟩
            obtain ⟨w3, hw3⟩ := hfin
            rw [← hw3]
            obtain ⟨hL, hH, hbl, hLs⟩ := HL.out
            have hs := (SetB.self hH).store (o := 0) (lt_of_blk hH) (.int .u32 (bits .or .u32 (x : Int) (2 ^ (31 - e) % 4294967296)))
            rw [or_kid H0.out.2.2.2.2.2.2.2.2 (by omega)] at hs hw3
            have hL3 : w3.heap[w1.heap.size]? = some (.cells #[.int .u32 x, .int .i64 ((e : Int) + 1)] 58) := by rw [hw3]; exact (hs.other (by omega)).trans hL
            have hH3 : w3.heap[w1.heap.size + 1]? = some (.cells #[.int .u32 (kid x e true : Nat), .int .i64 ((e : Int) + 1)] 58) := by rw [hw3]; exact hs.at (lt_of_blk hH)
            have hb3 : Below w1.heap.size w1 w3 := by rw [hw3]; exact hbl.trans (bdn (hs.below (by simp)) 1)
            clear hw3 hs hL hH hbl d0 f0 HL
            obtain ⟨_, hr0, hk0, _, hJ0, _, _, hcap0, _⟩ := H0.out
            have hk3' := Kp.of_below hr0.box hb3
            have hr3 := hr0.kp hk3'
            have hJ3 := abides_below HJ.out.1 hJ0 hb3
            have hk3 := hk0.trans hk3'
            have hcap3 := hcap0
            have hS3 := Safe.new hr0.box hr0.fresh hb3 (by simp) hH3
            clear hk3' hr0 hk0 hJ0 hcap0 hb3
            generalize hphe : ((kid x e true : Nat) : Int) = ph at hH3
            have hph : (N (kid x e true) (e + 1)).isSome → ph = ((kid x e true : Nat) : Int) ∧ (e : Int) + 1 = ((e + 1 : Nat) : Int) := fun _ => ⟨hphe.symm, rfl⟩
            clear hphe
            have HR3 := Lib.hid (And.intro hr3 (And.intro hJ3 (And.intro hk3 (And.intro hcap3 hph))))
            have hkeyc : ∀ c, Key (kid x e c) (e + 1) ∨ 32 < e + 1 := fun c => by
              by_cases h : e ≤ 31
              · exact .inl (H0.out.2.2.2.2.2.2.2.2.kid h c)
              · exact .inr (by omega)
            have HKC := Lib.hid hkeyc
            have ih0 := Lib.hid (HIH.out (kid x e false) (e + 1) x ((e : Int) + 1) (pre ++ [(x, e)]) w3.drew m (by omega) (hr3.kp (Kp.of_below hr3.box (Below.drew (Below.refl _ _)))) (hkeyc false) (fun _ => ⟨rfl, rfl⟩) (abides_below HJ.out.1 hJ3 (Below.drew (Below.refl _ _))) (by simp only [List.length_append] at hcap3 ⊢; omega))
            obtain ⟨c0, c1, -, -, -⟩ := nodeM hr3.trie H0.out.2.2.2.2.2.2.1
            have l0 : w3.cell? ⟨w1.heap.size, 0, none⟩ = some (.int .u32 x) := cell_of hL3 rfl
            have l1 : w3.cell? ⟨w1.heap.size, 1, none⟩ = some (.int .i64 ((e : Int) + 1)) := cell_of hL3 rfl
            have HH3 := Lib.hid (And.intro hH3 hS3)
            clear hr3 hJ3 hk3 hcap3 hkeyc hph hL3 hH3 hS3 c1
            unfold ptr at c0 ih0
            refine wpIn_wide.2 ?_
            refine wp_region_pieces (by kernel_rfl) ?_
            refine wpAny_seg (fun w' => w' = w3.drew) [0, 1, 2, 3, 4, 5, 6] (g := 12) rfl (by kernel_rfl) rfl ?_
            simp only [pick, List.getD_cons_zero, List.getD_cons_succ]
            iterate 7 ((with_reducible refine wpQuiet_step (fun K hK => ?_)); go_simp; (with_reducible refine hK _ ?_); clear hK K)
            refine wpQuiet_nil ?_
            rintro _ rfl
            clear c0 l0 l1
            refine wpAny_one 7 (by kernel_rfl) ?_
            simp only [pick, List.getD_cons_zero, List.getD_cons_succ]
            go_wp2_with (go_at_call 197; refine (callsIn_wide.1 ih0.out).mono ?_; rintro e4 w4 (⟨rfl, hJ4, hk4⟩ | ⟨rfl, q, hq, hx4⟩))
            · obtain ⟨hr3, hJ3, hk3, hcap3, hph⟩ := HR3.out
              obtain ⟨hH3, hS3⟩ := HH3.out
              have hkd := Kp.of_below hr3.box (Below.drew (Below.refl w3.heap.size w3))
              have hk34 := hkd.trans hk4
              have hr4 := hr3.kp hk34
              obtain ⟨-, c1, -, -, -⟩ := nodeM hr4.trie H0.out.2.2.2.2.2.2.1
              have hH4 := (hS3.kp hk34).2.trans hH3
              have l0 : w4.cell? ⟨w1.heap.size + 1, 0, none⟩ = some (.int .u32 ph) := cell_of hH4 rfl
              have l1 : w4.cell? ⟨w1.heap.size + 1, 1, none⟩ = some (.int .i64 ((e : Int) + 1)) := cell_of hH4 rfl
              have ih1 := Lib.hid (HIH.out (kid x e true) (e + 1) ph ((e : Int) + 1) ((pre ++ [(x, e)]) ++ trav M f (kid x e false) (e + 1)) w4 m (by omega) hr4 (HKC.out true) hph hJ4 (by simp only [List.length_append] at hcap3 ⊢; omega))
              have HK4 := Lib.hid (hk3.trans hk34)
              clear hr3 hJ3 hk3 hcap3 hph hH3 hS3 hkd hk34 hr4 hH4 hJ4 hk4 ih0 HR3 HH3 HIH
              unfold ptr at c1 ih1
              refine wpAny_one 8 (by kernel_rfl) ?_
              simp only [pick, List.getD_cons_zero, List.getD_cons_succ]
              go_wp2_with fail
              refine wpAny_seg (fun w' => w' = w4) [9, 10, 11, 12, 13, 14, 15] (g := 3) rfl (by kernel_rfl) rfl ?_
              simp only [pick, List.getD_cons_zero, List.getD_cons_succ]
              iterate 7 ((with_reducible refine wpQuiet_step (fun K hK => ?_)); go_simp; (with_reducible refine hK _ ?_); clear hK K)
              refine wpQuiet_nil ?_
              rintro _ rfl
              clear c1 l0 l1
              refine wpAny_one 16 (by kernel_rfl) ?_
              simp only [pick, List.getD_cons_zero, List.getD_cons_succ]
              go_wp2_with (go_at_call 197; refine (callsIn_wide.1 ih1.out).mono ?_; rintro e5 w5 (⟨rfl, hJ5, hk5⟩ | ⟨rfl, q, hq, hx5⟩))
              · refine wpAny_one 17 (by kernel_rfl) ?_
                simp only [pick, List.getD_cons_zero, List.getD_cons_succ]
                go_wp2_with fail
                refine wpAny_one 18 (by kernel_rfl) ?_
                simp only [pick, List.getD_cons_zero, List.getD_cons_succ]
                go_wp2_with fail
                refine wpAny_done (by kernel_rfl) ?_ _
                gi_wp2
                go_ret
                exact .inl ⟨rfl, by simpa [List.append_assoc] using hJ5, HK4.out.trans hk5⟩
              · refine wpAny_one 17 (by kernel_rfl) ?_
                simp only [pick, List.getD_cons_zero, List.getD_cons_succ]
                go_wp2_with fail
                refine wpAny_one 18 (by kernel_rfl) ?_
                simp only [pick, List.getD_cons_zero, List.getD_cons_succ]
                go_wp2_with fail
                refine wpAny_done (by kernel_rfl) ?_ _
                gi_wp2
                go_ret
                obtain ⟨t, ht⟩ := hq
                exact .inr ⟨rfl, (x, e) :: (trav M f (kid x e false) (e + 1) ++ q), ⟨t, by simp [← ht]⟩, by simpa [List.append_assoc] using hx5⟩
            · clear ih0 HR3 HH3 HIH
              refine wpAny_one 8 (by kernel_rfl) ?_
              simp only [pick, List.getD_cons_zero, List.getD_cons_succ]
              go_wp2_with fail
              refine wpAny_seg (fun w' => w' = w4) [9, 10, 11, 12, 13, 14, 15] (g := 3) rfl (by kernel_rfl) rfl ?_
              simp only [pick, List.getD_cons_zero, List.getD_cons_succ]
              iterate 7 ((with_reducible refine wpQuiet_step (fun K hK => ?_)); go_simp; (with_reducible refine hK _ ?_); clear hK K)
              refine wpQuiet_nil ?_
              rintro _ rfl
              refine wpAny_one 16 (by kernel_rfl) ?_
              simp only [pick, List.getD_cons_zero, List.getD_cons_succ]
              go_wp2_with fail
              refine wpAny_one 17 (by kernel_rfl) ?_
              simp only [pick, List.getD_cons_zero, List.getD_cons_succ]
              go_wp2_with fail
              refine wpAny_one 18 (by kernel_rfl) ?_
              simp only [pick, List.getD_cons_zero, List.getD_cons_succ]
              go_wp2_with fail
              refine wpAny_done (by kernel_rfl) ?_ _
              gi_wp2
              go_ret
              obtain ⟨t, ht⟩ := hq
              exact .inr ⟨rfl, (x, e) :: q, ⟨t ++ trav M f (kid x e true) (e + 1), by simp [← ht, List.append_assoc]⟩, by simpa [List.append_assoc] using hx4⟩


          · go_ret
            exact .inr ⟨rfl, [(x, e)], ⟨_, rfl⟩, hx1⟩
        · have h32' : ¬ ((e : Int) < 32) := by omega
          have hee : IntKind.i64.wrap ((e : Int) + 1) = (e : Int) + 1 := IntWalk.i64_in _ (by omega)
          refine callsIn_of_wp Tryz.func197 rfl trivial ?_ rfl
          simp only [Tryz.ntmps197, List.size_toArray, List.length_cons, List.length_nil, Nat.reduceAdd, Nat.reduceSub, Array.replicate_succ, Array.replicate_zero, List.push_toArray, List.append_toArray, List.nil_append, List.cons_append]
          gi_wp2_with ((try refine ⟨hdd _, ?_⟩); refine hR2.mono ?_; clear hR2; rintro e1 w1 (⟨rfl, hlt1, r0, r1, hpb, hr0, hk0, hS0, hJ0⟩ | ⟨rfl, hx1⟩))
          · have H0 := Lib.hid (And.intro H1.out.1 (And.intro hr0 (And.intro hk0 (And.intro hS0 (And.intro hJ0 (And.intro hpb (And.intro H1.out.2.1 (And.intro H1.out.2.2.1 H1.out.2.2.2))))))))
            clear hpb hr0 hk0 hS0 hJ0 hy q0 q1 c3
            have hL : ((w1.alloc (.cells #[.int .u32 x, .int .i64 ((e : Int) + 1)] 58)).alloc (.cells #[.int .u32 x, .int .i64 ((e : Int) + 1)] 58)).heap[w1.heap.size]? = some (.cells #[.int .u32 x, .int .i64 ((e : Int) + 1)] 58) := hold (hnewAt (by simp))
            have hH : ((w1.alloc (.cells #[.int .u32 x, .int .i64 ((e : Int) + 1)] 58)).alloc (.cells #[.int .u32 x, .int .i64 ((e : Int) + 1)] 58)).heap[w1.heap.size + 1]? = some (.cells #[.int .u32 x, .int .i64 ((e : Int) + 1)] 58) := hnewAt (by simp)
            have hbl : Below w1.heap.size w1 ((w1.alloc (.cells #[.int .u32 x, .int .i64 ((e : Int) + 1)] 58)).alloc (.cells #[.int .u32 x, .int .i64 ((e : Int) + 1)] 58)) := ((Below.refl _ _).alloc (Nat.le_refl _) _).alloc (by simp) _
            have hLs : w1.heap.size = w1.heap.size := by simp
            generalize (w1.alloc (.cells #[.int .u32 x, .int .i64 ((e : Int) + 1)] 58)).alloc (.cells #[.int .u32 x, .int .i64 ((e : Int) + 1)] 58) = w3 at hL hH hbl ⊢
            have hL3 := hL
            have hH3 := hH
            have hb3 := hbl
            clear hL hH hbl
            obtain ⟨_, hr0, hk0, _, hJ0, _, _, hcap0, _⟩ := H0.out
            have hk3' := Kp.of_below hr0.box hb3
            have hr3 := hr0.kp hk3'
            have hJ3 := abides_below HJ.out.1 hJ0 hb3
            have hk3 := hk0.trans hk3'
            have hcap3 := hcap0
            have hS3 := Safe.new hr0.box hr0.fresh hb3 (by simp) hH3
            clear hk3' hr0 hk0 hJ0 hcap0 hb3
            have hno : N (kid x e true) (e + 1) = none := hr3.trie.none33 _ (by omega)
            have hph : (N (kid x e true) (e + 1)).isSome → (x : Int) = ((kid x e true : Nat) : Int) ∧ (e : Int) + 1 = ((e + 1 : Nat) : Int) := fun hs => by rw [hno] at hs; cases hs
            clear hno
            generalize hphe : (x : Int) = ph at hH3 hph
            clear hphe
            have HR3 := Lib.hid (And.intro hr3 (And.intro hJ3 (And.intro hk3 (And.intro hcap3 hph))))
            have hkeyc : ∀ c, Key (kid x e c) (e + 1) ∨ 32 < e + 1 := fun c => by
              by_cases h : e ≤ 31
              · exact .inl (H0.out.2.2.2.2.2.2.2.2.kid h c)
              · exact .inr (by omega)
            have HKC := Lib.hid hkeyc
            have ih0 := Lib.hid (HIH.out (kid x e false) (e + 1) x ((e : Int) + 1) (pre ++ [(x, e)]) w3.drew m (by omega) (hr3.kp (Kp.of_below hr3.box (Below.drew (Below.refl _ _)))) (hkeyc false) (fun _ => ⟨rfl, rfl⟩) (abides_below HJ.out.1 hJ3 (Below.drew (Below.refl _ _))) (by simp only [List.length_append] at hcap3 ⊢; omega))
            obtain ⟨c0, c1, -, -, -⟩ := nodeM hr3.trie H0.out.2.2.2.2.2.2.1
            have l0 : w3.cell? ⟨w1.heap.size, 0, none⟩ = some (.int .u32 x) := cell_of hL3 rfl
            have l1 : w3.cell? ⟨w1.heap.size, 1, none⟩ = some (.int .i64 ((e : Int) + 1)) := cell_of hL3 rfl
            have HH3 := Lib.hid (And.intro hH3 hS3)
            clear hr3 hJ3 hk3 hcap3 hkeyc hph hL3 hH3 hS3 c1
            unfold ptr at c0 ih0
            refine wpIn_wide.2 ?_
            refine wp_region_pieces (by kernel_rfl) ?_
            refine wpAny_seg (fun w' => w' = w3.drew) [0, 1, 2, 3, 4, 5, 6] (g := 12) rfl (by kernel_rfl) rfl ?_
            simp only [pick, List.getD_cons_zero, List.getD_cons_succ]
            iterate 7 ((with_reducible refine wpQuiet_step (fun K hK => ?_)); go_simp; (with_reducible refine hK _ ?_); clear hK K)
            refine wpQuiet_nil ?_
            rintro _ rfl
            clear c0 l0 l1
            refine wpAny_one 7 (by kernel_rfl) ?_
            simp only [pick, List.getD_cons_zero, List.getD_cons_succ]
            go_wp2_with (go_at_call 197; refine (callsIn_wide.1 ih0.out).mono ?_; rintro e4 w4 (⟨rfl, hJ4, hk4⟩ | ⟨rfl, q, hq, hx4⟩))
            · obtain ⟨hr3, hJ3, hk3, hcap3, hph⟩ := HR3.out
              obtain ⟨hH3, hS3⟩ := HH3.out
              have hkd := Kp.of_below hr3.box (Below.drew (Below.refl w3.heap.size w3))
              have hk34 := hkd.trans hk4
              have hr4 := hr3.kp hk34
              obtain ⟨-, c1, -, -, -⟩ := nodeM hr4.trie H0.out.2.2.2.2.2.2.1
              have hH4 := (hS3.kp hk34).2.trans hH3
              have l0 : w4.cell? ⟨w1.heap.size + 1, 0, none⟩ = some (.int .u32 ph) := cell_of hH4 rfl
              have l1 : w4.cell? ⟨w1.heap.size + 1, 1, none⟩ = some (.int .i64 ((e : Int) + 1)) := cell_of hH4 rfl
              have ih1 := Lib.hid (HIH.out (kid x e true) (e + 1) ph ((e : Int) + 1) ((pre ++ [(x, e)]) ++ trav M f (kid x e false) (e + 1)) w4 m (by omega) hr4 (HKC.out true) hph hJ4 (by simp only [List.length_append] at hcap3 ⊢; omega))
              have HK4 := Lib.hid (hk3.trans hk34)
              clear hr3 hJ3 hk3 hcap3 hph hH3 hS3 hkd hk34 hr4 hH4 hJ4 hk4 ih0 HR3 HH3 HIH
              unfold ptr at c1 ih1
              refine wpAny_one 8 (by kernel_rfl) ?_
              simp only [pick, List.getD_cons_zero, List.getD_cons_succ]
              go_wp2_with fail
              refine wpAny_seg (fun w' => w' = w4) [9, 10, 11, 12, 13, 14, 15] (g := 3) rfl (by kernel_rfl) rfl ?_
              simp only [pick, List.getD_cons_zero, List.getD_cons_succ]
              iterate 7 ((with_reducible refine wpQuiet_step (fun K hK => ?_)); go_simp; (with_reducible refine hK _ ?_); clear hK K)
              refine wpQuiet_nil ?_
              rintro _ rfl
              clear c1 l0 l1
              refine wpAny_one 16 (by kernel_rfl) ?_
              simp only [pick, List.getD_cons_zero, List.getD_cons_succ]
              go_wp2_with (go_at_call 197; refine (callsIn_wide.1 ih1.out).mono ?_; rintro e5 w5 (⟨rfl, hJ5, hk5⟩ | ⟨rfl, q, hq, hx5⟩))
              · refine wpAny_one 17 (by kernel_rfl) ?_
                simp only [pick, List.getD_cons_zero, List.getD_cons_succ]
                go_wp2_with fail
                refine wpAny_one 18 (by kernel_rfl) ?_
                simp only [pick, List.getD_cons_zero, List.getD_cons_succ]
                go_wp2_with fail
                refine wpAny_done (by kernel_rfl) ?_ _
                gi_wp2
                go_ret
                exact .inl ⟨rfl, by simpa [List.append_assoc] using hJ5, HK4.out.trans hk5⟩
              · refine wpAny_one 17 (by kernel_rfl) ?_
                simp only [pick, List.getD_cons_zero, List.getD_cons_succ]
                go_wp2_with fail
                refine wpAny_one 18 (by kernel_rfl) ?_
                simp only [pick, List.getD_cons_zero, List.getD_cons_succ]
                go_wp2_with fail
                refine wpAny_done (by kernel_rfl) ?_ _
                gi_wp2
                go_ret
                obtain ⟨t, ht⟩ := hq
                exact .inr ⟨rfl, (x, e) :: (trav M f (kid x e false) (e + 1) ++ q), ⟨t, by simp [← ht]⟩, by simpa [List.append_assoc] using hx5⟩
            · clear ih0 HR3 HH3 HIH
              refine wpAny_one 8 (by kernel_rfl) ?_
              simp only [pick, List.getD_cons_zero, List.getD_cons_succ]
              go_wp2_with fail
              refine wpAny_seg (fun w' => w' = w4) [9, 10, 11, 12, 13, 14, 15] (g := 3) rfl (by kernel_rfl) rfl ?_
              simp only [pick, List.getD_cons_zero, List.getD_cons_succ]
              iterate 7 ((with_reducible refine wpQuiet_step (fun K hK => ?_)); go_simp; (with_reducible refine hK _ ?_); clear hK K)
              refine wpQuiet_nil ?_
              rintro _ rfl
              refine wpAny_one 16 (by kernel_rfl) ?_
              simp only [pick, List.getD_cons_zero, List.getD_cons_succ]
              go_wp2_with fail
              refine wpAny_one 17 (by kernel_rfl) ?_
              simp only [pick, List.getD_cons_zero, List.getD_cons_succ]
              go_wp2_with fail
              refine wpAny_one 18 (by kernel_rfl) ?_
              simp only [pick, List.getD_cons_zero, List.getD_cons_succ]
              go_wp2_with fail
              refine wpAny_done (by kernel_rfl) ?_ _
              gi_wp2
              go_ret
              obtain ⟨t, ht⟩ := hq
              exact .inr ⟨rfl, (x, e) :: q, ⟨t ++ trav M f (kid x e true) (e + 1), by simp [← ht, List.append_assoc]⟩, by simpa [List.append_assoc] using hx4⟩


          · go_ret
            exact .inr ⟨rfl, [(x, e)], ⟨_, rfl⟩, hx1⟩
end Go.Proofs.YtadoflcomienoaaGreat.Tm
/- Slices of prefixes. -/
namespace Go.Proofs.YtadoflcomienoaaGreat.Tm
open Go.RowKit

def RP : Rep (Nat × Nat) := ⟨58, 2, by decide, fun x => [.int .u32 x.1, .int .i64 x.2], fun _ => rfl, fun _ => rfl⟩
theorem info32 : (Tryz.prog.info? 58).map (fun i => (i.zero, i.size, i.bytes)) = some (some (.agg #[.int .u32 0, .int .i64 0]), 2, 16) := by kernel_rfl
theorem cell_two_new (w : World) (x y : Value) (t : TypeId) : ∀ j u, [x, y][j]? = some u → (w.alloc (.cells #[x, y] t)).cell? ((⟨w.heap.size, 0, none⟩ : Addr).add j) = some u := by
  intro j u hj
  have hadd : (⟨w.heap.size, 0, none⟩ : Addr).add j = ⟨w.heap.size, j, none⟩ := by unfold Addr.add; split <;> simp_all
  rw [hadd]
  exact cell_of (hnew _ _) (by simpa using hj)
end Go.Proofs.YtadoflcomienoaaGreat.Tm
