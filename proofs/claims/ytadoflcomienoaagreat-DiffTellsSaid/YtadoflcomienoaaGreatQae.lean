/- Readers: numbers. -/
import Derived.Test.YtadoflcomienoaaGreatQad
import Derived.Test.YtadoflcomienoaaGreatQac
import Derived.Test.YtadoflcomienoaaGreatQaa
namespace Go.Proofs.YtadoflcomienoaaGreat
open Go.RowKit

theorem or_u32 (m z : Nat) (hm : m < 16777216) (hz : z < 256) : bits .or .u32 ((m : Int) * 256) (z : Int) = ((256 * m + z : Nat) : Int) := by
  unfold bits
  dsimp only
  have h1 : BitVec.ofInt IntKind.u32.bits ((m : Int) * 256) = BitVec.ofNat 32 (m * 256) := by
    show BitVec.ofInt 32 ((m : Int) * 256) = _
    rw [show ((m : Int) * 256) = ((m * 256 : Nat) : Int) by omega, BitVec.ofInt_natCast]
  have h2 : BitVec.ofInt IntKind.u32.bits (z : Int) = BitVec.ofNat 32 z := by show BitVec.ofInt 32 (z : Int) = _; rw [BitVec.ofInt_natCast]
  rw [h1, h2]
  have h3 : (BitVec.ofNat 32 (m * 256) ||| BitVec.ofNat 32 z).toNat = 256 * m + z := by
    rw [BitVec.toNat_or, BitVec.toNat_ofNat, BitVec.toNat_ofNat, Nat.mod_eq_of_lt (by omega), Nat.mod_eq_of_lt (by omega)]
    have h := Nat.shiftLeft_add_eq_or_of_lt (i := 8) (b := z) (by omega) m
    rw [Nat.shiftLeft_eq, show (2 : Nat) ^ 8 = 256 from rfl] at h
    omega
  have h4 : IntKind.u32.wrap ((BitVec.ofNat 32 (m * 256) ||| BitVec.ofNat 32 z).toNat : Int) = ((256 * m + z : Nat) : Int) := by
    rw [h3]
    show (((256 * m + z : Nat) : Int) % 4294967296) = _
    omega
  exact h4
/-- blocks of bytes stay as they are -/
structure Keep5 (w w' : World) : Prop where
  size : w.heap.size ≤ w'.heap.size
  blk : ∀ (b : Nat) (cs : Array Value), w.heap[b]? = some (Obj.cells cs 5) → w'.heap[b]? = w.heap[b]?
theorem Keep5.of_below {w w' : World} (h : Below w.heap.size w w') : Keep5 w w' := ⟨h.size, fun b _ hb => h.block b (lt_of_blk hb)⟩
theorem Keep5.of_but {w w' : World} {g : Nat} {cs : Array Value} {T : TypeId} (h : But w w' [g]) (hg : w.heap[g]? = some (.cells cs T)) (hT : T ≠ 5) : Keep5 w w' :=
  ⟨h.size, fun b cs' hb => h.block b (lt_of_blk hb) (by
    intro hm
    obtain rfl : b = g := by simpa using hm
    rw [hg] at hb; injection hb with hb; injection hb with _ hb _; exact hT hb)⟩
theorem Keep5.of_set {w w' : World} {q : Nat} {cs : Array Value} {T : TypeId} {o : Obj} (h : SetB w w' q o) (hq : w.heap[q]? = some (.cells cs T)) (hT : T ≠ 5) : Keep5 w w' :=
  ⟨by rw [h.size]; exact Nat.le_refl _, fun b cs' hb => h.other (by
    rintro rfl
    rw [hq] at hb; injection hb with hb; injection hb with _ hb _; exact hT hb)⟩
theorem Keep5.trans {a b c : World} (h : Keep5 a b) (k : Keep5 b c) : Keep5 a c := ⟨Nat.le_trans h.size k.size, fun q cs hq => (k.blk q cs ((h.blk q cs hq).trans hq)).trans (h.blk q cs hq)⟩
/-- a slice that reads as bytes, out of a block of bytes -/
structure B5 (w : World) (oa : Option Addr) (n c : Nat) (l : List Nat) : Prop where
  bs : BS w oa n c l
  t5 : ∀ b o, oa = some ⟨b, o, none⟩ → ∃ cs : Array Value, w.heap[b]? = some (Obj.cells cs 5)
namespace B5
variable {w w' : World} {oa : Option Addr} {n c : Nat} {l : List Nat}
theorem sl (h : B5 w oa n c l) : RB.Sl w oa n c l := h.bs.sl
theorem nil (h : B5 w oa n c l) : oa = none → c = 0 := h.bs.nil
theorem le (h : B5 w oa n c l) : n ≤ c := h.bs.le
theorem cap (h : B5 w oa n c l) : c ≤ maxLen := h.bs.cap
theorem ad (h : B5 w oa n c l) : oa = none ∨ ∃ b o, oa = some ⟨b, o, none⟩ := h.bs.ad
theorem keep (h : B5 w oa n c l) (hb : Keep5 w w') : B5 w' oa n c l :=
  ⟨⟨⟨h.sl.len, h.sl.max, fun h0 => by
    obtain ⟨b, o, e, hr⟩ := h.sl.row h0
    obtain ⟨cs, hcs⟩ := h.t5 b o e
    exact ⟨b, o, e, Nat.lt_of_lt_of_le hr.lt hb.size, fun i hi => (hr.get i hi).keep (hb.blk b cs hcs)⟩⟩, h.nil, h.le, h.cap, h.ad⟩, fun b o e => by
    obtain ⟨cs, hcs⟩ := h.t5 b o e
    exact ⟨cs, (hb.blk b cs hcs).trans hcs⟩⟩
theorem below (h : B5 w oa n c l) (hb : Below w.heap.size w w') : B5 w' oa n c l := h.keep (.of_below hb)
end B5
theorem b5_own {w : World} {base : Nat} {v : Value} {l : List Nat} (h : RB.Own w base v l) : ∃ oa c, v = .slice oa l.length c ∧ B5 w oa l.length c l := by
  obtain ⟨oa, c, hv, hs⟩ := bs_own h
  refine ⟨oa, c, hv, hs, fun b o e => ?_⟩
  rcases h.2 with ⟨h2, _⟩ | ⟨g, cap, cur, hv2, _, hh, _⟩
  · rw [hv] at h2; injection h2 with h2; rw [e] at h2; cases h2
  · rw [hv] at hv2
    injection hv2 with hv2
    rw [e] at hv2
    injection hv2 with hv2
    injection hv2 with hv2
    subst hv2
    exact ⟨cur, hh⟩
/-- a reader at a block: what is left, and whether it is bad -/
structure RdAt (T : TypeId) (g : Nat) (l : List Nat) (bad : Bool) (w : World) : Prop where
  out : ∃ oa n c, w.heap[g]? = some (.cells #[.slice oa n c, .bool bad] T) ∧ B5 w oa n c l ∧ ∀ b o, oa = some ⟨b, o, none⟩ → b ≠ g
  bytes : Bytes l
  le : l.length ≤ 100000
  t5 : T ≠ 5
/-- the next n bytes -/
def rdB (n : Int) (l : List Nat) (bad : Bool) : List Nat × List Nat × Bool := if bad = true ∨ n < 0 ∨ (l.length : Int) < n then ([], l, true) else (l.take n.toNat, l.drop n.toNat, false)
theorem BS.tail {w : World} {b o n c : Nat} {l : List Nat} (h : BS w (some ⟨b, o, none⟩) n c l) {k : Nat} (hk : k ≤ n) : BS w (some ⟨b, o + k, none⟩) (n - k) (c - k) (l.drop k) := by
  refine ⟨⟨by rw [List.length_drop, ← h.sl.len], by have := h.sl.max; omega, fun h0 => ?_⟩, by simp, by have := h.le; omega, by have := h.cap; omega, .inr ⟨_, _, rfl⟩⟩
  obtain ⟨b', o', e, hr⟩ := h.sl.row (by omega)
  cases e
  refine ⟨b, o + k, rfl, hr.lt, fun i hi => ?_⟩
  rw [List.length_drop] at hi
  have := hr.get (k + i) (by omega)
  intro j hj
  have h2 := this j hj
  simp only [RB, Nat.mul_one] at h2 ⊢
  rw [show o + k + i + j = o + (k + i) + j by omega, h2]
  simp [List.getD_eq_getElem?_getD, List.getElem?_drop]
theorem BS.init {w : World} {oa : Option Addr} {n c : Nat} {l : List Nat} (h : BS w oa n c l) {k : Nat} (hk : k ≤ n) : RB.Sl w oa k c (l.take k) := by
  have hl := h.sl.len
  refine ⟨by rw [List.length_take]; omega, by have := h.sl.max; omega, fun h0 => ?_⟩
  obtain ⟨b, o, e, hr⟩ := h.sl.row (by omega)
  refine ⟨b, o, e, hr.lt, fun i hi => ?_⟩
  rw [List.length_take] at hi
  have := hr.get i (by omega)
  intro j hj
  rw [this j hj]
  have : (l.take k).getD i default = l.getD i default := by simp [List.getD_eq_getElem?_getD, show i < k by omega]
  rw [this]
theorem B5.tail {w : World} {b o n c : Nat} {l : List Nat} (h : B5 w (some ⟨b, o, none⟩) n c l) {k : Nat} (hk : k ≤ n) : B5 w (some ⟨b, o + k, none⟩) (n - k) (c - k) (l.drop k) := by
  refine ⟨h.bs.tail hk, fun b' o' e => ?_⟩
  injection e with e; injection e with e _ _; subst e
  exact h.t5 _ _ rfl
theorem B5.init {w : World} {oa : Option Addr} {n c : Nat} {l : List Nat} (h : B5 w oa n c l) {k : Nat} (hk : k ≤ n) : RB.Sl w oa k c (l.take k) := h.bs.init hk
theorem Bytes.drop {l : List Nat} (h : Bytes l) (k : Nat) : Bytes (l.drop k) := fun x hx => h x (List.mem_of_mem_drop hx)
theorem Bytes.take {l : List Nat} (h : Bytes l) (k : Nat) : Bytes (l.take k) := fun x hx => h x (List.mem_of_mem_take hx)
theorem RdAt.keep {T : TypeId} {g : Nat} {l : List Nat} {bad : Bool} {w w' : World} (h : RdAt T g l bad w) (hb : Keep5 w w') (hg : w'.heap[g]? = w.heap[g]?) : RdAt T g l bad w' := by
  obtain ⟨⟨oa, n, c, h1, h2, h3⟩, h4, h5, h6⟩ := h
  exact ⟨⟨oa, n, c, hg.trans h1, h2.keep hb, h3⟩, h4, h5, h6⟩
theorem RdAt.lt {T : TypeId} {g : Nat} {l : List Nat} {bad : Bool} {w : World} (h : RdAt T g l bad w) : g < w.heap.size := by
  obtain ⟨⟨oa, n, c, h1, h2, h3⟩, h4, h5⟩ := h
  exact lt_of_blk h1
theorem RdAt.on {T : TypeId} {g : Nat} {l : List Nat} {bad : Bool} {w w' : World} (h : RdAt T g l bad w) (hb : Below w.heap.size w w') : RdAt T g l bad w' := h.keep (.of_below hb) (hb.block g h.lt)
theorem RdAt.k5 {T : TypeId} {g : Nat} {l : List Nat} {bad : Bool} {w w' : World} (h : RdAt T g l bad w) (hb : But w w' [g]) : Keep5 w w' := by
  obtain ⟨⟨oa, n, c, h1, h2, h3⟩, h4, h5, h6⟩ := h
  exact .of_but hb h1 h6
theorem RdAt.spoil {T : TypeId} {g : Nat} {oa : Option Addr} {n c : Nat} {l : List Nat} {bad : Bool} {w : World} (hg : w.heap[g]? = some (.cells #[.slice oa n c, .bool bad] T)) (hT : T ≠ 5) (hbs : B5 w oa n c l) (hne : ∀ b o, oa = some ⟨b, o, none⟩ → b ≠ g) (hby : Bytes l) (hle : l.length ≤ 100000) :
    RdAt T g l true (w.setCell ⟨g, 1, none⟩ (.bool true)) ∧ But w (w.setCell ⟨g, 1, none⟩ (.bool true)) [g] := by
  have hbut : But w (w.setCell ⟨g, 1, none⟩ (.bool true)) [g] := (But.refl w [g]).setCell (.inr (by simp)) _
  refine ⟨⟨⟨oa, n, c, ?_, hbs.keep (.of_but hbut hg hT), hne⟩, hby, hle, hT⟩, hbut⟩
  have := setCell_blk hg 1 (.bool true)
  rw [this]; rfl
theorem RdAt.adv {T : TypeId} {g : Nat} {oa oa' : Option Addr} {n c n' c' : Nat} {l' : List Nat} {bad : Bool} {w : World} (hg : w.heap[g]? = some (.cells #[.slice oa n c, .bool bad] T)) (hT : T ≠ 5) (hbs : B5 w oa' n' c' l') (hne : ∀ b o, oa' = some ⟨b, o, none⟩ → b ≠ g) (hby : Bytes l') (hle : l'.length ≤ 100000) :
    RdAt T g l' bad (w.setCell ⟨g, 0, none⟩ (.slice oa' n' c')) ∧ But w (w.setCell ⟨g, 0, none⟩ (.slice oa' n' c')) [g] := by
  have hbut : But w (w.setCell ⟨g, 0, none⟩ (.slice oa' n' c')) [g] := (But.refl w [g]).setCell (.inr (by simp)) _
  refine ⟨⟨⟨oa', n', c', ?_, hbs.keep (.of_but hbut hg hT), hne⟩, hby, hle, hT⟩, hbut⟩
  have := setCell_blk hg 0 (.slice oa' n' c')
  rw [this]; rfl
theorem rdB_len (k : Nat) (l : List Nat) (bad : Bool) : (rdB k l bad).1.length ≤ k := by
  unfold rdB; split <;> simp; omega
theorem rdB_bytes (n : Int) (l : List Nat) (bad : Bool) (h : Bytes l) : Bytes (rdB n l bad).1 := by
  unfold rdB; split
  · intro x hx; cases hx
  · exact h.take _
end Go.Proofs.YtadoflcomienoaaGreat
/- Slices of slices: what s[:i] and s[i:] are, and what they read as. -/
namespace Go.Proofs.YtadoflcomienoaaGreat
open Go.RowKit
namespace Rep
variable {α : Type} [Inhabited α] {R : Rep α} {P : Program}
theorem Ty.elem {t : TypeId} {bytes : Nat} (hT : Ty P t R bytes) : P.elem t = R.T := by
  unfold Program.elem; rw [hT.ht]
theorem Ty.elem' {t : TypeId} {bytes : Nat} (hT : Ty P t R bytes) : P.underlying t = some (.slice (P.elem t)) := by rw [hT.elem]; exact hT.ht
theorem Ty.size {t : TypeId} {bytes : Nat} (hT : Ty P t R bytes) (w : World) : (sizeOf (P.elem t)).run P w = .ok R.k w := by
  rw [hT.elem]
  obtain ⟨i, z, h1, h2, h3, h4, h5⟩ := hT.hi
  simp [sizeOf, typeInfo, h1, h3]
/-- where the cut slice begins -/
def cutAddr (a : Option Addr) (l m k : Nat) : Option Addr := if m = l then a else a.map (·.add (l * k))
theorem cutAddr_some {b o l m k : Nat} : ∃ o', cutAddr (some ⟨b, o, none⟩) l m k = some ⟨b, o', none⟩ ∧ (m ≠ l → o' = o + l * k) := by
  unfold cutAddr
  split
  · rename_i h; exact ⟨o, rfl, fun h' => absurd h h'⟩
  · refine ⟨o + l * k, ?_, fun _ => rfl⟩
    show some ((⟨b, o, none⟩ : Addr).add (l * k)) = _
    unfold Addr.add; split <;> simp_all
theorem cutAddr_none {l m k : Nat} : cutAddr none l m k = none := by unfold cutAddr; split <;> rfl
theorem cutAddr_isNone {a : Option Addr} {l m k : Nat} (h : cutAddr a l m k = none) : a = none := by
  unfold cutAddr at h
  split at h
  · exact h
  · cases a with
    | none => rfl
    | some _ => cases h
theorem cut_from {t : TypeId} {bytes : Nat} (hT : Ty P t R bytes) {w : World} {a : Option Addr} {n c : Nat} {L : List α} (hs : R.Sl w a n c L) (hnc : n ≤ c) (hn0 : a = none → c = 0) {i : Nat} (hi : i ≤ n) :
    ∃ sa, (∀ W, (Instr.sliceAt t (.slice a n c) (some (.int .i64 (i : Int))) none none).run P W = .ok (.slice sa (n - i) (c - i)) W) ∧ (∀ W, (Instr.slice t (.slice a n c) (some (.int .i64 (i : Int))) none none).run P W = .ok (.slice sa (n - i) (c - i)) W) ∧
      R.Sl w sa (n - i) (c - i) (L.drop i) ∧ (sa = none → c - i = 0) ∧ ∀ b o, a = some ⟨b, o, none⟩ → ∃ o', sa = some ⟨b, o', none⟩ := by
  have h2 : ∀ W, (Instr.slice t (.slice a n c) (some (.int .i64 (i : Int))) none none).run P W = .ok (.slice (cutAddr a i c R.k) (n - i) (c - i)) W := fun W => by
    rw [run_slice_l W t a n c hT.elem' .i64 (i : Int) (by omega) (by omega), hT.size W]
    simp only [Result.andThen, sliced, Int.toNat_natCast, cutAddr]
  refine ⟨cutAddr a i c R.k, fun W => ?_, h2, ⟨by rw [List.length_drop, ← hs.len], by have := hs.max; omega, fun h0 => ?_⟩, fun e => ?_, fun b o e => ?_⟩
  · rw [run_sliceAt_slice W t _ _ _ _ hT.elem']; exact h2 W
  · obtain ⟨b, o, e, hr⟩ := hs.row (by omega)
    obtain ⟨o', e', ho'⟩ := cutAddr_some (b := b) (o := o) (l := i) (m := c) (k := R.k)
    rw [e, e']
    refine ⟨b, o', rfl, ?_⟩
    rw [ho' (by omega)]
    exact hr.drop i
  · rw [hn0 (cutAddr_isNone e)]; omega
  · subst e
    obtain ⟨o', e', -⟩ := cutAddr_some (b := b) (o := o) (l := i) (m := c) (k := R.k)
    exact ⟨o', e'⟩
theorem cut_to {t : TypeId} {bytes : Nat} (hT : Ty P t R bytes) {w : World} {a : Option Addr} {n c : Nat} {L : List α} (hs : R.Sl w a n c L) (hnc : n ≤ c) (hn0 : a = none → c = 0) {i : Nat} (hi : i ≤ n) :
    ∃ sa, (∀ W, (Instr.sliceAt t (.slice a n c) none (some (.int .i64 (i : Int))) none).run P W = .ok (.slice sa i c) W) ∧ (∀ W, (Instr.slice t (.slice a n c) none (some (.int .i64 (i : Int))) none).run P W = .ok (.slice sa i c) W) ∧
      R.Sl w sa i c (L.take i) ∧ (sa = none → c = 0) ∧ ∀ b o, a = some ⟨b, o, none⟩ → ∃ o', sa = some ⟨b, o', none⟩ := by
  have h2 : ∀ W, (Instr.slice t (.slice a n c) none (some (.int .i64 (i : Int))) none).run P W = .ok (.slice (cutAddr a 0 c R.k) i c) W := fun W => by
    rw [run_slice_h W t a n c hT.elem' .i64 (i : Int) (by omega) (by omega), hT.size W]
    simp only [Result.andThen, sliced, Int.toNat_natCast, cutAddr, Nat.sub_zero]
  refine ⟨cutAddr a 0 c R.k, fun W => ?_, h2, ⟨by rw [List.length_take, ← hs.len]; omega, by have := hs.max; omega, fun h0 => ?_⟩, fun e => hn0 (cutAddr_isNone e), fun b o e => ?_⟩
  · rw [run_sliceAt_slice W t _ _ _ _ hT.elem']; exact h2 W
  · obtain ⟨b, o, e, hr⟩ := hs.row (by omega)
    obtain ⟨o', e', ho'⟩ := cutAddr_some (b := b) (o := o) (l := 0) (m := c) (k := R.k)
    rw [e, e']
    refine ⟨b, o', rfl, ?_⟩
    rw [ho' (by omega), Nat.zero_mul, Nat.add_zero]
    exact hr.take i
  · subst e
    obtain ⟨o', e', -⟩ := cutAddr_some (b := b) (o := o) (l := 0) (m := c) (k := R.k)
    exact ⟨o', e'⟩
end Rep
end Go.Proofs.YtadoflcomienoaaGreat
/- append onto a slice that is full: what it gives lies in a new block. -/
namespace Go.Proofs.YtadoflcomienoaaGreat
open Go Go.RowKit
namespace Rep
variable {α : Type} [Inhabited α] {R : Rep α} {P : Program} {ops : Array Oper} {rest : List Oper} {o : Oper} {a : Act} {Q : Exit → Act → World → Prop} {w : World}
theorem run_append_cut {t ty : TypeId} {bytes : Nat} (hT : Ty P t R bytes) {sa : Option Addr} {k : Nat} {L : List α} (hL : R.Sl w sa k k L) {sb : Option Addr} {m c : Nat} {M : List α} (hM : R.Sl w sb m c M) (h0 : 0 < m)
    (hmax : k + m ≤ maxLen) (hbytes : (k + m) * bytes ≤ 140737488355328) :
    ∃ v' w', (Builtin.append_ #[t, t] ty #[.slice sa k k, .slice sb m c]).run P w = .ok v' w' ∧ R.Own w' w.heap.size v' (L ++ M) ∧ Below w.heap.size w w' := by
  obtain ⟨b, off, rfl, hr⟩ := hM.row h0
  cases sa with
  | none =>
    have hk : k = 0 := by
      rcases Nat.eq_zero_or_pos k with h | h
      · exact h
      · obtain ⟨_, _, e, _⟩ := hL.row h; cases e
    subst hk
    obtain rfl : L = [] := List.length_eq_zero_iff.1 hL.len.symm
    obtain ⟨v', w', e1, e2, e3, _⟩ := run_append_list (ty := ty) hT (Own.nil (R := R) w w.heap.size) hM (fun h => by cases h) (by simpa using hmax) (by simpa using hbytes) (Nat.le_refl _)
    exact ⟨v', w', e1, e2, e3⟩
  | some ad =>
    obtain ⟨i, z, h1, h2, h3, h4, h5⟩ := hT.hi
    have holds : ∀ j u, (R.flat L)[j]? = some u → w.cell? (ad.add j) = some u := by
      rcases Nat.eq_zero_or_pos k with hk | hk
      · obtain rfl : L = [] := List.length_eq_zero_iff.1 (hL.len.symm.trans hk)
        intro j u hu; simp [flat] at hu
      · obtain ⟨b', o', e, hr'⟩ := hL.row hk
        cases e
        exact news_of_row hr'
    have hsmall : k + m ≤ 9223372036854775807 := by simp only [maxLen] at hmax; omega
    have hlo : (R.flat L).length = k * i.size := by rw [R.flat_length, ← hL.len, h3]
    have hln : (R.flat M).length = m * i.size := by rw [R.flat_length, ← hM.len, h3]
    have hrun := run_append_grow (P := P) w t ty R.T i z hT.ht h1 h2 ad k k (R.flat L) hlo holds ⟨b, off, none⟩ m c (R.flat M) hln (news_of_row hr) (by omega) (by omega) (growslice_fits (by omega) (by rw [h4]; exact hbytes))
    have hge := grownCap_ge w (k + m) k R.T
    have hcm : grownCap w (k + m) k R.T ≤ maxLen := grownCap_le_maxLen w (k + m) k R.T hmax
    refine ⟨_, _, hrun, ?_, ((Below.refl w.heap.size w).drew).alloc (Nat.le_refl _) _⟩
    show World.ownsRow _ _ R.T R.k _ (L ++ M).length (R.flat (L ++ M))
    rw [R.flat_append, List.length_append, ← hL.len, ← hM.len]
    refine ⟨by rw [List.length_append, hlo, hln, h3, Nat.add_mul], .inr ⟨w.heap.size, _, _, rfl, Nat.le_refl _, hnew w.drew _, hge, hcm, ?_, ?_⟩⟩
    · simp only [Array.size_append, List.size_toArray, size_zeroCells, h5, hlo, hln, h3, ← Nat.add_mul]
      congr 1
      omega
    · simp only [Array.toList_append, List.append_assoc]
      rw [← List.append_assoc]
      have e : (k + m) * R.k = (R.flat L ++ R.flat M).length := by rw [List.length_append, hlo, hln, h3, Nat.add_mul]
      rw [e]
      exact List.take_left
theorem sl_one {b c : Nat} {y : α} {T : TypeId} {fr : Nat × Nat} (h : w.heap[b]? = some (.cells (R.cells y).toArray T fr)) : R.Sl w (some ⟨b, 0, none⟩) 1 c [y] :=
  ⟨rfl, by unfold maxLen; omega, fun _ => ⟨b, 0, rfl, lt_of_blk h, fun i hi j hj => by
    obtain rfl : i = 0 := by simp at hi; exact hi
    rw [Nat.zero_mul, Nat.zero_add]
    have hs : j < (R.cells y).toArray.size := by simp [R.len, hj]
    rw [cell_of h (Array.getElem?_eq_getElem hs)]
    simp [List.getElem?_eq_getElem (show j < (R.cells y).length by rw [R.len]; exact hj)]⟩⟩
theorem sl_nil {a : Option Addr} {c : Nat} : R.Sl w a 0 c [] := ⟨rfl, by unfold maxLen; omega, fun h => absurd h (Nat.lt_irrefl _)⟩
theorem own_empty {b base : Nat} (h : w.heap[b]? = some (.cells #[] R.T (0, 0))) (hb : base ≤ b) : R.Own w base (.slice (some ⟨b, 0, none⟩) 0 0) [] :=
  ⟨by simp [flat], .inr ⟨b, 0, #[], rfl, hb, h, Nat.le_refl _, by unfold maxLen; omega, by simp, by simp [flat]⟩⟩
theorem Own.sl0 {base : Nat} {v : Value} {L : List α} (h : R.Own w base v L) : ∃ a c, v = .slice a L.length c ∧ R.Sl w a L.length c L ∧ (a = none → c = 0) := by
  rcases h.cases with ⟨rfl, rfl⟩ | ⟨g, cap, rfl, hg, hl, h1, h2, hr, -⟩
  · exact ⟨none, 0, rfl, sl_nil, fun _ => rfl⟩
  · exact ⟨some ⟨g, 0, none⟩, cap, rfl, ⟨rfl, by omega, fun _ => ⟨g, 0, rfl, hr⟩⟩, fun e => by cases e⟩
theorem append_cut {t : TypeId} {bytes : Nat} (hT : Ty P t R bytes) (hgd : o.guard = none) (s x : Operand) (ho : o.op = .call { callee := .builtin .append, args := #[s, x], argTypes := #[t, t] })
    {sa : Option Addr} {k : Nat} {L : List α} (hs : a.eval s = .slice sa k k) (hL : R.Sl w sa k k L) {sb : Option Addr} {m c : Nat} {M : List α} (hx : a.eval x = .slice sb m c) (hM : R.Sl w sb m c M) (h0 : 0 < m)
    (hmax : k + m ≤ maxLen) (hbytes : (k + m) * bytes ≤ 140737488355328)
    (h : ∀ v' w', R.Own w' w.heap.size v' (L ++ M) → Below w.heap.size w w' → wpList P ops Q rest (a.put o.dst v') w') : wpList P ops Q (o :: rest) a w :=
  wpList_plain hgd fun K hK => by
    obtain ⟨v', w', e1, e2, e3⟩ := run_append_cut hT hL hM h0 hmax hbytes (ty := o.type)
    have hk := hK _ _ (h v' w' e2 e3)
    unfold Oper.wp execOp
    simp only [ho, resolve, invoke, builtin, Sem.run_bind, Sem.run_pure, Result.andThen_ok, List.map_toArray, List.map_cons, List.map_nil, hs, hx, e1]
    exact hk
end Rep
end Go.Proofs.YtadoflcomienoaaGreat
/- The bytes of a prefix. -/
namespace Go.Proofs.YtadoflcomienoaaGreat
open Go.RowKit

/-- how many bytes hold so many bits -/
def szB (m : Nat) : Nat := (m + 7) / 8
theorem szB_le {m : Nat} (h : m ≤ 32) : szB m ≤ 4 := by unfold szB; omega
/-- a prefix's bytes -/
def pb (a m : Nat) : List Nat := m :: (be 4 a).take (szB m)
theorem pb_len {a m : Nat} (h : m ≤ 32) : (pb a m).length = szB m + 1 := by
  have := szB_le h
  unfold pb
  rw [List.length_cons, List.length_take, be_length]
  omega
theorem rh_two {w : World} {b : Nat} {x y : Option Addr × Nat × Nat} (h : w.heap[b]? = some (.cells #[.slice x.1 x.2.1 x.2.2, .slice y.1 y.2.1 y.2.2] 110)) : RH.Sl w (some ⟨b, 0, none⟩) 2 2 [x, y] := by
  refine ⟨rfl, by unfold maxLen; omega, fun _ => ⟨b, 0, rfl, lt_of_blk h, fun i hi j hj => ?_⟩⟩
  have hj0 : j = 0 := by have : RH.k = 1 := rfl; omega
  subst hj0
  have hi2 : i = 0 ∨ i = 1 := by simp at hi; omega
  rcases hi2 with rfl | rfl
  · exact cell_of h rfl
  · exact cell_of h rfl
theorem bss_two {w : World} {x y : Option Addr × Nat × Nat} {l m : List Nat} (h1 : RB.Sl w x.1 x.2.1 x.2.2 l) (h2 : x.1 = none → x.2.2 = 0) (h3 : RB.Sl w y.1 y.2.1 y.2.2 m) (h4 : y.1 = none → y.2.2 = 0) : BSS w [x, y] [l, m] := by
  refine ⟨rfl, fun j hj => ?_⟩
  have hj2 : j = 0 ∨ j = 1 := by simp at hj; omega
  rcases hj2 with rfl | rfl
  · exact ⟨h1, h2⟩
  · exact ⟨h3, h4⟩
theorem size_any (m : Nat) (hm : m ≤ 32) (w : World) : Calls Tryz.prog 208 #[.int .i64 m] w fun e w' => e = .returned (.int .i64 (szB m : Nat)) ∧ w' = w := by
  go_enter Tryz.func208, Tryz.ntmps208
  go_wp2_with fail
  go_ret
  exact ⟨ret_int (by unfold szB; omega), rfl⟩
def BxP (q : Nat) (p : PK) (W : World) : Prop := W.heap[q]? = some (.cells #[.int .u32 (p.1 : Int), .int .i64 p.2] 58)
theorem BxP.cells {q : Nat} {p : PK} {W : World} (h : BxP q p W) : W.cell? ⟨q, 0, none⟩ = some (.int .u32 (p.1 : Int)) ∧ W.cell? ⟨q, 1, none⟩ = some (.int .i64 p.2) := ⟨cell_of h rfl, cell_of h rfl⟩
theorem BxP.keep {q : Nat} {p : PK} {W W' : World} (h : BxP q p W) (hb : Below W.heap.size W W') : BxP q p W' := (hb.block _ (lt_of_blk h)).trans h
set_option maxRecDepth 100000 in
set_option maxHeartbeats 1000000 in
theorem aput_any (a m : Nat) (ha : a < 4294967296) (hok : okP a m = true) (w : World) : Calls Tryz.prog 187 #[pfx a m] w fun e w' => ∃ v, e = .returned (.tuple #[v, .int .i64 0]) ∧ RB.Own w' w.heap.size v (pb a m) ∧ Below w.heap.size w w' := by
  have hm : m ≤ 32 := by have := (okP_iff.1 hok).2.1; omega
  have HK := Lib.hid (show ∀ W, Calls Tryz.prog 54 #[pfx a m] W fun e w' => e = .returned (.int .i64 0) ∧ Below W.heap.size W w' from fun W => by have := check_any a m ha W; rw [hok] at this; exact this)
  have HP := Lib.hid (put4_any a ha)
  have HS := Lib.hid (size_any m hm)
  have HPB := Lib.hid (show pb a m = m :: (be 4 a).take (szB m) from rfl)
  have hk4 := szB_le hm
  generalize pb a m = PBL at *
  have hal := (Below.refl w.heap.size w).alloc (Nat.le_refl _) (.cells #[.int .u32 (a : Int), .int .i64 (m : Int)] 58)
  have hx : BxP w.heap.size ((a, (m : Int)) : PK) (w.alloc (.cells #[.int .u32 (a : Int), .int .i64 (m : Int)] 58)) := hnew _ _
  have F0 := Lib.hid (And.intro hal hx)
  obtain ⟨c0, c1⟩ := hx.cells
  dsimp only at c0 c1
  generalize szB m = k at *
  unfold pfx at HK ⊢
  clear hal hx hok
  go_enter Tryz.func187, Tryz.ntmps187
  go_wp2_with fail
  refine (HK.out _).mono ?_
  rintro e w1 ⟨rfl, hb⟩
  have F1 := Lib.hid (And.intro (bcall F0.out.1 (by simp) hb) (F0.out.2.keep hb))
  clear hb c0 c1 F0
  obtain ⟨c0, c1⟩ := F1.out.2.cells
  dsimp only at c0 c1
  go_wp2_with fail
  refine (HP.out _).mono ?_
  rintro e w2 ⟨v2, rfl, hown, hb⟩
  obtain ⟨oa, c, rfl, hs⟩ := bs_own hown
  rw [be_length] at hs ⊢
  have F2 := Lib.hid (And.intro (bcall F1.out.1 (Nat.le_refl _) hb) (And.intro (F1.out.2.keep hb) hs))
  clear hb c0 c1 F1 hown hs
  go_wp2_with fail
  refine wp_region_heldP (BxP w.heap.size ((a, (m : Int)) : PK)) (by kernel_rfl) ?_
  have hd := (Below.refl w2.heap.size w2).drew
  have F3 := Lib.hid (And.intro (bcall F2.out.1 (Nat.le_refl _) hd) (And.intro (F2.out.2.1.keep hd) (F2.out.2.2.below hd)))
  clear hd F2
  obtain ⟨sa, hr1, hr2, hst, hsn, -⟩ := Rep.cut_to T27 F3.out.2.2.sl F3.out.2.2.le F3.out.2.2.nil (i := k) (by omega)
  have FS := Lib.hid (And.intro hst hsn)
  clear hst hsn
  generalize w2.drew = W2 at *
  refine held_reads [0, 1, 2, 4, 5, 6] (g := 7) rfl (by kernel_rfl) F3.out.2.1 (fun _ _ d _ _ h => by cases d <;> exact h) ?_
  simp only [pick, List.getD_cons_zero, List.getD_cons_succ]
  ((with_reducible refine wpRead_step (fun K hK => ?_)); go_simp; first | ((with_reducible refine hK _ ?_); clear hK K) | (apply Exists.intro; (with_reducible refine ⟨fun w' hw' => ?_, hK _ ?_⟩); (first | exact rfl | exact ⟨rfl, rfl⟩); clear hK K))
  ((with_reducible refine wpRead_step (fun K hK => ?_)); go_simp; first | ((with_reducible refine hK _ ?_); clear hK K) | (apply Exists.intro; (with_reducible refine ⟨fun w' hw' => ?_, hK _ ?_⟩); (obtain ⟨f0, f1⟩ := BxP.cells hw'; dsimp only at f0 f1; go_simp; first | exact rfl | exact ⟨rfl, rfl⟩); clear hK K))
  ((with_reducible refine wpRead_step (fun K hK => ?_)); go_simp; first | ((with_reducible refine hK _ ?_); clear hK K) | (apply Exists.intro; (with_reducible refine ⟨fun w' hw' => ?_, hK _ ?_⟩); (first | exact rfl | exact ⟨rfl, rfl⟩); clear hK K))
  ((with_reducible refine wpRead_step (fun K hK => ?_)); go_simp; first | ((with_reducible refine hK _ ?_); clear hK K) | (apply Exists.intro; (with_reducible refine ⟨fun w' hw' => ?_, hK _ ?_⟩); (first | exact rfl | exact ⟨rfl, rfl⟩); clear hK K))
  ((with_reducible refine wpRead_step (fun K hK => ?_)); go_simp; first | ((with_reducible refine hK _ ?_); clear hK K) | (apply Exists.intro; (with_reducible refine ⟨fun w' hw' => ?_, hK _ ?_⟩); (first | exact rfl | exact ⟨rfl, rfl⟩); clear hK K))
  ((with_reducible refine wpRead_step (fun K hK => ?_)); go_simp; first | ((with_reducible refine hK _ ?_); clear hK K) | (apply Exists.intro; (with_reducible refine ⟨fun w' hw' => ?_, hK _ ?_⟩); (obtain ⟨f0, f1⟩ := BxP.cells hw'; dsimp only at f0 f1; go_simp; first | exact rfl | exact ⟨rfl, rfl⟩); clear hK K))
  with_reducible refine wpRead_nil ?_
  refine held_two 3 7 (by kernel_rfl) ?_ ?_
  · simp only [pick, List.getD_cons_zero, List.getD_cons_succ]
    have hal := (Below.refl W2.heap.size W2).alloc (Nat.le_refl _) (.cells #[.int .u8 (m : Int)] 5)
    have hone : RB.Sl (W2.alloc (.cells #[.int .u8 (m : Int)] 5)) (some ⟨W2.heap.size, 0, none⟩) 1 1 [m] := Rep.sl_one (R := RB) (y := m) (hnew _ _)
    have F4 := Lib.hid (And.intro (bcall F3.out.1 (Nat.le_refl _) hal) (And.intro (F3.out.2.1.keep hal) (And.intro (FS.out.1.keep hal) (And.intro hone FS.out.2))))
    clear hal hone
    go_wp2_with fail
    refine ⟨F4.out.2.1, ?_⟩
    generalize W2.alloc (.cells #[.int .u8 (m : Int)] 5) = W3 at *
    generalize W2.heap.size = q1 at *
    refine held_one 7 (by kernel_rfl) ?_
    simp only [pick, List.getD_cons_zero, List.getD_cons_succ]
    go_wp2_with fail
    refine (HS.out _).mono ?_
    rintro e W9 ⟨rfl, hw⟩
    have hw := hw.symm
    subst hw
    go_wp2_with fail
    refine ⟨F4.out.2.1, ?_⟩
    refine held_reads [8] (g := 4) rfl (by kernel_rfl) F4.out.2.1 (fun _ _ d _ _ h => by cases d <;> exact h) ?_
    simp only [pick, List.getD_cons_zero, List.getD_cons_succ]
    ((with_reducible refine wpRead_step (fun K hK => ?_)); go_simp; first | ((with_reducible refine hK _ ?_); clear hK K) | (apply Exists.intro; (with_reducible refine ⟨fun w' hw' => ?_, hK _ ?_⟩); (first | exact rfl | exact ⟨rfl, rfl⟩); clear hK K))
    with_reducible refine wpRead_nil ?_
    clear hr1 hr2
    refine held_one 9 (by kernel_rfl) ?_
    simp only [pick, List.getD_cons_zero, List.getD_cons_succ]
    have hal := (Below.refl W3.heap.size W3).alloc (Nat.le_refl _) (.cells #[.slice (some ⟨q1, 0, none⟩) 1 1, .slice sa k c] 110)
    have hvs : RH.Sl (W3.alloc (.cells #[.slice (some ⟨q1, 0, none⟩) 1 1, .slice sa k c] 110)) (some ⟨W3.heap.size, 0, none⟩) 2 2 [(some ⟨q1, 0, none⟩, 1, 1), (sa, k, c)] := rh_two (hnew _ _)
    have hbs : BSS (W3.alloc (.cells #[.slice (some ⟨q1, 0, none⟩) 1 1, .slice sa k c] 110)) [(some ⟨q1, 0, none⟩, 1, 1), (sa, k, c)] [[m], (be 4 a).take k] := bss_two (F4.out.2.2.2.1.keep hal) (fun h => by cases h) (F4.out.2.2.1.keep hal) F4.out.2.2.2.2
    have F5 := Lib.hid (And.intro (bcall F4.out.1 (Nat.le_refl _) hal) (And.intro (F4.out.2.1.keep hal) (And.intro hvs hbs)))
    clear hal hvs hbs
    go_wp2_with fail
    refine ⟨F5.out.2.1, ?_⟩
    generalize W3.alloc (.cells #[.slice (some ⟨q1, 0, none⟩) 1 1, .slice sa k c] 110) = W4 at *
    generalize W3.heap.size = q2 at *
    clear F4
    refine held_one 10 (by kernel_rfl) ?_
    simp only [pick, List.getD_cons_zero, List.getD_cons_succ]
    go_wp2_with fail
    refine (concat_any F5.out.2.2.1 F5.out.2.2.2 (by omega) (by unfold lsum; simp; omega)).mono ?_
    rintro e W5 ⟨v5, rfl, hown5, hb5⟩
    have F6 := Lib.hid (And.intro (bcall F5.out.1 (Nat.le_refl _) hb5) (And.intro (F5.out.2.1.keep hb5) (hown5.mono F5.out.1.size)))
    clear hown5 hb5 F5
    go_wp2_with fail
    refine ⟨F6.out.2.1, ?_⟩
    refine held_one 11 (by kernel_rfl) ?_
    simp only [pick, List.getD_cons_zero, List.getD_cons_succ]
    go_wp2_with fail
    refine ⟨F6.out.2.1, ?_⟩
    refine held_one 12 (by kernel_rfl) ?_
    simp only [pick, List.getD_cons_zero, List.getD_cons_succ]
    go_wp2_with fail
    refine ⟨F6.out.2.1, ?_⟩
    refine wpAnyH_done (by kernel_rfl) ?_ _
    go_wp2_with fail
    go_ret2
    exact ⟨_, rfl, by rw [HPB.out]; simpa using F6.out.2.2, F6.out.1⟩
  · simp only [pick, List.getD_cons_zero, List.getD_cons_succ]
    go_wp2_with fail
    refine (HS.out _).mono ?_
    rintro e W9 ⟨rfl, hw⟩
    have hw := hw.symm
    subst hw
    go_wp2_with fail
    refine ⟨F3.out.2.1, ?_⟩
    refine held_reads [8] (g := 5) rfl (by kernel_rfl) F3.out.2.1 (fun _ _ d _ _ h => by cases d <;> exact h) ?_
    simp only [pick, List.getD_cons_zero, List.getD_cons_succ]
    ((with_reducible refine wpRead_step (fun K hK => ?_)); go_simp; first | ((with_reducible refine hK _ ?_); clear hK K) | (apply Exists.intro; (with_reducible refine ⟨fun w' hw' => ?_, hK _ ?_⟩); (first | exact rfl | exact ⟨rfl, rfl⟩); clear hK K))
    with_reducible refine wpRead_nil ?_
    clear hr1 hr2
    refine held_one 3 (by kernel_rfl) ?_
    simp only [pick, List.getD_cons_zero, List.getD_cons_succ]
    have hal := (Below.refl W2.heap.size W2).alloc (Nat.le_refl _) (.cells #[.int .u8 (m : Int)] 5)
    have hone : RB.Sl (W2.alloc (.cells #[.int .u8 (m : Int)] 5)) (some ⟨W2.heap.size, 0, none⟩) 1 1 [m] := Rep.sl_one (R := RB) (y := m) (hnew _ _)
    have F4 := Lib.hid (And.intro (bcall F3.out.1 (Nat.le_refl _) hal) (And.intro (F3.out.2.1.keep hal) (And.intro (FS.out.1.keep hal) (And.intro hone FS.out.2))))
    clear hal hone
    go_wp2_with fail
    refine ⟨F4.out.2.1, ?_⟩
    generalize W2.alloc (.cells #[.int .u8 (m : Int)] 5) = W3 at *
    generalize W2.heap.size = q1 at *
    refine held_one 9 (by kernel_rfl) ?_
    simp only [pick, List.getD_cons_zero, List.getD_cons_succ]
    have hal := (Below.refl W3.heap.size W3).alloc (Nat.le_refl _) (.cells #[.slice (some ⟨q1, 0, none⟩) 1 1, .slice sa k c] 110)
    have hvs : RH.Sl (W3.alloc (.cells #[.slice (some ⟨q1, 0, none⟩) 1 1, .slice sa k c] 110)) (some ⟨W3.heap.size, 0, none⟩) 2 2 [(some ⟨q1, 0, none⟩, 1, 1), (sa, k, c)] := rh_two (hnew _ _)
    have hbs : BSS (W3.alloc (.cells #[.slice (some ⟨q1, 0, none⟩) 1 1, .slice sa k c] 110)) [(some ⟨q1, 0, none⟩, 1, 1), (sa, k, c)] [[m], (be 4 a).take k] := bss_two (F4.out.2.2.2.1.keep hal) (fun h => by cases h) (F4.out.2.2.1.keep hal) F4.out.2.2.2.2
    have F5 := Lib.hid (And.intro (bcall F4.out.1 (Nat.le_refl _) hal) (And.intro (F4.out.2.1.keep hal) (And.intro hvs hbs)))
    clear hal hvs hbs
    go_wp2_with fail
    refine ⟨F5.out.2.1, ?_⟩
    generalize W3.alloc (.cells #[.slice (some ⟨q1, 0, none⟩) 1 1, .slice sa k c] 110) = W4 at *
    generalize W3.heap.size = q2 at *
    clear F4
    refine held_one 10 (by kernel_rfl) ?_
    simp only [pick, List.getD_cons_zero, List.getD_cons_succ]
    go_wp2_with fail
    refine (concat_any F5.out.2.2.1 F5.out.2.2.2 (by omega) (by unfold lsum; simp; omega)).mono ?_
    rintro e W5 ⟨v5, rfl, hown5, hb5⟩
    have F6 := Lib.hid (And.intro (bcall F5.out.1 (Nat.le_refl _) hb5) (And.intro (F5.out.2.1.keep hb5) (hown5.mono F5.out.1.size)))
    clear hown5 hb5 F5
    go_wp2_with fail
    refine ⟨F6.out.2.1, ?_⟩
    refine held_one 11 (by kernel_rfl) ?_
    simp only [pick, List.getD_cons_zero, List.getD_cons_succ]
    go_wp2_with fail
    refine ⟨F6.out.2.1, ?_⟩
    refine held_one 12 (by kernel_rfl) ?_
    simp only [pick, List.getD_cons_zero, List.getD_cons_succ]
    go_wp2_with fail
    refine ⟨F6.out.2.1, ?_⟩
    refine wpAnyH_done (by kernel_rfl) ?_ _
    go_wp2_with fail
    go_ret2
    exact ⟨_, rfl, by rw [HPB.out]; simpa using F6.out.2.2, F6.out.1⟩
end Go.Proofs.YtadoflcomienoaaGreat
/- The bytes of a prefix, as the reference tells them; which ones may be told. -/
namespace Go.Proofs.YtadoflcomienoaaGreat
open Go.RowKit

set_option maxRecDepth 100000 in
set_option maxHeartbeats 1000000 in
theorem rpput_any (a m : Nat) (ha : a < 4294967296) (hm : m ≤ 32) (w : World) : Calls Tryz.prog 185 #[pfx a m] w fun e w' => ∃ v, e = .returned v ∧ RB.Own w' w.heap.size v (pb a m) ∧ Below w.heap.size w w' := by
  have HP := Lib.hid (rput4_any a ha)
  have HPB := Lib.hid (show pb a m = [m] ++ (be 4 a).take (szB m) from rfl)
  have hk4 := szB_le hm
  have hw1 : IntKind.i64.wrap ((m : Int) + 7) = (m : Int) + 7 := IntWalk.i64_in _ (by omega)
  have hq1 : ((m : Int) + 7).tdiv 8 = (szB m : Nat) := by
    have : ((m : Int) + 7).tdiv 8 = (((m + 7) / 8 : Nat) : Int) := rfl
    rw [this]; rfl
  have hq2 : IntKind.i64.wrap (szB m : Nat) = (szB m : Nat) := IntWalk.i64_in _ (by omega)
  generalize pb a m = PBL at *
  have hal := (Below.refl w.heap.size w).alloc (Nat.le_refl _) (.cells #[.int .u32 (a : Int), .int .i64 (m : Int)] 58)
  have hx : BxP w.heap.size ((a, (m : Int)) : PK) (w.alloc (.cells #[.int .u32 (a : Int), .int .i64 (m : Int)] 58)) := hnew _ _
  have F1 := Lib.hid (And.intro hal hx)
  obtain ⟨c0, c1⟩ := hx.cells
  dsimp only at c0 c1
  generalize szB m = k at *
  unfold pfx
  clear hal hx
  go_enter Tryz.func185, Tryz.ntmps185
  go_wp2_with fail
  refine (HP.out _).mono ?_
  rintro e w2 ⟨v2, rfl, hown, hb⟩
  obtain ⟨oa, c, rfl, hs⟩ := bs_own hown
  rw [be_length] at hs ⊢
  have F2 := Lib.hid (And.intro (bcall F1.out.1 (by simp) hb) (And.intro (F1.out.2.keep hb) hs))
  clear hb c0 c1 F1 hown hs
  go_wp2_with fail
  refine wp_region_heldP (BxP w.heap.size ((a, (m : Int)) : PK)) (by kernel_rfl) ?_
  have hd := (Below.refl w2.heap.size w2).drew
  have F3 := Lib.hid (And.intro (bcall F2.out.1 (Nat.le_refl _) hd) (And.intro (F2.out.2.1.keep hd) (F2.out.2.2.below hd)))
  clear hd F2
  obtain ⟨sa, hr1, hr2, hst, hsn, -⟩ := Rep.cut_to T27 F3.out.2.2.sl F3.out.2.2.le F3.out.2.2.nil (i := k) (by omega)
  have FS := Lib.hid (And.intro hst hsn)
  clear hst hsn
  generalize w2.drew = W2 at *
  refine held_reads [0, 1, 2, 4, 5, 6, 7, 8, 9] (g := 3) rfl (by kernel_rfl) F3.out.2.1 (fun _ _ d _ _ h => by cases d <;> exact h) ?_
  simp only [pick, List.getD_cons_zero, List.getD_cons_succ]
  ((with_reducible refine wpRead_step (fun K hK => ?_)); go_simp; first | ((with_reducible refine hK _ ?_); clear hK K) | (apply Exists.intro; (with_reducible refine ⟨fun w' hw' => ?_, hK _ ?_⟩); (first | exact rfl | exact ⟨rfl, rfl⟩); clear hK K))
  ((with_reducible refine wpRead_step (fun K hK => ?_)); go_simp; first | ((with_reducible refine hK _ ?_); clear hK K) | (apply Exists.intro; (with_reducible refine ⟨fun w' hw' => ?_, hK _ ?_⟩); (obtain ⟨f0, f1⟩ := BxP.cells hw'; dsimp only at f0 f1; go_simp; first | exact rfl | exact ⟨rfl, rfl⟩); clear hK K))
  ((with_reducible refine wpRead_step (fun K hK => ?_)); go_simp; first | ((with_reducible refine hK _ ?_); clear hK K) | (apply Exists.intro; (with_reducible refine ⟨fun w' hw' => ?_, hK _ ?_⟩); (first | exact rfl | exact ⟨rfl, rfl⟩); clear hK K))
  ((with_reducible refine wpRead_step (fun K hK => ?_)); go_simp; first | ((with_reducible refine hK _ ?_); clear hK K) | (apply Exists.intro; (with_reducible refine ⟨fun w' hw' => ?_, hK _ ?_⟩); (first | exact rfl | exact ⟨rfl, rfl⟩); clear hK K))
  ((with_reducible refine wpRead_step (fun K hK => ?_)); go_simp; first | ((with_reducible refine hK _ ?_); clear hK K) | (apply Exists.intro; (with_reducible refine ⟨fun w' hw' => ?_, hK _ ?_⟩); (first | exact rfl | exact ⟨rfl, rfl⟩); clear hK K))
  ((with_reducible refine wpRead_step (fun K hK => ?_)); go_simp; first | ((with_reducible refine hK _ ?_); clear hK K) | (apply Exists.intro; (with_reducible refine ⟨fun w' hw' => ?_, hK _ ?_⟩); (obtain ⟨f0, f1⟩ := BxP.cells hw'; dsimp only at f0 f1; go_simp; first | exact rfl | exact ⟨rfl, rfl⟩); clear hK K))
  ((with_reducible refine wpRead_step (fun K hK => ?_)); go_simp; first | ((with_reducible refine hK _ ?_); clear hK K) | (apply Exists.intro; (with_reducible refine ⟨fun w' hw' => ?_, hK _ ?_⟩); (first | exact rfl | exact ⟨rfl, rfl⟩); clear hK K))
  ((with_reducible refine wpRead_step (fun K hK => ?_)); go_simp; first | ((with_reducible refine hK _ ?_); clear hK K) | (apply Exists.intro; (with_reducible refine ⟨fun w' hw' => ?_, hK _ ?_⟩); (first | exact rfl | exact ⟨rfl, rfl⟩); clear hK K))
  ((with_reducible refine wpRead_step (fun K hK => ?_)); go_simp; first | ((with_reducible refine hK _ ?_); clear hK K) | (apply Exists.intro; (with_reducible refine ⟨fun w' hw' => ?_, hK _ ?_⟩); (first | exact rfl | exact ⟨rfl, rfl⟩); clear hK K))
  with_reducible refine wpRead_nil ?_
  clear hr1 hr2 hq1 hq2 hw1
  refine held_one 3 (by kernel_rfl) ?_
  simp only [pick, List.getD_cons_zero, List.getD_cons_succ]
  have hal := (Below.refl W2.heap.size W2).alloc (Nat.le_refl _) (.cells #[.int .u8 (m : Int)] 5)
  have hone : RB.Own (W2.alloc (.cells #[.int .u8 (m : Int)] 5)) (w.heap.size + 1) (.slice (some ⟨W2.heap.size, 0, none⟩) 1 1) [m] := ⟨rfl, .inr ⟨W2.heap.size, 1, _, rfl, lt_of_blk F3.out.2.1, hnew _ _, Nat.le_refl _, by unfold maxLen; omega, rfl, rfl⟩⟩
  have F4 := Lib.hid (And.intro (bcall F3.out.1 (Nat.le_refl _) hal) (And.intro (F3.out.2.1.keep hal) (And.intro (FS.out.1.keep hal) (And.intro hone FS.out.2))))
  clear hal hone
  go_wp2_with fail
  refine ⟨F4.out.2.1, ?_⟩
  generalize W2.alloc (.cells #[.int .u8 (m : Int)] 5) = W3 at *
  generalize W2.heap.size = q1 at *
  clear FS
  refine held_one 10 (by kernel_rfl) ?_
  simp only [pick, List.getD_cons_zero, List.getD_cons_succ]
  go_wp2_with (at_builtin; refine halt ?_)
  refine Halted.go ?_
  refine Rep.append_list T27 rfl _ _ rfl rfl F4.out.2.2.2.1 rfl F4.out.2.2.1 F4.out.2.2.2.2 (by unfold maxLen; simp; omega) (by simp; omega) (lt_of_blk F4.out.2.1) ?_
  intro v5 W5 hown5 hb5 _
  have hb6 := F4.out.1.trans (hb5.mono (Nat.le_succ _))
  have F6 := Lib.hid (And.intro hb6 (And.intro (show BxP w.heap.size ((a, (m : Int)) : PK) W5 from (hb5.block _ (Nat.lt_succ_self _)).trans F4.out.2.1) (hown5.mono (Nat.le_succ _))))
  clear hown5 hb5 hb6 F4
  go_wp2_with fail
  refine ⟨F6.out.2.1, ?_⟩
  refine held_one 11 (by kernel_rfl) ?_
  simp only [pick, List.getD_cons_zero, List.getD_cons_succ]
  go_wp2_with fail
  refine ⟨F6.out.2.1, ?_⟩
  refine wpAnyH_done (by kernel_rfl) ?_ _
  go_wp2_with fail
  go_ret
  exact ⟨_, rfl, by rw [HPB.out]; exact F6.out.2.2, F6.out.1⟩
def okN (paths : Bool) (n : Nl) : Bool := decide (0 ≤ n.id) && decide (n.id ≤ 4294967295) && (paths || decide (n.id = 0)) && okP n.a n.ln
def nb (paths : Bool) (n : Nl) : List Nat := (if paths then be 4 n.id.toNat else []) ++ pb n.a n.ln.toNat
theorem okN_iff {paths : Bool} {n : Nl} : okN paths n = true ↔ (0 ≤ n.id ∧ n.id ≤ 4294967295 ∧ (paths = true ∨ n.id = 0)) ∧ okP n.a n.ln = true := by
  unfold okN
  simp [and_assoc]
def BxN (q : Nat) (n : Nl) (W : World) : Prop := W.heap[q]? = some (.cells #[.int .i64 n.id, .int .u32 (n.a : Int), .int .i64 n.ln] 60)
theorem BxN.cells {q : Nat} {n : Nl} {W : World} (h : BxN q n W) : W.cell? ⟨q, 0, none⟩ = some (.int .i64 n.id) ∧ W.cell? ⟨q, 1, none⟩ = some (.int .u32 (n.a : Int)) ∧ W.cell? ⟨q, 2, none⟩ = some (.int .i64 n.ln) := ⟨cell_of h rfl, cell_of h rfl, cell_of h rfl⟩
theorem BxN.keep {q : Nat} {n : Nl} {W W' : World} (h : BxN q n W) (hb : Below W.heap.size W W') : BxN q n W' := (hb.block _ (lt_of_blk h)).trans h
set_option maxRecDepth 100000 in
theorem odd_any (paths : Bool) (n : Nl) (ha : n.a < 4294967296) (w : World) : Calls Tryz.prog 152 #[n.v, .bool paths] w fun e w' => e = .returned (.bool (!okN paths n)) ∧ Below w.heap.size w w' := by
  have HK := Lib.hid (check_any n.a n.ln ha)
  have hcase : (n.id < 0 ∧ okN paths n = false) ∨ (¬ n.id < 0 ∧ (if paths then (4294967295 : Int) else 0) < n.id ∧ okN paths n = false) ∨ (¬ n.id < 0 ∧ ¬ (if paths then (4294967295 : Int) else 0) < n.id ∧ okN paths n = okP n.a n.ln) := by
    by_cases h1 : n.id < 0
    · exact .inl ⟨h1, by unfold okN; simp; omega⟩
    · by_cases h2 : (if paths then (4294967295 : Int) else 0) < n.id
      · refine .inr (.inl ⟨h1, h2, ?_⟩)
        rw [Bool.eq_false_iff, Ne, okN_iff]
        cases paths <;> simp at h2 ⊢ <;> intros <;> omega
      · refine .inr (.inr ⟨h1, h2, ?_⟩)
        have h3 : (0 ≤ n.id ∧ n.id ≤ 4294967295 ∧ (paths = true ∨ n.id = 0)) := by
          cases paths <;> simp at h2 ⊢ <;> omega
        rw [Bool.eq_iff_iff, okN_iff]
        exact ⟨fun h => h.2, fun h => ⟨h3, h⟩⟩
  have hal := (Below.refl w.heap.size w).alloc (Nat.le_refl _) (.cells #[.int .i64 n.id, .int .u32 (n.a : Int), .int .i64 n.ln] 60)
  have hx : BxN w.heap.size n (w.alloc (.cells #[.int .i64 n.id, .int .u32 (n.a : Int), .int .i64 n.ln] 60)) := hnew _ _
  have F0 := Lib.hid (And.intro hal hx)
  obtain ⟨c0, c1, c2⟩ := hx.cells
  unfold Nl.v
  generalize okN paths n = v at *
  unfold pfx at HK
  clear hal hx
  rcases hcase with ⟨h1, rfl⟩ | ⟨h1, h2, rfl⟩ | ⟨h1, h2, rfl⟩
  · have e1 : (n.id < 0) = True := eq_true h1
    clear h1
    cases paths <;>
    · go_enter Tryz.func152, Tryz.ntmps152
      go_wp2_with fail
      go_ret
      exact ⟨rfl, F0.out.1⟩
  · have e1 : (n.id < 0) = False := eq_false h1
    clear h1
    cases paths
    all_goals
      have e2 := eq_true h2
      simp only [Bool.false_eq_true, if_false, if_true] at e2
      clear h2
      go_enter Tryz.func152, Tryz.ntmps152
      go_wp2_with fail
      go_ret
      exact ⟨rfl, F0.out.1⟩
  · have e1 : (n.id < 0) = False := eq_false h1
    clear h1
    generalize okP n.a n.ln = o at *
    cases paths
    all_goals
      have e2 := eq_false h2
      simp only [Bool.false_eq_true, if_false, if_true] at e2
      clear h2
      go_enter Tryz.func152, Tryz.ntmps152
      go_wp2_with fail
      refine (HK.out _).mono ?_
      rintro e w1 ⟨rfl, hb⟩
      have HB := Lib.hid (bcall F0.out.1 (by simp) hb)
      clear hb c0 c1 c2 F0
      cases o
      all_goals
        go_wp2_with fail
        go_ret
        exact ⟨rfl, HB.out⟩
set_option maxRecDepth 100000 in
theorem one_any (paths : Bool) (n : Nl) (ha : n.a < 4294967296) (w : World) : Calls Tryz.prog 90 #[n.v, .bool paths] w fun e w' => e = .returned (.bool (okN paths n)) ∧ Below w.heap.size w w' := by
  have HK := Lib.hid (rcheck_any n.a n.ln ha)
  have hcase : (¬ 0 ≤ n.id ∧ okN paths n = false) ∨ (0 ≤ n.id ∧ ¬ n.id ≤ 4294967295 ∧ okN paths n = false) ∨ (0 ≤ n.id ∧ n.id ≤ 4294967295 ∧ paths = false ∧ (n.id == 0) = false ∧ okN paths n = false) ∨ (0 ≤ n.id ∧ n.id ≤ 4294967295 ∧ paths = false ∧ (n.id == 0) = true ∧ okN paths n = okP n.a n.ln) ∨ (0 ≤ n.id ∧ n.id ≤ 4294967295 ∧ paths = true ∧ okN paths n = okP n.a n.ln) := by
    unfold okN
    by_cases h1 : 0 ≤ n.id <;> by_cases h2 : n.id ≤ 4294967295 <;> by_cases h3 : n.id = 0 <;> cases paths <;> simp [h1, h2, h3] <;> omega
  have hal := (Below.refl w.heap.size w).alloc (Nat.le_refl _) (.cells #[.int .i64 n.id, .int .u32 (n.a : Int), .int .i64 n.ln] 60)
  have hx : BxN w.heap.size n (w.alloc (.cells #[.int .i64 n.id, .int .u32 (n.a : Int), .int .i64 n.ln] 60)) := hnew _ _
  have F0 := Lib.hid (And.intro hal hx)
  obtain ⟨c0, c1, c2⟩ := hx.cells
  unfold Nl.v
  generalize okN paths n = v at *
  unfold pfx at HK
  clear hal hx
  rcases hcase with ⟨h1, rfl⟩ | ⟨h1, h2, rfl⟩ | ⟨h1, h2, rfl, h3, rfl⟩ | ⟨h1, h2, rfl, h3, rfl⟩ | ⟨h1, h2, rfl, rfl⟩
  · have e1 : (0 ≤ n.id) = False := eq_false h1
    clear h1
    cases paths <;>
    · go_enter Tryz.func90, Tryz.ntmps90
      go_wp2_with fail
      go_ret
      exact ⟨rfl, F0.out.1⟩
  · have e1 : (0 ≤ n.id) = True := eq_true h1
    have e2 : (n.id ≤ 4294967295) = False := eq_false h2
    clear h1 h2
    cases paths <;>
    · go_enter Tryz.func90, Tryz.ntmps90
      go_wp2_with fail
      go_ret
      exact ⟨rfl, F0.out.1⟩
  all_goals
    have e1 : (0 ≤ n.id) = True := eq_true h1
    have e2 : (n.id ≤ 4294967295) = True := eq_true h2
    clear h1 h2
  · go_enter Tryz.func90, Tryz.ntmps90
    go_wp2_with fail
    go_ret
    exact ⟨rfl, F0.out.1⟩
  all_goals
    generalize okP n.a n.ln = o at *
    go_enter Tryz.func90, Tryz.ntmps90
    go_wp2_with fail
    refine (HK.out _).mono ?_
    rintro e w1 ⟨rfl, hb⟩
    have HB := Lib.hid (bcall F0.out.1 (by simp) hb)
    clear hb c0 c1 c2 F0
    go_wp2_with fail
    go_ret
    exact ⟨rfl, HB.out⟩
end Go.Proofs.YtadoflcomienoaaGreat
/- The bytes of one that may be told; Check. -/
namespace Go.Proofs.YtadoflcomienoaaGreat
open Go.RowKit

set_option maxRecDepth 100000 in
set_option maxHeartbeats 1000000 in
theorem nbytes_at (paths : Bool) (i a m : Nat) (hi : i < 4294967296) (ha : a < 4294967296) (hok : okP a m = true) (w : World) : Calls Tryz.prog 153 #[.agg #[.int .i64 i, .int .u32 (a : Int), .int .i64 m], .bool paths] w fun e w' => ∃ v, e = .returned v ∧ RB.Own w' w.heap.size v ((if paths then be 4 (i : Int).toNat else []) ++ pb a (m : Int).toNat) ∧ Below w.heap.size w w' := by
  have hm : m ≤ 32 := by have := (okP_iff.1 hok).2.1; omega
  have HP := Lib.hid (put4_any i hi)
  have HA := Lib.hid (aput_any a m ha hok)
  have HL := Lib.hid (show (pb a m).length ≤ 5 by rw [pb_len hm]; have := szB_le hm; omega)
  rw [Int.toNat_natCast, Int.toNat_natCast]
  generalize pb a m = PBL at *
  have hal := (Below.refl w.heap.size w).alloc (Nat.le_refl _) (.cells #[.int .i64 i, .int .u32 (a : Int), .int .i64 m] 60)
  have hx : BxN w.heap.size ⟨i, a, m⟩ (w.alloc (.cells #[.int .i64 i, .int .u32 (a : Int), .int .i64 m] 60)) := hnew _ _
  have F0 := Lib.hid (And.intro hal hx)
  obtain ⟨c0, c1, c2⟩ := hx.cells
  dsimp only at c0 c1 c2
  unfold pfx at HA
  clear hal hx hok
  cases paths with
  | false =>
    simp only [Bool.false_eq_true, if_false, List.nil_append]
    go_enter Tryz.func153, Tryz.ntmps153
    go_wp2_with fail
    refine (HA.out _).mono ?_
    rintro e w1 ⟨v1, rfl, hown, hb⟩
    have hb1 := bcall F0.out.1 (by simp) hb
    obtain ⟨oa, c, rfl, hs, hn⟩ := hown.sl0
    have F1 := Lib.hid (And.intro hb1 (And.intro hs hn))
    have hL := HL.out
    obtain ⟨ll, hll⟩ : ∃ ll, PBL.length = ll := ⟨_, rfl⟩
    rw [hll] at F1 hL ⊢
    clear hb hown hb1 c0 c1 c2 F0 hs hll
    go_wp2_with (at_builtin; refine halt ?_)
    refine Halted.go ?_
    refine Rep.append_list T27 rfl _ _ rfl rfl (Rep.Own.nil _ _) (L := []) (M := PBL) rfl F1.out.2.1 F1.out.2.2 (by unfold maxLen; simp; omega) (by simp; omega) F1.out.1.size ?_
    intro v2 w2 hown2 hb2 _
    have F2 := Lib.hid (And.intro hown2 (F1.out.1.trans hb2))
    clear hown2 hb2 F1
    go_wp2_with fail
    go_ret
    exact ⟨_, rfl, F2.out.1, F2.out.2⟩
  | true =>
    simp only [if_true]
    go_enter Tryz.func153, Tryz.ntmps153
    go_wp2_with fail
    refine (HP.out _).mono ?_
    rintro e w1 ⟨v1, rfl, hown, hb⟩
    have F1 := Lib.hid (And.intro (bcall F0.out.1 (by simp) hb) (And.intro (F0.out.2.keep hb) (hown.mono (show w.heap.size ≤ _ by simp))))
    clear hb c0 c1 c2 F0 hown
    obtain ⟨c0, c1, c2⟩ := F1.out.2.1.cells
    dsimp only at c0 c1 c2
    go_wp2_with fail
    refine (HA.out _).mono ?_
    rintro e w2 ⟨v2, rfl, hown, hb⟩
    have hb1 := bcall F1.out.1 (Nat.le_refl _) hb
    obtain ⟨oa, c, rfl, hs, hn⟩ := hown.sl0
    have F2 := Lib.hid (And.intro hb1 (And.intro hs (And.intro hn (F1.out.2.2.below hb))))
    have hL := HL.out
    obtain ⟨ll, hll⟩ : ∃ ll, PBL.length = ll := ⟨_, rfl⟩
    rw [hll] at F2 hL ⊢
    clear hb hown hb1 c0 c1 c2 F1 hs hll
    go_wp2_with (at_builtin; refine halt ?_)
    refine Halted.go ?_
    refine Rep.append_list T27 rfl _ _ rfl rfl F2.out.2.2.2 (M := PBL) rfl F2.out.2.1 F2.out.2.2.1 (by rw [be_length]; unfold maxLen; omega) (by rw [be_length]; omega) F2.out.1.size ?_
    intro v3 w3 hown3 hb3 _
    have F3 := Lib.hid (And.intro hown3 (F2.out.1.trans hb3))
    clear hown3 hb3 F2
    go_wp2_with fail
    go_ret
    exact ⟨_, rfl, F3.out.1, F3.out.2⟩
set_option maxRecDepth 100000 in
set_option maxHeartbeats 1000000 in
theorem rnbytes_at (paths : Bool) (i a m : Nat) (hi : i < 4294967296) (ha : a < 4294967296) (hok : okP a m = true) (w : World) : Calls Tryz.prog 146 #[.agg #[.int .i64 i, .int .u32 (a : Int), .int .i64 m], .bool paths] w fun e w' => ∃ v, e = .returned v ∧ RB.Own w' w.heap.size v ((if paths then be 4 (i : Int).toNat else []) ++ pb a (m : Int).toNat) ∧ Below w.heap.size w w' := by
  have hm : m ≤ 32 := by have := (okP_iff.1 hok).2.1; omega
  have HP := Lib.hid (rput4_any i hi)
  have HA := Lib.hid (rpput_any a m ha hm)
  have HL := Lib.hid (show (pb a m).length ≤ 5 by rw [pb_len hm]; have := szB_le hm; omega)
  rw [Int.toNat_natCast, Int.toNat_natCast]
  generalize pb a m = PBL at *
  have hal := (Below.refl w.heap.size w).alloc (Nat.le_refl _) (.cells #[.int .i64 i, .int .u32 (a : Int), .int .i64 m] 60)
  have hx : BxN w.heap.size ⟨i, a, m⟩ (w.alloc (.cells #[.int .i64 i, .int .u32 (a : Int), .int .i64 m] 60)) := hnew _ _
  have F0 := Lib.hid (And.intro hal hx)
  obtain ⟨c0, c1, c2⟩ := hx.cells
  dsimp only at c0 c1 c2
  unfold pfx at HA
  clear hal hx hok
  cases paths with
  | false =>
    simp only [Bool.false_eq_true, if_false, List.nil_append]
    go_enter Tryz.func146, Tryz.ntmps146
    go_wp2_with fail
    refine (HA.out _).mono ?_
    rintro e w1 ⟨v1, rfl, hown, hb⟩
    have hb1 := bcall F0.out.1 (by simp) hb
    obtain ⟨oa, c, rfl, hs, hn⟩ := hown.sl0
    have F1 := Lib.hid (And.intro hb1 (And.intro hs hn))
    have hL := HL.out
    obtain ⟨ll, hll⟩ : ∃ ll, PBL.length = ll := ⟨_, rfl⟩
    rw [hll] at F1 hL ⊢
    clear hb hown hb1 c0 c1 c2 F0 hs hll
    go_wp2_with (at_builtin; refine halt ?_)
    refine Halted.go ?_
    refine Rep.append_list T27 rfl _ _ rfl rfl (Rep.Own.nil _ _) (L := []) (M := PBL) rfl F1.out.2.1 F1.out.2.2 (by unfold maxLen; simp; omega) (by simp; omega) F1.out.1.size ?_
    intro v2 w2 hown2 hb2 _
    have F2 := Lib.hid (And.intro hown2 (F1.out.1.trans hb2))
    clear hown2 hb2 F1
    go_wp2_with fail
    go_ret
    exact ⟨_, rfl, F2.out.1, F2.out.2⟩
  | true =>
    simp only [if_true]
    go_enter Tryz.func146, Tryz.ntmps146
    go_wp2_with fail
    refine (HP.out _).mono ?_
    rintro e w1 ⟨v1, rfl, hown, hb⟩
    have F1 := Lib.hid (And.intro (bcall F0.out.1 (by simp) hb) (And.intro (F0.out.2.keep hb) (hown.mono (show w.heap.size ≤ _ by simp))))
    clear hb c0 c1 c2 F0 hown
    obtain ⟨c0, c1, c2⟩ := F1.out.2.1.cells
    dsimp only at c0 c1 c2
    go_wp2_with fail
    refine (HA.out _).mono ?_
    rintro e w2 ⟨v2, rfl, hown, hb⟩
    have hb1 := bcall F1.out.1 (Nat.le_refl _) hb
    obtain ⟨oa, c, rfl, hs, hn⟩ := hown.sl0
    have F2 := Lib.hid (And.intro hb1 (And.intro hs (And.intro hn (F1.out.2.2.below hb))))
    have hL := HL.out
    obtain ⟨ll, hll⟩ : ∃ ll, PBL.length = ll := ⟨_, rfl⟩
    rw [hll] at F2 hL ⊢
    clear hb hown hb1 c0 c1 c2 F1 hs hll
    go_wp2_with (at_builtin; refine halt ?_)
    refine Halted.go ?_
    refine Rep.append_list T27 rfl _ _ rfl rfl F2.out.2.2.2 (M := PBL) rfl F2.out.2.1 F2.out.2.2.1 (by rw [be_length]; unfold maxLen; omega) (by rw [be_length]; omega) F2.out.1.size ?_
    intro v3 w3 hown3 hb3 _
    have F3 := Lib.hid (And.intro hown3 (F2.out.1.trans hb3))
    clear hown3 hb3 F2
    go_wp2_with fail
    go_ret
    exact ⟨_, rfl, F3.out.1, F3.out.2⟩
theorem okN_nat {paths : Bool} {n : Nl} (h : okN paths n = true) : ∃ i m : Nat, n.id = i ∧ n.ln = m ∧ i < 4294967296 ∧ m ≤ 32 ∧ okP n.a m = true := by
  obtain ⟨⟨h1, h2, _⟩, h3⟩ := okN_iff.1 h
  obtain ⟨k0, k1, k2⟩ := okP_iff.1 h3
  obtain ⟨i, hi⟩ := Int.eq_ofNat_of_zero_le h1
  obtain ⟨m, hm⟩ := Int.eq_ofNat_of_zero_le k0
  refine ⟨i, m, hi, hm, by omega, by omega, ?_⟩
  rw [hm] at h3
  exact h3
theorem nbytes_any (paths : Bool) {n : Nl} (ha : n.a < 4294967296) (hok : okN paths n = true) (w : World) : Calls Tryz.prog 153 #[n.v, .bool paths] w fun e w' => ∃ v, e = .returned v ∧ RB.Own w' w.heap.size v (nb paths n) ∧ Below w.heap.size w w' := by
  obtain ⟨i, m, h1, h2, h3, h4, h5⟩ := okN_nat hok
  have := nbytes_at paths i n.a m h3 ha h5 w
  unfold Nl.v nb
  rw [h1, h2]
  exact this
theorem rnbytes_any (paths : Bool) {n : Nl} (ha : n.a < 4294967296) (hok : okN paths n = true) (w : World) : Calls Tryz.prog 146 #[n.v, .bool paths] w fun e w' => ∃ v, e = .returned v ∧ RB.Own w' w.heap.size v (nb paths n) ∧ Below w.heap.size w w' := by
  obtain ⟨i, m, h1, h2, h3, h4, h5⟩ := okN_nat hok
  have := rnbytes_at paths i n.a m h3 ha h5 w
  unfold Nl.v nb
  rw [h1, h2]
  exact this
theorem nb_len (paths : Bool) {n : Nl} (hok : okN paths n = true) : (nb paths n).length ≤ 9 := by
  obtain ⟨i, m, h1, h2, h3, h4, h5⟩ := okN_nat hok
  have := pb_len (a := n.a) h4
  have h6 := szB_le h4
  unfold nb
  rw [h1, h2, List.length_append, Int.toNat_natCast, Int.toNat_natCast, this]
  cases paths <;> simp [be_length] <;> omega
set_option maxRecDepth 100000 in
theorem nsize_any (paths : Bool) (n : Nl) (ha : n.a < 4294967296) (w : World) : Calls Tryz.prog 122 #[n.v, .bool paths] w fun e w' => e = .returned (.int .i64 (if okN paths n then (nb paths n).length else 0 : Nat)) ∧ Below w.heap.size w w' := by
  have HO := Lib.hid (odd_any paths n ha)
  have HB := Lib.hid (nbytes_any paths ha (n := n))
  have hal := (Below.refl w.heap.size w).alloc (Nat.le_refl _) (.cells #[.int .i64 n.id, .int .u32 (n.a : Int), .int .i64 n.ln] 60)
  have hx : BxN w.heap.size n (w.alloc (.cells #[.int .i64 n.id, .int .u32 (n.a : Int), .int .i64 n.ln] 60)) := hnew _ _
  have F0 := Lib.hid (And.intro hal hx)
  obtain ⟨c0, c1, c2⟩ := hx.cells
  obtain ⟨o, ho⟩ : ∃ o, okN paths n = o := ⟨_, rfl⟩
  rw [ho] at HO HB ⊢
  obtain ⟨N, hN⟩ : ∃ N, nb paths n = N := ⟨_, rfl⟩
  rw [hN] at HB ⊢
  unfold Nl.v at *
  clear hal hx ho hN
  go_enter Tryz.func122, Tryz.ntmps122
  go_wp2_with fail
  refine (HO.out _).mono ?_
  rintro e w1 ⟨rfl, hb⟩
  have F1 := Lib.hid (And.intro (bcall F0.out.1 (by simp) hb) (F0.out.2.keep hb))
  clear hb c0 c1 c2 F0
  obtain ⟨c0, c1, c2⟩ := F1.out.2.cells
  cases o with
  | false =>
    go_wp2_with fail
    go_ret
    exact ⟨rfl, F1.out.1⟩
  | true =>
    go_wp2_with fail
    refine (HB.out (by first | exact rfl | trivial) _).mono ?_
    rintro e w2 ⟨v, rfl, hown, hb⟩
    obtain ⟨oa, c, rfl, -⟩ := bs_own hown
    have F2 := Lib.hid (bcall F1.out.1 (Nat.le_refl _) hb)
    clear hb hown c0 c1 c2 F1
    go_wp2_with fail
    go_ret
    exact ⟨rfl, F2.out⟩
end Go.Proofs.YtadoflcomienoaaGreat
/- Check. -/
namespace Go.Proofs.YtadoflcomienoaaGreat
open Go.RowKit

/-- a slice of such -/
structure Nls (w : World) (oa : Option Addr) (n c : Nat) (L : List Nl) : Prop where
  sl : RNl.Sl w oa n c L
  ad : ∀ x ∈ L, x.a < 4294967296
  nil : oa = none → c = 0
  le : n ≤ c
  cap : c ≤ maxLen
theorem Nls.keep {w w' : World} {oa : Option Addr} {n c : Nat} {L : List Nl} (h : Nls w oa n c L) (hb : Below w.heap.size w w') : Nls w' oa n c L := ⟨h.sl.keep hb, h.ad, h.nil, h.le, h.cap⟩
def okL (paths : Bool) (L : List Nl) : Bool := decide (L.length ≤ 1024) && L.all (okN paths)
theorem all_take_s {α : Type} [Inhabited α] (l : List α) (p : α → Bool) (i : Nat) (h : i < l.length) : (l.take (i + 1)).all p = ((l.take i).all p && p (l.getD i default)) := by
  rw [List.take_succ_eq_append_getElem h, List.all_append]
  simp [List.getD_eq_getElem?_getD, h]
def BxB (q : Nat) (b : Bool) (W : World) : Prop := W.heap[q]? = some (.cells #[.bool b] 4)
theorem BxB.cell {q : Nat} {b : Bool} {W : World} (h : BxB q b W) : W.cell? ⟨q, 0, none⟩ = some (.bool b) := cell_of h rfl
theorem BxB.keep {q : Nat} {b : Bool} {W W' : World} (h : BxB q b W) (hb : Below W.heap.size W W') : BxB q b W' := (hb.block _ (lt_of_blk h)).trans h
theorem clo_any {q : Nat} {paths : Bool} {w : World} (hq : BxB q paths w) (n : Nl) (ha : n.a < 4294967296) : Calls Tryz.prog 214 #[n.v, .pointer (some ⟨q, 0, none⟩)] w fun e w' => e = .returned (.bool (!okN paths n)) ∧ Below w.heap.size w w' := by
  have HO := Lib.hid (odd_any paths n ha)
  have hal := (Below.refl w.heap.size w).alloc (Nat.le_refl _) (.cells #[.int .i64 n.id, .int .u32 (n.a : Int), .int .i64 n.ln] 60)
  have hx : BxN w.heap.size n (w.alloc (.cells #[.int .i64 n.id, .int .u32 (n.a : Int), .int .i64 n.ln] 60)) := hnew _ _
  have F0 := Lib.hid hal
  obtain ⟨c0, c1, c2⟩ := hx.cells
  have c3 := (hq.keep hal).cell
  generalize okN paths n = o at *
  unfold Nl.v at *
  clear hal hx hq
  go_enter Tryz.func214, Tryz.ntmps214
  go_wp2_with fail
  refine (HO.out _).mono ?_
  rintro e w1 ⟨rfl, hb⟩
  have F1 := Lib.hid (bcall F0.out (by simp) hb)
  clear hb c0 c1 c2 c3 F0
  go_wp2_with fail
  go_ret
  exact ⟨rfl, F1.out⟩
set_option maxRecDepth 100000 in
set_option maxHeartbeats 1000000 in
theorem nindex_any {w : World} {oa : Option Addr} {n c : Nat} {L : List Nl} (h : Nls w oa n c L) {q : Nat} {paths : Bool} (hq : BxB q paths w) : Calls Tryz.prog 154 #[.slice oa n c, .func (.func 214) #[] #[.pointer (some ⟨q, 0, none⟩)]] w fun e w' => (∃ k : Int, e = .returned (.int .i64 k) ∧ decide (0 ≤ k) = !(L.all (okN paths))) ∧ Below w.heap.size w w' := by
  have HL := Lib.hid h.sl.len
  have F := Lib.hid (And.intro h hq)
  have hmax := h.sl.max
  clear h hq
  go_enter Tryz.func154, Tryz.ntmps154
  go_wp2_with fail
  go_loopw [8] (fun iv wr => ∃ i : Nat, i ≤ n ∧ iv = .int .i64 i ∧ (L.take i).all (okN paths) = true ∧ Below w.heap.size w wr) (fun iv _ => n - (intOf iv).toNat)
  case atStart => exact ⟨0, Nat.zero_le _, rfl, rfl, Below.refl _ _⟩
  case round =>
    obtain ⟨i, hi, rfl, hall, hb⟩ := hrel
    obtain ⟨w2, rfl⟩ : ∃ w2 : World, w2 = wr := ⟨_, rfl⟩
    by_cases hlt : i < n
    · have hil : ((i : Int) < (n : Int)) = True := by simp; omega
      have hw3 := wrapS hlt hmax
      have hlen : L.length = n := HL.out.symm
      obtain ⟨b0, o0, rfl, hbb, hat⟩ := (F.out.1.keep hb).sl.at hlt
      have c0 := hat 0 (by decide)
      have c1 := hat 1 (by decide)
      have c2 := hat 2 (by decide)
      simp only [RNl, Nat.add_zero, List.getElem?_cons_zero, List.getElem?_cons_succ] at c0 c1 c2
      have t1 := all_take_s L (okN paths) i (by omega)
      rw [hall, Bool.true_and] at t1
      have hmem : L.getD i default ∈ L := getD_mem (by omega)
      have hox := clo_any (F.out.2.keep hb) (L.getD i default) (F.out.1.ad _ hmem)
      generalize L.getD i default = y at *
      obtain ⟨bo, hbo⟩ : ∃ bo, okN paths y = bo := ⟨_, rfl⟩
      rw [hbo] at hox t1
      unfold Nl.v at hox
      have HX := Lib.hid hox
      have HB := Lib.hid hb
      have HT := Lib.hid (And.intro t1 (And.intro hmem hbo))
      clear hox hb hat hlen t1 hmem hall hbo
      go_wp2_with fail
      refine (HX.out).mono ?_
      rintro e W3 ⟨rfl, hb3⟩
      have HB3 := Lib.hid (bcall HB.out (Nat.le_refl _) hb3)
      clear hb3 HB c0 c1 c2 HX
      cases bo with
      | true =>
        rw [Bool.not_true]
        go_wp2_with fail
        exact ⟨⟨i + 1, hlt, by first | rw [hw3] | rw [Int.natCast_succ], HT.out.1, HB3.out⟩, by first | (rw [hw3]; exact mSucc hlt) | (rw [← Int.natCast_succ]; exact mSucc hlt)⟩
      | false =>
        rw [Bool.not_false]
        go_wp2_with fail
        go_ret
        have hno : L.all (okN paths) = false := by
          rw [List.all_eq_false]
          exact ⟨_, HT.out.2.1, by simp [HT.out.2.2]⟩
        exact ⟨⟨_, rfl, by rw [hno]; simp⟩, HB3.out⟩
    · obtain rfl : n = i := by omega
      have hil : ((n : Int) < (n : Int)) = False := by simp
      have HB := Lib.hid hb
      have HA := Lib.hid (show L.all (okN paths) = true from by
        have := hall
        rwa [HL.out, List.take_length] at this)
      clear hb hall
      go_wp2_with fail
      go_ret
      exact ⟨⟨_, rfl, by rw [HA.out]; rfl⟩, HB.out⟩
set_option maxRecDepth 100000 in
theorem ncontains_any {w : World} {oa : Option Addr} {n c : Nat} {L : List Nl} (h : Nls w oa n c L) {q : Nat} {paths : Bool} (hq : BxB q paths w) : Calls Tryz.prog 123 #[.slice oa n c, .func (.func 214) #[] #[.pointer (some ⟨q, 0, none⟩)]] w fun e w' => e = .returned (.bool (!(L.all (okN paths)))) ∧ Below w.heap.size w w' := by
  have HK := Lib.hid (nindex_any h hq)
  clear h hq
  go_enter Tryz.func123, Tryz.ntmps123
  go_wp2_with fail
  refine (HK.out).mono ?_
  rintro e w1 ⟨⟨k, rfl, hk⟩, hb⟩
  have HB := Lib.hid (And.intro hk hb)
  clear hk hb
  go_wp2_with fail
  go_ret
  exact ⟨ret_bool (by rw [← HB.out.1]), HB.out.2⟩
set_option maxRecDepth 100000 in
theorem ncheck_any {w : World} {oa : Option Addr} {n c : Nat} {L : List Nl} (h : Nls w oa n c L) (paths : Bool) : Calls Tryz.prog 206 #[.slice oa n c, .bool paths] w fun e w' => e = .returned (.int .i64 (if okL paths L then 0 else 60)) ∧ Below w.heap.size w w' := by
  have hal := (Below.refl w.heap.size w).alloc (Nat.le_refl _) (.cells #[.bool paths] 4)
  have hq : BxB w.heap.size paths (w.alloc (.cells #[.bool paths] 4)) := hnew _ _
  have HK := Lib.hid (ncontains_any (h.keep hal) hq)
  have HL := Lib.hid h.sl.len
  have HB := Lib.hid hal
  have hcase : (((1024 : Int) < (n : Int)) = True ∧ okL paths L = false) ∨ (((1024 : Int) < (n : Int)) = False ∧ L.all (okN paths) = false ∧ okL paths L = false) ∨ (((1024 : Int) < (n : Int)) = False ∧ L.all (okN paths) = true ∧ okL paths L = true) := by
    have hl := h.sl.len
    unfold okL
    rw [← hl]
    by_cases h1 : (1024 : Int) < n
    · exact .inl ⟨eq_true h1, by simp; omega⟩
    · cases h2 : L.all (okN paths) with
      | false => exact .inr (.inl ⟨eq_false h1, rfl, by simp⟩)
      | true => exact .inr (.inr ⟨eq_false h1, rfl, by simp; omega⟩)
  clear h hal hq
  generalize okL paths L = o at *
  generalize L.all (okN paths) = al at *
  rcases hcase with ⟨h1, rfl⟩ | ⟨h1, rfl, rfl⟩ | ⟨h1, rfl, rfl⟩
  · go_enter Tryz.func206, Tryz.ntmps206
    go_wp2_with fail
    go_ret
    exact ⟨rfl, HB.out⟩
  all_goals
    go_enter Tryz.func206, Tryz.ntmps206
    go_wp2_with fail
    refine (HK.out).mono ?_
    rintro e w1 ⟨rfl, hb⟩
    have HB2 := Lib.hid (bcall HB.out (by simp) hb)
    clear hb
    go_wp2_with fail
    go_ret
    exact ⟨rfl, HB2.out⟩
set_option maxRecDepth 100000 in
set_option maxHeartbeats 1000000 in
theorem rncheck_any {w : World} {oa : Option Addr} {n c : Nat} {L : List Nl} (h : Nls w oa n c L) (paths : Bool) : Calls Tryz.prog 62 #[.slice oa n c, .bool paths] w fun e w' => e = .returned (.bool (okL paths L)) ∧ Below w.heap.size w w' := by
  have HL := Lib.hid h.sl.len
  have F := Lib.hid h
  have hmax := h.sl.max
  clear h
  go_enter Tryz.func62, Tryz.ntmps62
  go_wp2_with fail
  go_loopw [5] (fun iv wr => ∃ i : Nat, i ≤ n ∧ iv = .int .i64 i ∧ (L.take i).all (okN paths) = true ∧ Below w.heap.size w wr) (fun iv _ => n - (intOf iv).toNat)
  case atStart => exact ⟨0, Nat.zero_le _, rfl, rfl, Below.refl _ _⟩
  case round =>
    obtain ⟨i, hi, rfl, hall, hb⟩ := hrel
    obtain ⟨w2, rfl⟩ : ∃ w2 : World, w2 = wr := ⟨_, rfl⟩
    by_cases hlt : i < n
    · have hil : ((i : Int) < (n : Int)) = True := by simp; omega
      have hw3 := wrapS hlt hmax
      have hlen : L.length = n := HL.out.symm
      obtain ⟨b0, o0, rfl, hbb, hat⟩ := (F.out.keep hb).sl.at hlt
      have c0 := hat 0 (by decide)
      have c1 := hat 1 (by decide)
      have c2 := hat 2 (by decide)
      simp only [RNl, Nat.add_zero, List.getElem?_cons_zero, List.getElem?_cons_succ] at c0 c1 c2
      have t1 := all_take_s L (okN paths) i (by omega)
      rw [hall, Bool.true_and] at t1
      have hmem : L.getD i default ∈ L := getD_mem (by omega)
      have hox := one_any paths (L.getD i default) (F.out.ad _ hmem) w2
      generalize L.getD i default = y at *
      obtain ⟨bo, hbo⟩ : ∃ bo, okN paths y = bo := ⟨_, rfl⟩
      rw [hbo] at hox t1
      unfold Nl.v at hox
      have HX := Lib.hid hox
      have HB := Lib.hid hb
      have HT := Lib.hid (And.intro t1 (And.intro hmem hbo))
      clear hox hb hat hlen t1 hmem hall hbo
      go_wp2_with fail
      refine (HX.out).mono ?_
      rintro e W3 ⟨rfl, hb3⟩
      have HB3 := Lib.hid (bcall HB.out (Nat.le_refl _) hb3)
      clear hb3 HB c0 c1 c2 HX
      cases bo with
      | true =>
        go_wp2_with fail
        exact ⟨⟨i + 1, hlt, by first | rw [hw3] | rw [Int.natCast_succ], HT.out.1, HB3.out⟩, by first | (rw [hw3]; exact mSucc hlt) | (rw [← Int.natCast_succ]; exact mSucc hlt)⟩
      | false =>
        go_wp2_with fail
        go_ret
        have hno : L.all (okN paths) = false := by
          rw [List.all_eq_false]
          exact ⟨_, HT.out.2.1, by simp [HT.out.2.2]⟩
        exact ⟨by unfold okL; rw [hno]; simp, HB3.out⟩
    · obtain rfl : n = i := by omega
      have hil : ((n : Int) < (n : Int)) = False := by simp
      have HB := Lib.hid hb
      have HA := Lib.hid (show L.all (okN paths) = true from by
        have := hall
        rwa [HL.out, List.take_length] at this)
      clear hb hall
      go_wp2_with fail
      go_ret
      exact ⟨by unfold okL; rw [HA.out, ← HL.out, Bool.and_true]; exact ret_bool (by rw [Bool.eq_iff_iff, decide_eq_true_eq, decide_eq_true_eq]; omega), HB.out⟩
end Go.Proofs.YtadoflcomienoaaGreat
