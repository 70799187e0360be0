/- Readers: numbers. -/
import Derived.Test.YtjjhnnnpikfjpaaNj
namespace Go.Proofs.Ytjjhnnnpikfjpaa
open Go.RowKit

theorem or_u32 (m z : Nat) (hm : m < 16777216) (hz : z < 256) : bits .or .u32 ((m : Int) * 256) (z : Int) = ((256 * m + z : Nat) : Int) := by
  unfold bits
  dsimp only
  have h1 : BitVec.ofInt IntKind.u32.bits ((m : Int) * 256) = BitVec.ofNat 32 (m * 256) := by
    show BitVec.ofInt 32 ((m : Int) * 256) = _
    rw [show ((m : Int) * 256) = ((m * 256 : Nat) : Int) by omega, BitVec.ofInt_natCast]
  have h2 : BitVec.ofInt IntKind.u32.bits (z : Int) = BitVec.ofNat 32 z := by show BitVec.ofInt 32 (z : Int) = _; rw [BitVec.ofInt_natCast]
  rw [h1, h2]
  have h3 : (BitVec.ofNat 32 (m * 256) ||| BitVec.ofNat 32 z).toNat = 256 * m + z := by
    rw [BitVec.toNat_or, BitVec.toNat_ofNat, BitVec.toNat_ofNat, Nat.mod_eq_of_lt (by omega), Nat.mod_eq_of_lt (by omega)]
    have h := Nat.shiftLeft_add_eq_or_of_lt (i := 8) (b := z) (by omega) m
    rw [Nat.shiftLeft_eq, show (2 : Nat) ^ 8 = 256 from rfl] at h
    omega
  have h4 : IntKind.u32.wrap ((BitVec.ofNat 32 (m * 256) ||| BitVec.ofNat 32 z).toNat : Int) = ((256 * m + z : Nat) : Int) := by
    rw [h3]
    show (((256 * m + z : Nat) : Int) % 4294967296) = _
    omega
  exact h4
set_option maxRecDepth 100000 in
set_option maxHeartbeats 400000 in
theorem get_any (oa : Option Addr) (n c : Nat) (l : List Nat) (w : World) (hs : RB.Sl w oa n c l) (hb : Bytes l) (h4 : n ≤ 4) : Calls Try.prog 57 #[.slice oa n c] w fun e w' => (∃ x, e = .returned (.tuple #[.int .i64 (getN l : Nat), x])) ∧ w' = w := by
  have HS := Lib.hid (And.intro hs hb)
  have hlen := hs.len
  have HL := Lib.hid hlen
  clear hs hb
  go_enter Try.func57, Try.ntmps57
  rcases Nat.eq_zero_or_pos n with h0 | h0
  · subst h0
    obtain rfl : l = [] := List.length_eq_zero_iff.1 hlen.symm
    clear hlen
    go_wp2_with fail
    go_ret2
    exact ⟨⟨_, rfl⟩, rfl⟩
  · have g1 : ((n : Int) < 1) = False := by simp; omega
    have g2 : ((4 : Int) < (n : Int)) = False := by simp; omega
    clear hlen
    go_wp2_with fail
    go_loop [4, 6, 17] (fun nv _ iv => ∃ k : Nat, k ≤ n ∧ iv = .int .i64 k ∧ nv = .int .u32 (getN (l.take k) : Nat)) (fun _ _ iv => n - (intOf iv).toNat)
    case atStart => exact ⟨0, Nat.zero_le _, rfl, rfl⟩
    case round =>
      obtain ⟨k, hk, rfl, rfl⟩ := hrel
      by_cases hlt : k < n
      · obtain ⟨b, o, rfl, hbl, hat⟩ := HS.out.1.at hlt
        have hc := hat 0 (by decide)
        have hg : getN (l.take (k + 1)) = 256 * getN (l.take k) + l.getD k default := by rw [take_snoc l k (by rw [← HL.out]; exact hlt), getN_snoc]
        have hby : l.getD k default < 256 := HS.out.2 _ (getD_mem (by rw [← HL.out]; exact hlt))
        have hlt2 : getN (l.take k) < 16777216 := by
          have h1 := getN_lt (l.take k) (fun x hx => HS.out.2 x (List.mem_of_mem_take hx))
          have h2 : (l.take k).length ≤ 3 := by rw [List.length_take]; omega
          have h3 : 256 ^ (l.take k).length ≤ 256 ^ 3 := Nat.pow_le_pow_right (by omega) h2
          omega
        generalize l.getD k default = z at *
        generalize getN (l.take k) = m at *
        simp only [RB, Nat.mul_one, Nat.add_zero, List.getElem?_cons_zero] at hc
        have hor := or_u32 m z hlt2 hby
        have HG := Lib.hid hg
        clear hg hat
        go_wp2_with fail
        exact ⟨⟨k + 1, hlt, by rw [Int.natCast_succ], by rw [HG.out]; first | rfl | (rw [hor]) | (congr 1)⟩, by rw [← Int.natCast_succ]; exact mSucc hlt⟩
      · have hf : ((k : Int) < n) = False := by simp; omega
        have hkn : l.take k = l := List.take_of_length_le (by have := HL.out; omega)
        have hlt2 : getN l < 4294967296 := by
          have h1 := getN_lt l HS.out.2
          have h2 : l.length ≤ 4 := by have := HL.out; omega
          have h3 : 256 ^ l.length ≤ 256 ^ 4 := Nat.pow_le_pow_right (by omega) h2
          omega
        rw [hkn]
        clear hkn
        go_wp2_with fail
        go_ret2
        exact ⟨⟨_, rfl⟩, rfl⟩
/-- blocks of bytes stay as they are -/
structure Keep5 (w w' : World) : Prop where
  size : w.heap.size ≤ w'.heap.size
  blk : ∀ (b : Nat) (cs : Array Value), w.heap[b]? = some (Obj.cells cs 5) → w'.heap[b]? = w.heap[b]?
theorem Keep5.of_below {w w' : World} (h : Below w.heap.size w w') : Keep5 w w' := ⟨h.size, fun b _ hb => h.block b (lt_of_blk hb)⟩
theorem Keep5.of_but {w w' : World} {g : Nat} {cs : Array Value} {T : TypeId} (h : But w w' [g]) (hg : w.heap[g]? = some (.cells cs T)) (hT : T ≠ 5) : Keep5 w w' :=
  ⟨h.size, fun b cs' hb => h.block b (lt_of_blk hb) (by
    intro hm
    obtain rfl : b = g := by simpa using hm
    rw [hg] at hb; injection hb with hb; injection hb with _ hb _; exact hT hb)⟩
theorem Keep5.of_set {w w' : World} {q : Nat} {cs : Array Value} {T : TypeId} {o : Obj} (h : SetB w w' q o) (hq : w.heap[q]? = some (.cells cs T)) (hT : T ≠ 5) : Keep5 w w' :=
  ⟨by rw [h.size]; exact Nat.le_refl _, fun b cs' hb => h.other (by
    rintro rfl
    rw [hq] at hb; injection hb with hb; injection hb with _ hb _; exact hT hb)⟩
theorem Keep5.trans {a b c : World} (h : Keep5 a b) (k : Keep5 b c) : Keep5 a c := ⟨Nat.le_trans h.size k.size, fun q cs hq => (k.blk q cs ((h.blk q cs hq).trans hq)).trans (h.blk q cs hq)⟩
/-- a slice that reads as bytes, out of a block of bytes -/
structure B5 (w : World) (oa : Option Addr) (n c : Nat) (l : List Nat) : Prop where
  bs : BS w oa n c l
  t5 : ∀ b o, oa = some ⟨b, o, none⟩ → ∃ cs : Array Value, w.heap[b]? = some (Obj.cells cs 5)
namespace B5
variable {w w' : World} {oa : Option Addr} {n c : Nat} {l : List Nat}
theorem sl (h : B5 w oa n c l) : RB.Sl w oa n c l := h.bs.sl
theorem nil (h : B5 w oa n c l) : oa = none → c = 0 := h.bs.nil
theorem le (h : B5 w oa n c l) : n ≤ c := h.bs.le
theorem cap (h : B5 w oa n c l) : c ≤ maxLen := h.bs.cap
theorem ad (h : B5 w oa n c l) : oa = none ∨ ∃ b o, oa = some ⟨b, o, none⟩ := h.bs.ad
theorem keep (h : B5 w oa n c l) (hb : Keep5 w w') : B5 w' oa n c l :=
  ⟨⟨⟨h.sl.len, h.sl.max, fun h0 => by
    obtain ⟨b, o, e, hr⟩ := h.sl.row h0
    obtain ⟨cs, hcs⟩ := h.t5 b o e
    exact ⟨b, o, e, Nat.lt_of_lt_of_le hr.lt hb.size, fun i hi => (hr.get i hi).keep (hb.blk b cs hcs)⟩⟩, h.nil, h.le, h.cap, h.ad⟩, fun b o e => by
    obtain ⟨cs, hcs⟩ := h.t5 b o e
    exact ⟨cs, (hb.blk b cs hcs).trans hcs⟩⟩
theorem below (h : B5 w oa n c l) (hb : Below w.heap.size w w') : B5 w' oa n c l := h.keep (.of_below hb)
end B5
theorem b5_own {w : World} {base : Nat} {v : Value} {l : List Nat} (h : RB.Own w base v l) : ∃ oa c, v = .slice oa l.length c ∧ B5 w oa l.length c l := by
  obtain ⟨oa, c, hv, hs⟩ := bs_own h
  refine ⟨oa, c, hv, hs, fun b o e => ?_⟩
  rcases h.2 with ⟨h2, _⟩ | ⟨g, cap, cur, hv2, _, hh, _⟩
  · rw [hv] at h2; injection h2 with h2; rw [e] at h2; cases h2
  · rw [hv] at hv2
    injection hv2 with hv2
    rw [e] at hv2
    injection hv2 with hv2
    injection hv2 with hv2
    subst hv2
    exact ⟨cur, hh⟩
/-- a reader at a block: what is left, and whether it is bad -/
structure RdAt (T : TypeId) (g : Nat) (l : List Nat) (bad : Bool) (w : World) : Prop where
  out : ∃ oa n c, w.heap[g]? = some (.cells #[.slice oa n c, .bool bad] T) ∧ B5 w oa n c l ∧ ∀ b o, oa = some ⟨b, o, none⟩ → b ≠ g
  bytes : Bytes l
  le : l.length ≤ 100000
  t5 : T ≠ 5
/-- the next n bytes -/
def rdB (n : Int) (l : List Nat) (bad : Bool) : List Nat × List Nat × Bool := if bad = true ∨ n < 0 ∨ (l.length : Int) < n then ([], l, true) else (l.take n.toNat, l.drop n.toNat, false)
theorem BS.tail {w : World} {b o n c : Nat} {l : List Nat} (h : BS w (some ⟨b, o, none⟩) n c l) {k : Nat} (hk : k ≤ n) : BS w (some ⟨b, o + k, none⟩) (n - k) (c - k) (l.drop k) := by
  refine ⟨⟨by rw [List.length_drop, ← h.sl.len], by have := h.sl.max; omega, fun h0 => ?_⟩, by simp, by have := h.le; omega, by have := h.cap; omega, .inr ⟨_, _, rfl⟩⟩
  obtain ⟨b', o', e, hr⟩ := h.sl.row (by omega)
  cases e
  refine ⟨b, o + k, rfl, hr.lt, fun i hi => ?_⟩
  rw [List.length_drop] at hi
  have := hr.get (k + i) (by omega)
  intro j hj
  have h2 := this j hj
  simp only [RB, Nat.mul_one] at h2 ⊢
  rw [show o + k + i + j = o + (k + i) + j by omega, h2]
  simp [List.getD_eq_getElem?_getD, List.getElem?_drop]
theorem BS.init {w : World} {oa : Option Addr} {n c : Nat} {l : List Nat} (h : BS w oa n c l) {k : Nat} (hk : k ≤ n) : RB.Sl w oa k c (l.take k) := by
  have hl := h.sl.len
  refine ⟨by rw [List.length_take]; omega, by have := h.sl.max; omega, fun h0 => ?_⟩
  obtain ⟨b, o, e, hr⟩ := h.sl.row (by omega)
  refine ⟨b, o, e, hr.lt, fun i hi => ?_⟩
  rw [List.length_take] at hi
  have := hr.get i (by omega)
  intro j hj
  rw [this j hj]
  have : (l.take k).getD i default = l.getD i default := by simp [List.getD_eq_getElem?_getD, show i < k by omega]
  rw [this]
theorem B5.tail {w : World} {b o n c : Nat} {l : List Nat} (h : B5 w (some ⟨b, o, none⟩) n c l) {k : Nat} (hk : k ≤ n) : B5 w (some ⟨b, o + k, none⟩) (n - k) (c - k) (l.drop k) := by
  refine ⟨h.bs.tail hk, fun b' o' e => ?_⟩
  injection e with e; injection e with e _ _; subst e
  exact h.t5 _ _ rfl
theorem B5.init {w : World} {oa : Option Addr} {n c : Nat} {l : List Nat} (h : B5 w oa n c l) {k : Nat} (hk : k ≤ n) : RB.Sl w oa k c (l.take k) := h.bs.init hk
theorem Bytes.drop {l : List Nat} (h : Bytes l) (k : Nat) : Bytes (l.drop k) := fun x hx => h x (List.mem_of_mem_drop hx)
theorem Bytes.take {l : List Nat} (h : Bytes l) (k : Nat) : Bytes (l.take k) := fun x hx => h x (List.mem_of_mem_take hx)
theorem RdAt.keep {T : TypeId} {g : Nat} {l : List Nat} {bad : Bool} {w w' : World} (h : RdAt T g l bad w) (hb : Keep5 w w') (hg : w'.heap[g]? = w.heap[g]?) : RdAt T g l bad w' := by
  obtain ⟨⟨oa, n, c, h1, h2, h3⟩, h4, h5, h6⟩ := h
  exact ⟨⟨oa, n, c, hg.trans h1, h2.keep hb, h3⟩, h4, h5, h6⟩
theorem RdAt.lt {T : TypeId} {g : Nat} {l : List Nat} {bad : Bool} {w : World} (h : RdAt T g l bad w) : g < w.heap.size := by
  obtain ⟨⟨oa, n, c, h1, h2, h3⟩, h4, h5⟩ := h
  exact lt_of_blk h1
theorem RdAt.on {T : TypeId} {g : Nat} {l : List Nat} {bad : Bool} {w w' : World} (h : RdAt T g l bad w) (hb : Below w.heap.size w w') : RdAt T g l bad w' := h.keep (.of_below hb) (hb.block g h.lt)
theorem RdAt.k5 {T : TypeId} {g : Nat} {l : List Nat} {bad : Bool} {w w' : World} (h : RdAt T g l bad w) (hb : But w w' [g]) : Keep5 w w' := by
  obtain ⟨⟨oa, n, c, h1, h2, h3⟩, h4, h5, h6⟩ := h
  exact .of_but hb h1 h6
theorem RdAt.spoil {T : TypeId} {g : Nat} {oa : Option Addr} {n c : Nat} {l : List Nat} {bad : Bool} {w : World} (hg : w.heap[g]? = some (.cells #[.slice oa n c, .bool bad] T)) (hT : T ≠ 5) (hbs : B5 w oa n c l) (hne : ∀ b o, oa = some ⟨b, o, none⟩ → b ≠ g) (hby : Bytes l) (hle : l.length ≤ 100000) :
    RdAt T g l true (w.setCell ⟨g, 1, none⟩ (.bool true)) ∧ But w (w.setCell ⟨g, 1, none⟩ (.bool true)) [g] := by
  have hbut : But w (w.setCell ⟨g, 1, none⟩ (.bool true)) [g] := (But.refl w [g]).setCell (.inr (by simp)) _
  refine ⟨⟨⟨oa, n, c, ?_, hbs.keep (.of_but hbut hg hT), hne⟩, hby, hle, hT⟩, hbut⟩
  have := setCell_blk hg 1 (.bool true)
  rw [this]; rfl
theorem RdAt.adv {T : TypeId} {g : Nat} {oa oa' : Option Addr} {n c n' c' : Nat} {l' : List Nat} {bad : Bool} {w : World} (hg : w.heap[g]? = some (.cells #[.slice oa n c, .bool bad] T)) (hT : T ≠ 5) (hbs : B5 w oa' n' c' l') (hne : ∀ b o, oa' = some ⟨b, o, none⟩ → b ≠ g) (hby : Bytes l') (hle : l'.length ≤ 100000) :
    RdAt T g l' bad (w.setCell ⟨g, 0, none⟩ (.slice oa' n' c')) ∧ But w (w.setCell ⟨g, 0, none⟩ (.slice oa' n' c')) [g] := by
  have hbut : But w (w.setCell ⟨g, 0, none⟩ (.slice oa' n' c')) [g] := (But.refl w [g]).setCell (.inr (by simp)) _
  refine ⟨⟨⟨oa', n', c', ?_, hbs.keep (.of_but hbut hg hT), hne⟩, hby, hle, hT⟩, hbut⟩
  have := setCell_blk hg 0 (.slice oa' n' c')
  rw [this]; rfl
set_option maxRecDepth 100000 in
set_option maxHeartbeats 400000 in
theorem rbytes_any {g : Nat} {l : List Nat} {bad : Bool} {w : World} (h : RdAt 88 g l bad w) (n : Int) : Calls Try.prog 50 #[.pointer (some ⟨g, 0, none⟩), .int .i64 n] w fun e w' => (∃ v, e = .returned v ∧ RB.Own w' w.heap.size v (rdB n l bad).1) ∧ RdAt 88 g (rdB n l bad).2.1 (rdB n l bad).2.2 w' ∧ But w w' [g] := by
  obtain ⟨⟨oa, m, c, hg, hbs, hne⟩, hby, hle, -⟩ := h
  have hlen := hbs.sl.len.symm
  have e0 := cell_of (o := 0) hg rfl
  have e1 := cell_of (o := 1) hg rfl
  have f0 : w.frozen? ⟨g, 0, none⟩ = false := free_of hg
  have f1 : w.frozen? ⟨g, 1, none⟩ = false := free_of hg
  have HB := Lib.hid (And.intro hg (And.intro hbs (And.intro hne (And.intro hby hle))))
  clear hg hbs hne hby
  have hm : m ≤ 100000 := by omega
  have HL := Lib.hid hlen
  clear hle hlen
  go_enter Try.func50, Try.ntmps50
  have hs := RdAt.spoil HB.out.1 (by decide) HB.out.2.1 HB.out.2.2.1 HB.out.2.2.2.1 HB.out.2.2.2.2
  have HS := Lib.hid hs
  clear hs
  cases bad with
  | true =>
    have hr : rdB n l true = ([], l, true) := by simp [rdB]
    rw [hr]
    dsimp only
    clear hr
    go_wp2_with fail
    go_ret
    exact ⟨⟨_, rfl, Rep.Own.nil _ _⟩, HS.out.1, HS.out.2⟩
  | false =>
    by_cases h0 : n < 0
    · have hr : rdB n l false = ([], l, true) := by simp [rdB, h0]
      rw [hr]
      dsimp only
      have g0 : (n < 0) = True := by simp [h0]
      clear hr h0
      go_wp2_with fail
      go_ret
      exact ⟨⟨_, rfl, Rep.Own.nil _ _⟩, HS.out.1, HS.out.2⟩
    · obtain ⟨k, rfl⟩ := Int.eq_ofNat_of_zero_le (a := n) (by omega)
      have g0 : ((k : Int) < 0) = False := by simp
      clear h0
      by_cases h1 : m < k
      · have hr : rdB k l false = ([], l, true) := by have := HL.out; simp [rdB]; omega
        rw [hr]
        dsimp only
        have g1 : ((m : Int) < (k : Int)) = True := by simp [h1]
        clear hr
        go_wp2_with fail
        go_ret
        exact ⟨⟨_, rfl, Rep.Own.nil _ _⟩, HS.out.1, HS.out.2⟩
      · have hr : rdB k l false = (l.take k, l.drop k, false) := by have := HL.out; simp [rdB]; omega
        rw [hr]
        dsimp only
        have g1 : ((m : Int) < (k : Int)) = False := by simp; omega
        have hkm : k ≤ m := by omega
        have hmc := HB.out.2.1.le
        have hcm := HB.out.2.1.cap
        clear hr HS
        have fin : ∀ (w1 : World) (v1 : Value) (oa' : Option Addr) (n' c' : Nat), w1.heap[g]? = some (.cells #[.slice oa m c, .bool false] 88) → RB.Own w1 w.heap.size v1 (l.take k) → Below w.heap.size w w1 → B5 w1 oa' n' c' (l.drop k) → (∀ b o, oa' = some ⟨b, o, none⟩ → b ≠ g) → (∃ v, Ending.returned v1 = .returned v ∧ RB.Own (w1.setCell ⟨g, 0, none⟩ (.slice oa' n' c')) w.heap.size v (l.take k)) ∧ RdAt 88 g (l.drop k) false (w1.setCell ⟨g, 0, none⟩ (.slice oa' n' c')) ∧ But w (w1.setCell ⟨g, 0, none⟩ (.slice oa' n' c')) [g] := by
          intro w1 v1 oa' n' c' q1 q2 q3 q4 q5
          have h := RdAt.adv q1 (by decide) q4 q5 (HB.out.2.2.2.1.drop k) (by rw [List.length_drop]; have := HB.out.2.2.2.2; omega)
          have hglt := lt_of_blk HB.out.1
          exact ⟨⟨_, rfl, q2.but h.2 (by intro x hx; simp at hx; omega)⟩, h.1, (But.of_below q3 [g]).trans h.2⟩
        have HI := Lib.hid fin
        clear fin
        cases oa with
        | none =>
          obtain rfl : c = 0 := HB.out.2.1.nil rfl
          obtain rfl : m = 0 := by omega
          obtain rfl : k = 0 := by omega
          go_wp2_with fail
          refine (clone_any (HB.out.2.1.init hkm) (fun h => rfl) (by omega)).mono ?_
          rintro e w1 ⟨v1, rfl, ho1, hb1⟩
          have hg1 := (hb1.block g (lt_of_blk HB.out.1)).trans HB.out.1
          clear e0 e1 f0 f1
          have e0 := cell_of (o := 0) hg1 rfl
          have f0 : w1.frozen? ⟨g, 0, none⟩ = false := free_of hg1
          have hbs1 := HB.out.2.1.below hb1
          have HC := Lib.hid (And.intro hg1 (And.intro ho1 (And.intro hb1 hbs1)))
          clear hg1 ho1 hb1 hbs1
          go_wp2_with fail
          go_ret
          exact HI.out _ _ _ _ _ HC.out.1 HC.out.2.1 HC.out.2.2.1 HC.out.2.2.2 (by intro b o h; cases h)
        | some ad =>
          obtain ⟨b, o, had⟩ : ∃ b o, ad = ⟨b, o, none⟩ := by
            rcases HB.out.2.1.ad with h | ⟨b, o, h⟩
            · cases h
            · exact ⟨b, o, by injection h⟩
          subst had
          have hbg : b ≠ g := HB.out.2.2.1 b o rfl
          go_wp2_with fail
          refine (clone_any (HB.out.2.1.init hkm) (fun h => by cases h) (by omega)).mono ?_
          rintro e w1 ⟨v1, rfl, ho1, hb1⟩
          have hg1 := (hb1.block g (lt_of_blk HB.out.1)).trans HB.out.1
          clear e0 e1 f0 f1
          have e0 := cell_of (o := 0) hg1 rfl
          have f0 : w1.frozen? ⟨g, 0, none⟩ = false := free_of hg1
          have hbs1 := HB.out.2.1.below hb1
          have HC := Lib.hid (And.intro hg1 (And.intro ho1 (And.intro hb1 (And.intro hbs1 hbg))))
          clear hg1 ho1 hb1 hbs1 hbg
          by_cases hck : c = k
          · subst hck
            obtain rfl : m = c := by omega
            go_wp2_with fail
            go_ret
            refine HI.out _ _ _ _ _ HC.out.1 HC.out.2.1 HC.out.2.2.1 ?_ (by intro b' o' h; injection h with h; injection h with h1 _ _; rw [← h1]; exact HC.out.2.2.2.2)
            rw [List.drop_eq_nil_of_le (by have := HL.out; omega)]
            exact ⟨⟨⟨by simp, by unfold maxLen; omega, fun h0 => absurd h0 (by omega)⟩, by simp, by omega, by unfold maxLen; omega, .inr ⟨_, _, rfl⟩⟩, HC.out.2.2.2.1.t5⟩
          · go_wp2_with fail
            go_ret
            exact HI.out _ _ _ _ _ HC.out.1 HC.out.2.1 HC.out.2.2.1 (HC.out.2.2.2.1.tail hkm) (by intro b' o' h; injection h with h; injection h with h1 _ _; rw [← h1]; exact HC.out.2.2.2.2)
theorem rdB_len (k : Nat) (l : List Nat) (bad : Bool) : (rdB k l bad).1.length ≤ k := by
  unfold rdB; split <;> simp; omega
theorem rdB_bytes (n : Int) (l : List Nat) (bad : Bool) (h : Bytes l) : Bytes (rdB n l bad).1 := by
  unfold rdB; split
  · intro x hx; cases hx
  · exact h.take _
set_option maxRecDepth 100000 in
set_option maxHeartbeats 400000 in
theorem num_any {k : Nat} (hk : k = 2 ∨ k = 4) {g : Nat} {l : List Nat} {bad : Bool} {w : World} (h : RdAt 88 g l bad w) : Calls Try.prog 49 #[.pointer (some ⟨g, 0, none⟩), .int .i64 k] w fun e w' => e = .returned (.int .i64 (getN (rdB k l bad).1 : Nat)) ∧ RdAt 88 g (rdB k l bad).2.1 (rdB k l bad).2.2 w' ∧ But w w' [g] := by
  have HB := Lib.hid h
  clear h
  have h1 : ((k : Int) < 1) = False := by simp; omega
  have h2 : ((4 : Int) < (k : Int)) = False := by simp; omega
  have hrl := rdB_len k l bad
  have hby := rdB_bytes k l bad HB.out.bytes
  have hrb := rbytes_any HB.out (k : Int)
  generalize rdB k l bad = R at *
  have HR := Lib.hid (And.intro hrl (And.intro hby hrb))
  clear hrl hby hrb
  go_enter Try.func49, Try.ntmps49
  go_wp2_with fail
  refine (HR.out.2.2).mono ?_
  rintro e w1 ⟨⟨v1, rfl, ho1⟩, hr1, hb1⟩
  obtain ⟨oa1, c1, rfl, hs1⟩ := bs_own ho1
  have HC := Lib.hid (And.intro hs1 (And.intro hr1 hb1))
  clear hs1 hr1 hb1 ho1
  go_wp2_with fail
  refine (get_any _ _ _ _ _ HC.out.1.sl HR.out.2.1 (by have := HR.out.1; omega)).mono ?_
  rintro e w2 ⟨⟨x, rfl⟩, rfl⟩
  go_wp2_with fail
  go_ret
  exact ⟨rfl, HC.out.2.1, HC.out.2.2⟩
theorem two_rd {g : Nat} {l : List Nat} {bad : Bool} {w : World} (h : RdAt 88 g l bad w) : Calls Try.prog 31 #[.agg #[.pointer (some ⟨g, 0, none⟩)]] w fun e w' => e = .returned (.int .i64 (getN (rdB 2 l bad).1 : Nat)) ∧ RdAt 88 g (rdB 2 l bad).2.1 (rdB 2 l bad).2.2 w' ∧ But w w' [g] := by
  have hal := (Below.refl w.heap.size w).alloc (Nat.le_refl _) (.cells #[.pointer (some ⟨g, 0, none⟩)] 67)
  have hn := num_any (k := 2) (.inl rfl) (h.on hal)
  generalize rdB ((2 : Nat) : Int) l bad = R at *
  have HB := Lib.hid (And.intro hal hn)
  clear h hal hn
  go_enter Try.func31, Try.ntmps31
  go_wp2_with fail
  refine (HB.out.2).mono ?_
  rintro e w1 ⟨rfl, hr1, hb1⟩
  have HC := Lib.hid (And.intro hr1 ((But.of_below HB.out.1 [g]).trans hb1))
  clear hr1 hb1
  go_wp2_with fail
  go_ret
  exact ⟨rfl, HC.out.1, HC.out.2⟩
theorem four_rd {g : Nat} {l : List Nat} {bad : Bool} {w : World} (h : RdAt 88 g l bad w) : Calls Try.prog 32 #[.agg #[.pointer (some ⟨g, 0, none⟩)]] w fun e w' => e = .returned (.int .i64 (getN (rdB 4 l bad).1 : Nat)) ∧ RdAt 88 g (rdB 4 l bad).2.1 (rdB 4 l bad).2.2 w' ∧ But w w' [g] := by
  have hal := (Below.refl w.heap.size w).alloc (Nat.le_refl _) (.cells #[.pointer (some ⟨g, 0, none⟩)] 67)
  have hn := num_any (k := 4) (.inr rfl) (h.on hal)
  generalize rdB ((4 : Nat) : Int) l bad = R at *
  have HB := Lib.hid (And.intro hal hn)
  clear h hal hn
  go_enter Try.func32, Try.ntmps32
  go_wp2_with fail
  refine (HB.out.2).mono ?_
  rintro e w1 ⟨rfl, hr1, hb1⟩
  have HC := Lib.hid (And.intro hr1 ((But.of_below HB.out.1 [g]).trans hb1))
  clear hr1 hb1
  go_wp2_with fail
  go_ret
  exact ⟨rfl, HC.out.1, HC.out.2⟩
theorem bad_any {g : Nat} {l : List Nat} {bad : Bool} {w : World} (h : RdAt 88 g l bad w) : Calls Try.prog 35 #[.pointer (some ⟨g, 0, none⟩)] w fun e w' => e = .returned (.bool bad) ∧ w' = w := by
  obtain ⟨⟨oa, m, c, hg, -, -⟩, -, -, -⟩ := h
  have e1 := cell_of (o := 1) hg rfl
  clear hg
  go_enter Try.func35, Try.ntmps35
  go_wp2_with fail
  go_ret
  exact ⟨rfl, rfl⟩
theorem left_any {g : Nat} {l : List Nat} {bad : Bool} {w : World} (h : RdAt 88 g l bad w) : Calls Try.prog 33 #[.pointer (some ⟨g, 0, none⟩)] w fun e w' => e = .returned (.int .i64 (if bad then 0 else l.length : Nat)) ∧ w' = w := by
  have h0 := h
  obtain ⟨⟨oa, m, c, hg, hbs, -⟩, -, -, -⟩ := h
  have e0 := cell_of (o := 0) hg rfl
  have H := Lib.hid (And.intro h0 hbs.sl.len)
  clear hg h0 hbs
  go_enter Try.func33, Try.ntmps33
  cases bad with
  | true =>
    go_wp2_with fail
    refine (bad_any H.out.1).mono ?_
    rintro e w1 ⟨rfl, rfl⟩
    go_wp2_with fail
    go_ret
    exact ⟨rfl, rfl⟩
  | false =>
    go_wp2_with fail
    refine (bad_any H.out.1).mono ?_
    rintro e w1 ⟨rfl, rfl⟩
    go_wp2_with fail
    go_ret
    exact ⟨by rw [← H.out.2]; rfl, rfl⟩
/-- a reader of bytes -/
theorem from_any {w : World} {oa : Option Addr} {n c : Nat} {l : List Nat} (h : RB.Sl w oa n c l) (hnil : oa = none → c = 0) (hby : Bytes l) (hn : n ≤ 100000) : Calls Try.prog 30 #[.slice oa n c] w fun e w' => (∃ g, e = .returned (.pointer (some ⟨g, 0, none⟩)) ∧ w.heap.size ≤ g ∧ RdAt 88 g l false w') ∧ Below w.heap.size w w' := by
  have HB := Lib.hid (And.intro h (And.intro hnil hby))
  have hlen := h.len
  have HL := Lib.hid hlen
  clear h hnil hby hlen
  go_enter Try.func30, Try.ntmps30
  go_wp2_with fail
  refine (clone_any HB.out.1 HB.out.2.1 (by omega)).mono ?_
  rintro e w1 ⟨v1, rfl, ho1, hb1⟩
  obtain ⟨oa1, c1, rfl, hs1⟩ := b5_own ho1
  have hlt1 : ∀ b o, oa1 = some ⟨b, o, none⟩ → b ≠ w1.heap.size := by
    rintro b o rfl
    have := (World.ownsRow.lt ho1 b rfl).2
    omega
  have hal := (Below.refl w1.heap.size w1).alloc (Nat.le_refl _) (.cells #[.slice oa1 l.length c1, .bool false] 88)
  have HC := Lib.hid (And.intro (bcall hb1 (Nat.le_refl _) hal) (And.intro (hs1.below hal) (And.intro hlt1 hb1.size)))
  clear hs1 hb1 ho1 hlt1 hal
  go_wp2_with fail
  go_ret
  exact ⟨⟨_, rfl, HC.out.2.2.2, ⟨⟨_, _, _, hnew _ _, HC.out.2.1, HC.out.2.2.1⟩, HB.out.2.2, by have := HL.out; omega, by decide⟩⟩, HC.out.1⟩
end Go.Proofs.Ytjjhnnnpikfjpaa
