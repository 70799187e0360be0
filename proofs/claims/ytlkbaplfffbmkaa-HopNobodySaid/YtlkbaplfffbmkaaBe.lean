/- Of a next hop: the longest of those that hold it; by definition and by tries. -/
import Derived.Test.YtlkbaplfffbmkaaBb
import Derived.Test.YtlkbaplfffbmkaaRb
namespace Go.Proofs.Ytlkbaplfffbmkaa
open Go.RowKit

/-- the first of those that are best -/
def bstG (p : Nat → Bool) (f : Nat → Int) : Nat → Option Nat
  | 0 => none
  | i + 1 => match bstG p f i with
    | none => if p i then some i else none
    | some k => if p i && decide (f k < f i) then some i else some k
theorem bstG_spec {p : Nat → Bool} {f : Nat → Int} : ∀ i, (∀ j, bstG p f i = some j → j < i ∧ p j = true ∧ ∀ q, q < i → p q = true → f q ≤ f j) ∧ (bstG p f i = none → ∀ q, q < i → p q = false)
  | 0 => ⟨fun _ h => (by cases h), fun _ q h => (by omega)⟩
  | i + 1 => by
    obtain ⟨ih1, ih2⟩ := bstG_spec (p := p) (f := f) i
    rw [bstG]
    cases hb : bstG p f i with
    | none =>
      have ih2 := ih2 hb
      dsimp only
      cases hh : p i with
      | false =>
        refine ⟨fun j h => (by cases h), fun _ q hq => ?_⟩
        rcases Nat.lt_succ_iff_lt_or_eq.1 hq with h | rfl
        · exact ih2 q h
        · exact hh
      | true =>
        refine ⟨fun j h => ?_, fun h => by cases h⟩
        rw [if_pos rfl] at h
        injection h with h
        subst h
        refine ⟨by omega, hh, fun q hq h2 => ?_⟩
        rcases Nat.lt_succ_iff_lt_or_eq.1 hq with h | rfl
        · rw [ih2 q h] at h2; cases h2
        · exact Int.le_refl _
    | some k =>
      obtain ⟨k1, k2, k3⟩ := ih1 k hb
      dsimp only
      by_cases hc : p i = true ∧ f k < f i
      · rw [if_pos (by rw [hc.1, Bool.true_and]; exact decide_eq_true hc.2)]
        refine ⟨fun j h => ?_, fun h => by cases h⟩
        injection h with h
        subst h
        refine ⟨by omega, hc.1, fun q hq h2 => ?_⟩
        rcases Nat.lt_succ_iff_lt_or_eq.1 hq with h | rfl
        · have := k3 q h h2; have := hc.2; omega
        · exact Int.le_refl _
      · rw [if_neg (by simpa using fun h1 => by simpa using fun h2 => hc ⟨h1, h2⟩)]
        refine ⟨fun j h => ?_, fun h => by cases h⟩
        injection h with h
        subst h
        refine ⟨by omega, k2, fun q hq h2 => ?_⟩
        rcases Nat.lt_succ_iff_lt_or_eq.1 hq with h | rfl
        · exact k3 q h h2
        · have : ¬ f k < f q := fun h => hc ⟨h2, h⟩
          omega
/-- may this interface take what goes to a from this router? -/
def hits (ρ : Int) (a : Nat) (x : If) : Bool := decide (x.r = ρ) && holdsP x.ad x.ln a
def refFind (l : List If) (ρ : Int) (a : Nat) : Option Nat := bstG (fun i => hits ρ a (l.getD i default)) (fun i => (l.getD i default).ln) l.length
theorem hdOf_M (l : List If) (ρ ad d : Nat) : (hdOf l).M ρ ad d = (l.reverse.find? fun x => decide (x.r.toNat = ρ ∧ x.ad = ad ∧ x.ln.toNat = d)).map If.id := by
  have h : ∀ (l : List If) (D : HD), (l.foldl HD.add D).M ρ ad d = ((l.reverse.find? fun x => decide (x.r.toNat = ρ ∧ x.ad = ad ∧ x.ln.toNat = d)).map If.id).or (D.M ρ ad d) := by
    intro l
    induction l with
    | nil => intro D; rfl
    | cons x r ih =>
      intro D
      rw [List.foldl_cons, ih, List.reverse_cons, List.find?_append]
      cases hf : r.reverse.find? fun x => decide (x.r.toNat = ρ ∧ x.ad = ad ∧ x.ln.toNat = d) with
      | some y => rfl
      | none =>
        rw [Option.none_or, Option.map_none, Option.none_or]
        by_cases hx : x.r.toNat = ρ ∧ x.ad = ad ∧ x.ln.toNat = d
        · obtain ⟨rfl, rfl, rfl⟩ := hx
          simp [HD.add, upd]
        · rw [List.find?_singleton, if_neg (by simpa using hx)]
          rw [Option.map_none, Option.none_or]
          unfold HD.add
          dsimp only
          split
          · rename_i hr
            unfold upd
            rw [if_neg (fun h => hx ⟨hr.symm, h.1.symm, h.2.symm⟩)]
          · rfl
  have := h l hd0
  rw [show hd0.M ρ ad d = none from rfl, Option.or_none] at this
  exact this
theorem Good.net_inj {l : List If} (h : Good l) {x y : If} (hx : x ∈ l) (hy : y ∈ l) (h1 : x.r = y.r) (h2 : x.ad = y.ad) (h3 : x.ln = y.ln) : x = y := by
  have hn : (l.map If.net).Nodup := nodup_get.2 fun k i hk hi he => by
    unfold If.net at he
    injection he with a b c
    exact h.nets k i hk hi a (by omega) c
  exact MR.inj_of_nodup hn hx hy (by unfold If.net; rw [h1, h2, h3])
theorem M_some {l : List If} (h : Good l) {ρ ad d : Nat} {v : Int} (hv : (hdOf l).M ρ ad d = some v) : ∃ x ∈ l, x.r = (ρ : Int) ∧ x.ad = ad ∧ x.ln = (d : Int) ∧ x.id = v := by
  rw [hdOf_M] at hv
  simp only [Option.map_eq_some_iff] at hv
  obtain ⟨x, hx, rfl⟩ := hv
  have h1 := List.find?_some hx
  have h2 : x ∈ l := by simpa using List.mem_of_find?_eq_some hx
  have h3 := okI_iff.1 (h.ok x h2)
  have h4 := okP_iff.1 h3.2.2.2.2.1
  simp only [decide_eq_true_eq] at h1
  exact ⟨x, h2, by omega, h1.2.1, by omega, rfl⟩
theorem M_in {l : List If} (h : Good l) {x : If} (hx : x ∈ l) : (hdOf l).M x.r.toNat x.ad x.ln.toNat = some x.id := by
  cases hv : (hdOf l).M x.r.toNat x.ad x.ln.toNat with
  | none =>
    rw [hdOf_M] at hv
    simp only [Option.map_eq_none_iff, List.find?_eq_none] at hv
    have := hv x (by simpa using hx)
    simp at this
  | some v =>
    obtain ⟨y, hy, h1, h2, h3, h4⟩ := M_some h hv
    have ha := okI_iff.1 (h.ok x hx)
    have hb := okP_iff.1 ha.2.2.2.2.1
    have : y = x := h.net_inj hy hx (by omega) h2 (by omega)
    rw [← h4, this]
theorem hits_iff {ρ : Int} {a : Nat} {x : If} : hits ρ a x = true ↔ x.r = ρ ∧ okP x.ad x.ln = true ∧ pcut a x.ln.toNat = x.ad := by
  unfold hits holdsP
  simp
theorem lngS_spec {M : Nat → Nat → Option Int} {a : Nat} : ∀ i, (∀ j, lng M a i = some j → j < i ∧ (M (pcut a j) j).isSome ∧ ∀ q, j < q → q < i → M (pcut a q) q = none) ∧ (lng M a i = none → ∀ q, q < i → M (pcut a q) q = none)
  | 0 => ⟨fun _ h => (by cases h), fun _ q h => (by omega)⟩
  | i + 1 => by
    obtain ⟨ih1, ih2⟩ := lngS_spec (M := M) (a := a) i
    rw [lng]
    by_cases hs : (M (pcut a i) i).isSome = true
    · rw [if_pos hs]
      refine ⟨fun j h => ?_, fun h => by cases h⟩
      injection h with h
      subst h
      exact ⟨by omega, hs, fun q h1 h2 => by omega⟩
    · rw [if_neg hs]
      have hn : M (pcut a i) i = none := by cases h : M (pcut a i) i with | none => rfl | some x => rw [h] at hs; exact absurd rfl hs
      refine ⟨fun j h => ?_, fun h q hq => ?_⟩
      · obtain ⟨h1, h2, h3⟩ := ih1 j h
        refine ⟨by omega, h2, fun q h4 h5 => ?_⟩
        rcases Nat.lt_succ_iff_lt_or_eq.1 h5 with h6 | rfl
        · exact h3 q h4 h6
        · exact hn
      · rcases Nat.lt_succ_iff_lt_or_eq.1 hq with h6 | rfl
        · exact ih2 h q h6
        · exact hn
theorem find_none {l : List If} (h : Good l) {ρ a : Nat} (hf : (hdOf l).find ρ a = none) : ∀ y ∈ l, hits ρ a y = false := by
  intro y hy
  rw [Bool.eq_false_iff]
  intro hh
  obtain ⟨h1, h2, h3⟩ := hits_iff.1 hh
  have h4 := okP_iff.1 h2
  have hM := M_in h hy
  obtain ⟨l1, l2⟩ := lngS_spec (M := (hdOf l).M ρ) (a := a) 33
  unfold HD.find at hf
  cases hl : lng ((hdOf l).M ρ) a 33 with
  | none =>
    have := l2 hl y.ln.toNat (by omega)
    rw [h3, show ρ = y.r.toNat by omega, hM] at this
    cases this
  | some j =>
    rw [hl] at hf
    dsimp only at hf
    obtain ⟨-, m1, -⟩ := l1 j hl
    obtain ⟨v, hv⟩ := Option.isSome_iff_exists.1 m1
    obtain ⟨x, hx, -, -, -, rfl⟩ := M_some h hv
    rw [hv, Option.getD_some, get_of h hx] at hf
    cases hf
theorem find_some {l : List If} (h : Good l) {ρ a : Nat} {x : If} (hf : (hdOf l).find ρ a = some x) : x ∈ l ∧ hits ρ a x = true ∧ ∀ y ∈ l, hits ρ a y = true → y.ln ≤ x.ln := by
  obtain ⟨l1, l2⟩ := lngS_spec (M := (hdOf l).M ρ) (a := a) 33
  unfold HD.find at hf
  cases hl : lng ((hdOf l).M ρ) a 33 with
  | none => rw [hl] at hf; cases hf
  | some j =>
    rw [hl] at hf
    dsimp only at hf
    obtain ⟨m0, m1, m2⟩ := l1 j hl
    obtain ⟨v, hv⟩ := Option.isSome_iff_exists.1 m1
    obtain ⟨y, hy, k1, k2, k3, rfl⟩ := M_some h hv
    rw [hv, Option.getD_some, get_of h hy] at hf
    injection hf with hf
    subst hf
    have hok := (okI_iff.1 (h.ok y hy)).2.2.2.2.1
    refine ⟨hy, hits_iff.2 ⟨k1, hok, by rw [k3, Int.toNat_natCast]; exact k2.symm⟩, fun z hz hh => ?_⟩
    obtain ⟨z1, z2, z3⟩ := hits_iff.1 hh
    have z4 := okP_iff.1 z2
    have hM := M_in h hz
    by_cases hlt : (j : Int) < z.ln
    · have := m2 z.ln.toNat (by omega) (by omega)
      rw [z3, show ρ = z.r.toNat by omega, hM] at this
      cases this
    · omega
theorem hits_inj {l : List If} (h : Good l) {ρ : Int} {a : Nat} {x y : If} (hx : x ∈ l) (hy : y ∈ l) (h1 : hits ρ a x = true) (h2 : hits ρ a y = true) (h3 : x.ln = y.ln) : x = y := by
  obtain ⟨a1, a2, a3⟩ := hits_iff.1 h1
  obtain ⟨b1, b2, b3⟩ := hits_iff.1 h2
  exact h.net_inj hx hy (a1.trans b1.symm) (by rw [← a3, ← b3, h3]) h3
theorem find_is {l : List If} (h : Good l) {ρ a : Nat} {x : If} (hx : x ∈ l) (hh : hits ρ a x = true) (hm : ∀ y ∈ l, hits ρ a y = true → y.ln ≤ x.ln) : (hdOf l).find ρ a = some x := by
  cases hf : (hdOf l).find ρ a with
  | none => rw [find_none h hf x hx] at hh; cases hh
  | some y =>
    obtain ⟨h1, h2, h3⟩ := find_some h hf
    have e1 := hm y h1 h2
    have e2 := h3 x hx hh
    rw [hits_inj h h1 hx h2 hh (by omega)]
theorem find_no {l : List If} (h : Good l) {ρ a : Nat} (hm : ∀ y ∈ l, hits ρ a y = false) : (hdOf l).find ρ a = none := by
  cases hf : (hdOf l).find ρ a with
  | none => rfl
  | some y =>
    obtain ⟨h1, h2, h3⟩ := find_some h hf
    rw [hm y h1] at h2; cases h2
/-- the two answers are one -/
theorem find_ref {l : List If} (h : Good l) (ρ a : Nat) : (refFind l ρ a).map (fun j => l.getD j default) = (hdOf l).find ρ a := by
  obtain ⟨b1, b2⟩ := bstG_spec (p := fun i => hits ρ a (l.getD i default)) (f := fun i => (l.getD i default).ln) l.length
  unfold refFind
  have hin : ∀ y ∈ l, ∃ q, q < l.length ∧ l.getD q default = y := fun y hy => by
    obtain ⟨q, hq, rfl⟩ := List.mem_iff_getElem.1 hy
    exact ⟨q, hq, by rw [List.getD_eq_getElem?_getD, List.getElem?_eq_getElem hq]; rfl⟩
  cases hb : bstG (fun i => hits ρ a (l.getD i default)) (fun i => (l.getD i default).ln) l.length with
  | none =>
    refine (find_no h fun y hy => ?_).symm
    obtain ⟨q, hq, rfl⟩ := hin y hy
    exact b2 hb q hq
  | some j =>
    obtain ⟨h1, h2, h3⟩ := b1 j hb
    refine (find_is h (getD_mem h1) h2 fun y hy hh => ?_).symm
    obtain ⟨q, hq, rfl⟩ := hin y hy
    exact h3 q hq hh
theorem find_perm {l m : List If} (h : Good l) (hm : Good m) (hp : ∀ x, x ∈ l ↔ x ∈ m) (ρ a : Nat) : (hdOf l).find ρ a = (hdOf m).find ρ a := by
  cases hf : (hdOf m).find ρ a with
  | none => exact find_no h fun y hy => find_none hm hf y ((hp y).1 hy)
  | some x =>
    obtain ⟨h1, h2, h3⟩ := find_some hm hf
    exact find_is h ((hp x).2 h1) h2 fun y hy => h3 y ((hp y).1 hy)
theorem refFind_out {l : List If} (h : Good l) {ρ : Int} (a : Nat) (hρ : ρ < 0 ∨ 15 < ρ) : refFind l ρ a = none := by
  unfold refFind
  obtain ⟨b1, b2⟩ := bstG_spec (p := fun i => hits ρ a (l.getD i default)) (f := fun i => (l.getD i default).ln) l.length
  cases hb : bstG (fun i => hits ρ a (l.getD i default)) (fun i => (l.getD i default).ln) l.length with
  | none => rfl
  | some j =>
    obtain ⟨h1, h2, h3⟩ := b1 j hb
    have := okI_iff.1 (h.ok _ (getD_mem h1))
    have := (hits_iff.1 h2).1
    omega
theorem find_shorter {l : List If} {z : If} (h : Good l) (hm : Good (l ++ [z])) {ρ a : Nat} (haa : a < 4294967296) (hz : z.r = (ρ : Int)) (ha : z.ad = 0) (hl : z.ln = 0) : (∃ x, (hdOf l).find ρ a = some x ∧ (hdOf (l ++ [z])).find ρ a = some x) ∨ (hdOf l).find ρ a = none ∧ (hdOf (l ++ [z])).find ρ a = some z := by
  have hzh : hits ρ a z = true := by
    rw [hits_iff, ha, hl]
    refine ⟨hz, ?_, ?_⟩
    · decide
    · unfold pcut
      rw [show (0 : Int).toNat = 0 from rfl, show 2 ^ (32 - 0) = 4294967296 from rfl, Nat.div_eq_of_lt haa, Nat.zero_mul]
  cases hf : (hdOf l).find ρ a with
  | some x =>
    obtain ⟨h1, h2, h3⟩ := find_some h hf
    refine .inl ⟨x, rfl, find_is hm (by simp [h1]) h2 fun y hy hh => ?_⟩
    rcases List.mem_append.1 hy with hy | hy
    · exact h3 y hy hh
    · simp only [List.mem_singleton] at hy
      subst hy
      have := okP_iff.1 (hits_iff.1 h2).2.1
      omega
  | none =>
    refine .inr ⟨rfl, find_is hm (by simp) hzh fun y hy hh => ?_⟩
    rcases List.mem_append.1 hy with hy | hy
    · rw [find_none h hf y hy] at hh; cases hh
    · simp only [List.mem_singleton] at hy
      subst hy
      exact Int.le_refl _
end Go.Proofs.Ytlkbaplfffbmkaa
