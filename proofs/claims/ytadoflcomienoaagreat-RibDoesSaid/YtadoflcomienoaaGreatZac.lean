/- Prefixes that are told: what they are, and their order. -/
import Derived.Test.YtadoflcomienoaaGreatZab
import Derived.Test.YtadoflcomienoaaGreatZaa
import Derived.ProofKit
import Derived.OpenShut
import Derived.Carry
import Derived.Deep.Slices
import Derived.Deep.Fields
import Derived.ChangeSame
import Derived.OrdersHeld
namespace Go.Proofs.YtadoflcomienoaaGreat
open Go.RowKit

abbrev PK := Nat × Int
def cmpK (a b : PK) : Int := cmpP a.1 a.2 b.1 b.2
def ltK (a b : PK) : Bool := decide (cmpK a b = -1)
theorem ltK_iff {a b : PK} : ltK a b = true ↔ a.1 < b.1 ∨ (a.1 = b.1 ∧ a.2 < b.2) := by
  unfold ltK cmpK cmpP
  rw [decide_eq_true_eq]
  split
  · simp_all
  · split <;> simp_all
theorem ltK_asymm (a b : PK) (h : ltK a b = true) : ltK b a = false := by
  rw [Bool.eq_false_iff]
  intro h2
  rw [ltK_iff] at h h2
  omega
theorem ltK_trans {a b c : PK} (h : ltK a b = true) (h2 : ltK b c = true) : ltK a c = true := by
  rw [ltK_iff] at *
  omega
theorem ltK_irr (a : PK) : ltK a a = false := by
  rw [Bool.eq_false_iff]; intro h; rw [ltK_iff] at h; omega
theorem key_eq {a b : PK} (h1 : a.1 = b.1) (h2 : a.2 = b.2) : a = b := Prod.ext h1 h2
theorem ltK_total (a b : PK) : ltK a b = true ∨ a = b ∨ ltK b a = true := by
  rw [ltK_iff, ltK_iff]
  by_cases h : a = b
  · exact .inr (.inl h)
  · have : ¬ (a.1 = b.1 ∧ a.2 = b.2) := fun h' => h (key_eq h'.1 h'.2)
    omega
theorem cmpK_lt {a b : PK} : cmpK a b < 0 ↔ ltK a b = true := by
  unfold ltK cmpK cmpP
  rw [decide_eq_true_eq]
  split
  · simp
  · split <;> simp
theorem cmpK_ge {a b : PK} : 0 ≤ cmpK a b ↔ ltK a b = false := by
  have := @cmpK_lt a b
  cases h : ltK a b with
  | true => have := this.2 h; simp; omega
  | false => rw [h] at this; simp at this; simp; omega

structure Nl where
  id : Int
  a : Nat
  ln : Int
deriving Inhabited, DecidableEq
def Nl.v (n : Nl) : Value := .agg #[.int .i64 n.id, .int .u32 (n.a : Int), .int .i64 n.ln]
def RNl : Rep Nl := ⟨60, 3, by decide, fun n => [.int .i64 n.id, .int .u32 (n.a : Int), .int .i64 n.ln], fun _ => rfl, fun _ => rfl⟩
theorem TNl : Rep.Ty Tryz.prog 35 RNl 24 := Rep.Ty.mk' Tryz.underlying35 (z := .agg #[.int .i64 0, .int .u32 0, .int .i64 0]) (by kernel_rfl) rfl
def Nl.key (n : Nl) : PK := (n.a, n.ln)
theorem Nl.ext' {x y : Nl} (h : x.id = y.id) (k : x.key = y.key) : x = y := by
  cases x; cases y
  simp only [Nl.key, Prod.mk.injEq] at h k
  simp [h, k.1, k.2]
def cmpI (a b : Int) : Int := if a < b then -1 else if b < a then 1 else 0
def or2 (x y : Int) : Int := if x = 0 then y else x
def cmpN (x y : Nl) : Int := or2 (cmpK x.key y.key) (cmpI x.id y.id)
def ltN (x y : Nl) : Bool := decide (cmpN x y < 0)
theorem ltN_iff {x y : Nl} : ltN x y = true ↔ x.a < y.a ∨ (x.a = y.a ∧ (x.ln < y.ln ∨ (x.ln = y.ln ∧ x.id < y.id))) := by
  unfold ltN cmpN or2 cmpI cmpK cmpP Nl.key
  rw [decide_eq_true_eq]
  dsimp only
  (repeat' split) <;> omega
theorem ltN_asymm (x y : Nl) (h : ltN x y = true) : ltN y x = false := by
  rw [Bool.eq_false_iff]
  intro h2
  rw [ltN_iff] at h h2
  omega
theorem ltN_trans {x y z : Nl} (h : ltN x y = true) (h2 : ltN y z = true) : ltN x z = true := by
  rw [ltN_iff] at *
  omega
theorem ltN_irr (x : Nl) : ltN x x = false := by
  rw [Bool.eq_false_iff]; intro h; rw [ltN_iff] at h; omega
theorem ltN_total (x y : Nl) : ltN x y = true ∨ x = y ∨ ltN y x = true := by
  by_cases h : x = y
  · exact .inr (.inl h)
  · have : ¬ (x.a = y.a ∧ x.ln = y.ln ∧ x.id = y.id) := fun h' => h (Nl.ext' h'.2.2 (key_eq h'.1 h'.2.1))
    rw [ltN_iff, ltN_iff]
    omega
theorem cmpN_lt {x y : Nl} : cmpN x y < 0 ↔ ltN x y = true := by unfold ltN; rw [decide_eq_true_eq]
theorem cmpN_ge {x y : Nl} : 0 ≤ cmpN x y ↔ ltN x y = false := by unfold ltN; rw [decide_eq_false_iff_not]; omega
abbrev OrdN (L : List Nl) : Prop := Kl.Ordered ltN L
theorem OrdN.nodup {L : List Nl} (h : OrdN L) : L.Nodup := by
  rw [List.nodup_iff_pairwise_ne]
  refine List.Pairwise.imp (fun {x y} h => ?_) h
  rintro rfl
  rw [ltN_irr] at h; cases h
/-- two that are in order, with the same things, are one -/
theorem OrdN.eq {L M : List Nl} (h : OrdN L) (k : OrdN M) (hm : ∀ x, x ∈ L ↔ x ∈ M) : L = M :=
  Kl.ordered_eq ltN_asymm h k ((List.perm_ext_iff_of_nodup h.nodup k.nodup).2 hm)
/-- no later one is less, each once: in order -/
theorem OrdN.of {M : List Nl} (h : ∀ i j, i < j → j < M.length → 0 ≤ cmpN (M.getD j default) (M.getD i default)) (hn : M.Nodup) : OrdN M := by
  show M.Pairwise _
  rw [List.pairwise_iff_getElem]
  intro i j hi hj hij
  have h1 := h i j hij hj
  rw [List.getD_eq_getElem?_getD, List.getD_eq_getElem?_getD, List.getElem?_eq_getElem hi, List.getElem?_eq_getElem hj] at h1
  simp only [Option.getD_some] at h1
  rw [cmpN_ge] at h1
  rcases ltN_total M[i] M[j] with h2 | h2 | h2
  · exact h2
  · rw [List.nodup_iff_pairwise_ne, List.pairwise_iff_getElem] at hn
    exact absurd h2 (hn i j hi hj hij)
  · rw [h1] at h2; cases h2
theorem OrdN.ins {L : List Nl} (h : OrdN L) {k : Nat} {x : Nl} (hlow : ∀ a, a < k → ltN (L.getD a default) x = true) (hk : k ≤ L.length) (hup : k < L.length → ltN x (L.getD k default) = true) : OrdN (L.take k ++ [x] ++ L.drop k) := by
  have hp : (L.take k ++ L.drop k).Pairwise fun a b => ltN a b = true := by rw [List.take_append_drop]; exact h
  rw [List.pairwise_append] at hp
  have hd : ∀ y ∈ L.drop k, ltN x y = true := by
    intro y hy
    by_cases hkl : k < L.length
    · have h1 := hup hkl
      have e : L.drop k = L.getD k default :: L.drop (k + 1) := by
        rw [List.drop_eq_getElem_cons hkl]
        simp [List.getD_eq_getElem?_getD, hkl]
      rw [e] at hy
      rcases List.mem_cons.1 hy with rfl | hy
      · exact h1
      · have h2 := hp.2.1
        rw [e, List.pairwise_cons] at h2
        exact ltN_trans h1 (h2.1 y hy)
    · rw [List.drop_eq_nil_of_le (by omega)] at hy; cases hy
  have ht : ∀ y ∈ L.take k, ltN y x = true := by
    intro y hy
    obtain ⟨i, hi, rfl⟩ := List.mem_iff_getElem.1 hy
    have hi' : i < k := by simp at hi; omega
    have := hlow i hi'
    rw [List.getD_eq_getElem?_getD, List.getElem?_eq_getElem (by omega)] at this
    simpa using this
  show List.Pairwise _ _
  rw [List.pairwise_append, List.pairwise_append]
  refine ⟨⟨hp.1, List.pairwise_singleton _ _, fun a ha b hb => ?_⟩, hp.2.1, fun a ha b hb => ?_⟩
  · rw [List.mem_singleton.1 hb]; exact ht a ha
  · rcases List.mem_append.1 ha with ha | ha
    · exact hp.2.2 a ha b hb
    · rw [List.mem_singleton.1 ha]; exact hd b hb
theorem mem_ins {L : List Nl} {k : Nat} {x y : Nl} : y ∈ L.take k ++ [x] ++ L.drop k ↔ y = x ∨ y ∈ L := by
  have : y ∈ L ↔ y ∈ L.take k ∨ y ∈ L.drop k := by rw [← List.mem_append, List.take_append_drop]
  rw [this, List.mem_append, List.mem_append, List.mem_singleton]
  constructor
  · rintro ((h | h) | h)
    · exact .inr (.inl h)
    · exact .inl h
    · exact .inr (.inr h)
  · rintro (h | h | h)
    · exact .inl (.inr h)
    · exact .inl (.inl h)
    · exact .inr h
/-- the list in order, each once -/
def insN (x : Nl) : List Nl → List Nl
  | [] => [x]
  | y :: r => if ltN y x then y :: insN x r else if y = x then y :: r else x :: y :: r
def sortN (L : List Nl) : List Nl := L.foldl (fun o x => insN x o) []
theorem mem_insN {x y : Nl} : ∀ {L : List Nl}, y ∈ insN x L ↔ y = x ∨ y ∈ L
  | [] => by simp [insN]
  | z :: r => by
    unfold insN
    split
    · rw [List.mem_cons, mem_insN, List.mem_cons]
      constructor <;> rintro (h | h | h) <;> simp [h]
    · split
      · rename_i h; subst h; simp
      · simp
theorem OrdN.insN {x : Nl} : ∀ {L : List Nl}, OrdN L → OrdN (insN x L)
  | [], _ => List.pairwise_singleton _ _
  | z :: r, h => by
    have h' := List.pairwise_cons.1 h
    unfold YtadoflcomienoaaGreat.insN
    split
    · rename_i hz
      refine List.pairwise_cons.2 ⟨fun y hy => ?_, OrdN.insN h'.2⟩
      rcases mem_insN.1 hy with rfl | hy
      · exact hz
      · exact h'.1 y hy
    · split
      · exact h
      · rename_i h1 h2
        have hx : ltN x z = true := by
          rcases ltN_total z x with h3 | h3 | h3
          · exact absurd h3 h1
          · exact absurd h3 h2
          · exact h3
        refine List.pairwise_cons.2 ⟨fun y hy => ?_, h⟩
        rcases List.mem_cons.1 hy with rfl | hy
        · exact hx
        · exact ltN_trans hx (h'.1 y hy)
theorem sortN_spec : ∀ L : List Nl, OrdN (sortN L) ∧ (∀ y, y ∈ sortN L ↔ y ∈ L) ∧ (sortN L).length ≤ L.length := by
  have hl : ∀ (x : Nl) (M : List Nl), (insN x M).length ≤ M.length + 1 := by
    intro x M
    induction M with
    | nil => simp [insN]
    | cons y r ih => unfold insN; split; · simpa using ih
                     · split <;> simp
  have : ∀ (L M : List Nl), OrdN M → OrdN (L.foldl (fun o x => insN x o) M) ∧ (∀ y, y ∈ L.foldl (fun o x => insN x o) M ↔ y ∈ L ∨ y ∈ M) ∧ (L.foldl (fun o x => insN x o) M).length ≤ L.length + M.length := by
    intro L
    induction L with
    | nil => intro M h; exact ⟨h, fun y => by simp, by simp⟩
    | cons x r ih =>
      intro M h
      obtain ⟨h1, h2, h3⟩ := ih (insN x M) h.insN
      refine ⟨h1, fun y => ?_, ?_⟩
      · rw [List.foldl_cons, h2, mem_insN, List.mem_cons, or_left_comm, or_assoc]
      · have := hl x M
        rw [List.foldl_cons, List.length_cons]
        omega
  intro L
  have h := this L [] List.Pairwise.nil
  exact ⟨h.1, fun y => by rw [sortN, h.2.1]; simp, by simpa [sortN] using h.2.2⟩
theorem sortN_is {L M : List Nl} (h : OrdN M) (hm : ∀ y, y ∈ M ↔ y ∈ L) : M = sortN L := h.eq (sortN_spec L).1 (fun y => by rw [hm, (sortN_spec L).2.1])
end Go.Proofs.YtadoflcomienoaaGreat
/- What is said of prefixes, in order; updates, how many fit, what they leave (plain). -/
namespace Go.Proofs.YtadoflcomienoaaGreat
open Go.RowKit

section
variable {β : Type} (key : β → PK)
/-- in order by keys: each ahead of the first one that is not less -/
def insK (x : β) : List β → List β
  | [] => [x]
  | y :: r => if ltK (key y) (key x) then y :: insK x r else x :: y :: r
def sortK (L : List β) : List β := L.foldl (fun o x => insK key x o) []
def ltB (x y : β) : Bool := ltK (key x) (key y)
variable {key}
theorem insK_perm (x : β) : ∀ L : List β, (insK key x L).Perm (x :: L)
  | [] => List.Perm.refl _
  | y :: r => by
    unfold insK
    split
    · exact ((insK_perm x r).cons y).trans (List.Perm.swap x y r)
    · exact List.Perm.refl _
theorem sortK_foldl (L M : List β) : (L.foldl (fun o x => insK key x o) M).Perm (L ++ M) := by
  induction L generalizing M with
  | nil => exact List.Perm.refl _
  | cons x r ih =>
    rw [List.foldl_cons]
    refine (ih _).trans ?_
    exact (List.Perm.append_left r (insK_perm x M)).trans List.perm_middle
theorem sortK_perm (L : List β) : (sortK key L).Perm L := by simpa [sortK] using sortK_foldl (key := key) L []
theorem ltB_asymm (x y : β) (h : ltB key x y = true) : ltB key y x = false := ltK_asymm _ _ h
theorem insK_ord {x : β} : ∀ {L : List β}, Kl.Ordered (ltB key) L → (∀ y ∈ L, key y ≠ key x) → Kl.Ordered (ltB key) (insK key x L)
  | [], _, _ => List.pairwise_singleton _ _
  | y :: r, h, hn => by
    have h' := List.pairwise_cons.1 h
    unfold insK
    split
    · rename_i hy
      refine List.pairwise_cons.2 ⟨fun z hz => ?_, insK_ord h'.2 fun z hz => hn z (List.mem_cons_of_mem _ hz)⟩
      rcases List.mem_cons.1 ((insK_perm x r).mem_iff.1 hz) with rfl | hz
      · exact hy
      · exact h'.1 z hz
    · rename_i hy
      have hx : ltK (key x) (key y) = true := by
        rcases ltK_total (key y) (key x) with h3 | h3 | h3
        · exact absurd h3 hy
        · exact absurd h3 (hn y List.mem_cons_self)
        · exact h3
      refine List.pairwise_cons.2 ⟨fun z hz => ?_, h⟩
      rcases List.mem_cons.1 hz with rfl | hz
      · exact hx
      · exact ltK_trans hx (h'.1 z hz)
theorem sortK_ord {L : List β} (hn : (L.map key).Nodup) : Kl.Ordered (ltB key) (sortK key L) := by
  have : ∀ (L M : List β), ((L ++ M).map key).Nodup → Kl.Ordered (ltB key) M → Kl.Ordered (ltB key) (L.foldl (fun o x => insK key x o) M) := by
    intro L
    induction L with
    | nil => intro M _ h; exact h
    | cons x r ih =>
      intro M hn h
      rw [List.foldl_cons]
      have hp : ((r ++ insK key x M).map key).Perm ((x :: r ++ M).map key) := ((List.Perm.append_left r (insK_perm x M)).trans List.perm_middle).map _
      refine ih _ (hp.symm.nodup hn) (insK_ord h fun y hy e => ?_)
      rw [List.cons_append, List.map_cons, List.nodup_cons] at hn
      exact hn.1 (by rw [← e]; exact List.mem_map_of_mem (List.mem_append_right _ hy))
  exact this L [] (by simpa using hn) List.Pairwise.nil
/-- in order, with the same things: it is the sorted one -/
theorem sortK_is {L M : List β} (hn : (L.map key).Nodup) (h : Kl.Ordered (ltB key) M) (hp : M.Perm L) : M = sortK key L :=
  Kl.ordered_eq ltB_asymm h (sortK_ord hn) (hp.trans (sortK_perm L).symm)
theorem ordered_nodup {L : List β} (h : Kl.Ordered (ltB key) L) : (L.map key).Nodup := by
  rw [List.nodup_iff_pairwise_ne, List.pairwise_map]
  refine List.Pairwise.imp (fun {x y} h e => ?_) h
  unfold ltB at h
  rw [e, ltK_irr] at h
  cases h
end

abbrev Sg := Bool × List Int
/-- what is said of routes -/
structure At where
  o : Int
  p : List Sg
  nx : Int
  md : Int
  pf : Int
  c : List Int
deriving Inhabited, DecidableEq
def atZ : At := ⟨0, [], 0, 0, 0, []⟩
/-- what is said of a prefix -/
structure Sy where
  k : PK
  a : At
deriving Inhabited, DecidableEq
/-- an update -/
structure Up where
  gone : List Nl
  routes : List Nl
  a : At
  soft : Bool
deriving Inhabited, DecidableEq

/-- so many fit into so many bytes -/
def fitI (sz : Nl → Nat) : Nat → Nat → List Nl → Nat
  | _, _, [] => 0
  | _, 0, _ :: _ => 0
  | room, cap + 1, x :: r => if sz x ≤ room then fitI sz (room - sz x) cap r + 1 else 0
theorem fitI_pos {sz : Nl → Nat} {L : List Nl} {room cap : Nat} (hL : L ≠ []) (hc : 0 < cap) (hr : ∀ x ∈ L, sz x ≤ room) : 1 ≤ fitI sz room cap L := by
  cases L with
  | nil => exact absurd rfl hL
  | cons x r =>
    cases cap with
    | zero => omega
    | succ cap =>
      unfold fitI
      rw [if_pos (hr x List.mem_cons_self)]
      omega

/-- in pieces, as many as f says each time -/
def chunksI {α : Type} (f : List α → Nat) : Nat → List α → List (List α)
  | 0, _ => []
  | _ + 1, [] => []
  | n + 1, x :: r => (x :: r).take (f (x :: r)) :: chunksI f n ((x :: r).drop (f (x :: r)))
theorem chunksI_nil {α : Type} (f : List α → Nat) (n : Nat) : chunksI f n [] = [] := by cases n <;> rfl
theorem chunksI_cons {α : Type} (f : List α → Nat) (n : Nat) {l : List α} (h : l ≠ []) : chunksI f (n + 1) l = l.take (f l) :: chunksI f n (l.drop (f l)) := by
  cases l with
  | nil => exact absurd rfl h
  | cons x r => rfl
/-- updates of prefixes that go -/
def goneI (sz : Nl → Nat) (L : List Nl) : List Up := (chunksI (fitI sz 4073 1024) L.length L).map fun l => ⟨l, [], atZ, false⟩
def Sy.nl (s : Sy) : Nl := ⟨0, s.k.1, s.k.2⟩
/-- updates of what comes, by what is said; asz: how many bytes attributes have -/
def comeI (sz : Nl → Nat) (asz : At → Nat) : Nat → List Sy → List Up
  | 0, _ => []
  | _ + 1, [] => []
  | n + 1, s :: r => ((chunksI (fitI sz (4073 - asz s.a) 1024) ((s :: r).filter fun t => decide (t.a = s.a)).length (((s :: r).filter fun t => decide (t.a = s.a)).map Sy.nl)).map fun l => ⟨[], l, s.a, false⟩) ++ comeI sz asz n ((s :: r).filter fun t => !decide (t.a = s.a))
theorem comeI_nil (sz : Nl → Nat) (asz : At → Nat) (n : Nat) : comeI sz asz n [] = [] := by cases n <;> rfl
variable {sz : Nl → Nat} {asz : At → Nat}
end Go.Proofs.YtadoflcomienoaaGreat
/- What an argument that reads as data is in memory: ints, bools, strings, slices; structs by 'Reads.struct'. -/
namespace Go.Proofs.YtadoflcomienoaaGreat
open Go.ChangeShapes Go.WideShapes Go.ChangeAt Go.RowKit Go.Deep

/-- cells that read as data of type T are those of some a -/
structure Reads (P : Program) (T : TypeId) {α : Type} (cells : α → List Value) (ok : World → α → Prop) : Prop where
  read : ∀ {H : Type} {enc : TypeId × Value → H} {w : World} {spare : Nat → Bool} {held : Bool} {fuel : Nat} {cs : List Value} {x : DataW H × List MemPlace}, DataW.trod enc P w 0 spare held fuel T cs = some x → ∃ a, cs = cells a ∧ ok w a
theorem Reads.int {P : Program} {T : TypeId} {k : IntKind} (ht : P.underlying T = some (.int k)) : Reads P T (fun n : Int => [.int k n]) (fun _ n => (Lit.int k n).wf = true) :=
  ⟨fun h => by obtain ⟨n, e, _, hw⟩ := DataW.trod_int ht h; exact ⟨n, e, hw⟩⟩
theorem Reads.bool {P : Program} {T : TypeId} (ht : P.underlying T = some .bool) : Reads P T (fun b : Bool => [.bool b]) (fun _ _ => True) :=
  ⟨fun h => by obtain ⟨n, e, _⟩ := DataW.trod_bool ht h; exact ⟨n, e, trivial⟩⟩
theorem wf64 {n : Int} (h : (Lit.int .i64 n).wf = true) : -9223372036854775808 ≤ n ∧ n ≤ 9223372036854775807 := by
  simp only [Lit.wf, IntKind.min, IntKind.max, IntKind.signed, IntKind.bits, Bool.and_eq_true, decide_eq_true_eq] at h
  simpa using h
theorem wfu32 {n : Int} (h : (Lit.int .u32 n).wf = true) : 0 ≤ n ∧ n ≤ 4294967295 := by
  simp only [Lit.wf, IntKind.min, IntKind.max, IntKind.signed, IntKind.bits, Bool.and_eq_true] at h
  simpa using h
/-- a slice, and what it reads as -/
structure SlV (α : Type) where
  a : Option Addr
  n : Nat
  c : Nat
  l : List α
structure SlOk {α : Type} [Inhabited α] (R : Rep α) (ok : World → α → Prop) (w : World) (s : SlV α) : Prop where
  sl : R.Sl w s.a s.n s.c s.l
  nil : s.a = none → s.c = 0
  nc : s.n ≤ s.c
  cm : s.c ≤ maxLen
  all : ∀ x ∈ s.l, ok w x
theorem Reads.slice {P : Program} {t : TypeId} {α : Type} [Inhabited α] {R : Rep α} {ok : World → α → Prop} (ht : P.underlying t = some (.slice R.T)) (hk : P.cellsOf R.T = R.k) (h : Reads P R.T R.cells ok) :
    Reads P t (fun s : SlV α => [.slice s.a s.n s.c]) (SlOk R ok) :=
  ⟨fun {H enc w spare held fuel cs x} hx => by
    rcases open_slice ht hx with ⟨rfl, _⟩ | ⟨a, len, cap, m, n, D, Pl, rfl, _, hl, hm, hmm, _, hi⟩
    · exact ⟨⟨none, 0, 0, []⟩, rfl, ⟨⟨rfl, by show 0 ≤ maxLen; omega, fun h0 => absurd h0 (by show ¬ 0 < 0; omega)⟩, fun _ => rfl, Nat.le_refl _, by show 0 ≤ maxLen; omega, fun x hx => by cases hx⟩⟩
    · have hml : len ≤ m := by rw [hmm]; split <;> omega
      have hel : ∀ i, i < len → ∃ y : α, (∀ j, j < R.k → w.cell? (a.add (i * R.k + j)) = (R.cells y)[j]?) ∧ ok w y := by
        intro i hi'
        obtain ⟨cs', hc, ht'⟩ := hi i (by omega)
        rw [hk] at hc
        obtain ⟨y, rfl, hok⟩ := h.read ht'
        obtain ⟨_, _, hat⟩ := World.cells?_some hc
        exact ⟨y, fun j hj => by rw [← add_add]; exact hat j hj, hok⟩
      let f : Nat → α := fun i => if h0 : i < len then (hel i h0).choose else default
      have hf : ∀ i, i < len → (∀ j, j < R.k → w.cell? (a.add (i * R.k + j)) = (R.cells (f i))[j]?) ∧ ok w (f i) := fun i h0 => by
        have := (hel i h0).choose_spec
        simp only [f, h0, dif_pos]; exact this
      refine ⟨⟨some a, len, cap, (List.range len).map f⟩, rfl, ⟨⟨by simp, by show len ≤ maxLen; omega, fun h0 => ?_⟩, fun e => (by cases e), hl, hm, fun x hx => ?_⟩⟩
      · have hpos : 0 < len := h0
        have hk0 := R.pos
        have h00 := (hf 0 hpos).1 0 hk0
        have hsome : ∃ v, (R.cells (f 0))[0]? = some v := ⟨_, List.getElem?_eq_getElem (by rw [R.len]; exact hk0)⟩
        obtain ⟨v, hv⟩ := hsome
        rw [hv, Nat.zero_mul, Nat.add_zero] at h00
        have ha0 : a.add 0 = a := by unfold Addr.add; simp
        rw [ha0] at h00
        have hsp : a.spot = none := by
          unfold World.cell? at h00
          split at h00
          · split at h00
            · cases h00
            · rename_i hs; simpa using hs
          · cases h00
        obtain ⟨b, off, sp⟩ := a
        dsimp only at hsp
        subst hsp
        refine ⟨b, off, rfl, ⟨World.block_lt_of_cell? w _ h00, fun i hi' j hj => ?_⟩⟩
        have hi'' : i < len := by simpa using hi'
        have := (hf i hi'').1 j hj
        have hadd : (⟨b, off, none⟩ : Addr).add (i * R.k + j) = ⟨b, off + i * R.k + j, none⟩ := by
          unfold Addr.add
          split
          · rename_i h0; simp
          · simp [Nat.add_assoc]
        rw [hadd] at this
        rw [this]
        simp [List.getD_eq_getElem?_getD, hi'']
      · obtain ⟨i, hi', rfl⟩ := List.mem_map.1 hx
        exact (hf i (by simpa using hi')).2⟩
/-- the fields of a struct, each by what reads it -/
theorem Reads.fields {P : Program} {T : TypeId} {fs : Array Field} (ht : P.underlying T = some (.struct fs)) {H : Type} {enc : TypeId × Value → H} {w : World} {spare : Nat → Bool} {held : Bool} {fuel : Nat} {cs : List Value} {x : DataW H × List MemPlace}
    (h : DataW.trod enc P w 0 spare held fuel T cs = some x) : cs.length = P.cellsOf T ∧ ∀ (i : Nat) (f : Field), fs[i]? = some f → ∃ (n : Nat) (y : DataW H × List MemPlace), DataW.trod enc P w 0 spare held n f.type ((cs.drop f.offset).take (P.cellsOf f.type)) = some y := by
  obtain ⟨xs, n, _, _, hl, hlen, hx⟩ := DataW.trod_struct ht h
  refine ⟨hl, fun i f hf => ⟨n, ?_⟩⟩
  have hi : i < xs.length := by rw [hlen]; exact (Array.getElem?_eq_some_iff.1 hf).1
  exact ⟨xs[i], by rw [hx i f hf]; simp [hi]⟩
theorem Reads.conv {P : Program} {T : TypeId} {α β : Type} {cells : α → List Value} {ok : World → α → Prop} {cells' : β → List Value} {ok' : World → β → Prop} (h : Reads P T cells ok) (g : ∀ w a, ok w a → ∃ b, cells a = cells' b ∧ ok' w b) : Reads P T cells' ok' :=
  ⟨fun hx => by obtain ⟨a, rfl, hok⟩ := h.read hx; obtain ⟨b, e, hb⟩ := g _ a hok; exact ⟨b, e, hb⟩⟩
/-- an argument of one cell -/
theorem Reads.arg {P : Program} {T : TypeId} {α : Type} {cells : α → List Value} {ok : World → α → Prop} (h : Reads P T cells ok) {H : Type} {enc : TypeId × Value → H} {w : World} {spare : Nat → Bool} {held : Bool} {v : Value} {d : DataW H} {ps : List MemPlace}
    (hd : DataW.Trod enc P w 0 spare held T v d ps) : ∃ a, v.cells.toList = cells a ∧ ok w a := by
  obtain ⟨fuel, hf⟩ := hd
  exact h.read hf
end Go.Proofs.YtadoflcomienoaaGreat
/- A region that draws its order, in pieces: those of a set in whatever order, each of which reads, or calls what leaves the world in a class; one that comes up alone; and so on. -/
namespace Go.Proofs.YtadoflcomienoaaGreat
open Go Go.RowKit

section
variable {P : Program} {ops : Array Oper} {md : Region.Mode} {C : World → Prop}

def depsB (md : Region.Mode) (ops : Array Oper) (t : Nat) : List Nat := match ops[t]? with | some o => (o.after.toList.filter (fun e => Region.binds md e)).map (fun e => e.on) | none => []
def ancs (md : Region.Mode) (ops : Array Oper) (t : Nat) : List Nat := (List.range ops.size).reverse.foldl (fun S j => if S.contains j then depsB md ops j ++ S else S) (depsB md ops t)
def closedB (md : Region.Mode) (ops : Array Oper) (listed : Array Bool) : Bool := decide (listed.size = ops.size) && (List.range ops.size).all fun j => !(listed.getD j false) || (depsB md ops j).all fun i => listed.getD i false
structure SInv (md : Region.Mode) (ops : Array Oper) (l0 listed : Array Bool) : Prop where
  size : listed.size = ops.size
  closed : ∀ j, listed.getD j false = true → ∀ i ∈ depsB md ops j, listed.getD i false = true
  mono : ∀ j, l0.getD j false = true → listed.getD j false = true
theorem ready_deps {j : Nat} {listed : Array Bool} (h : j ∈ Region.ready md ops listed) : ∀ i ∈ depsB md ops j, listed.getD i false = true := by
  obtain ⟨_, o, ho, hall⟩ := mem_ready.1 h
  intro i hi
  unfold depsB at hi
  rw [ho] at hi
  obtain ⟨e, he, rfl⟩ := List.mem_map.1 hi
  obtain ⟨he, hb⟩ := List.mem_filter.1 he
  exact hall e (by simpa using he) hb
theorem SInv.set {l0 listed : Array Bool} (inv : SInv md ops l0 listed) {i : Nat} (hi : i ∈ Region.ready md ops listed) : SInv md ops l0 (listed.setIfInBounds i true) := by
  have hd := ready_deps hi
  refine ⟨by simp [inv.size], fun j hj k hk => ?_, fun j hj => getD_set_true (inv.mono j hj)⟩
  by_cases hij : i = j
  · subst hij; exact getD_set_true (hd k hk)
  · rw [getD_set_ne false hij] at hj
    exact getD_set_true (inv.closed j hj k hk)
theorem SInv.ancs {l0 listed : Array Bool} (inv : SInv md ops l0 listed) {t : Nat} (ht : t ∈ Region.ready md ops listed) : ∀ i ∈ ancs md ops t, listed.getD i false = true := by
  unfold YtadoflcomienoaaGreat.ancs
  have : ∀ (l S : List Nat), (∀ i ∈ S, listed.getD i false = true) → ∀ i ∈ l.foldl (fun S j => if S.contains j then depsB md ops j ++ S else S) S, listed.getD i false = true := by
    intro l
    induction l with
    | nil => intro S h; exact h
    | cons j l ih =>
      intro S h
      refine ih _ ?_
      dsimp only
      split
      · rename_i hc
        have hj := h j (by simpa using hc)
        intro i hi
        rcases List.mem_append.1 hi with hi | hi
        · exact inv.closed j hj i hi
        · exact h i hi
      · exact h
  exact this _ _ (ready_deps ht)
theorem sinv_of {listed : Array Bool} (h : closedB md ops listed = true) : SInv md ops listed listed := by
  simp only [closedB, Bool.and_eq_true, decide_eq_true_eq] at h
  refine ⟨h.1, fun j hj i hi => ?_, fun _ h => h⟩
  have h1 := List.all_eq_true.1 h.2 j
  by_cases hlt : j < ops.size
  · have h2 := h1 (List.mem_range.2 hlt)
    rw [hj, Bool.not_true, Bool.false_or] at h2
    exact List.all_eq_true.1 h2 i hi
  · unfold depsB at hi; rw [Array.getElem?_eq_none (by omega)] at hi; cases hi

/-- so many more operations come up, all of hd, each quiet; then L -/
def headS (P : Program) (md : Region.Mode) (ops : Array Oper) (C : World → Prop) (hd : List Nat) (L : Array Bool → Act → Prop) : Nat → Array Bool → Act → Prop
  | 0, listed, a => L listed a
  | f + 1, listed, a => Region.ready md ops listed ≠ [] ∧ ∀ i ∈ Region.ready md ops listed, i ∈ hd ∧ qOp P ops C i (headS P md ops C hd L f (listed.setIfInBounds i true)) a
theorem any_of_headS {hd : List Nat} {g : Nat} {L : Array Bool → Act → Prop} {Q' : Exit → Act → World → Prop} (hL : ∀ listed a w, C w → L listed a → wpAny P md ops Q' g listed a w) (f : Nat) :
    ∀ (listed : Array Bool) (a : Act) (w : World), C w → headS P md ops C hd L f listed a → wpAny P md ops Q' (f + g) listed a w := by
  induction f with
  | zero => intro listed a w hw h; rw [Nat.zero_add]; exact hL _ _ _ hw h
  | succ f ih =>
    intro listed a w hw h
    rw [Nat.succ_add]
    exact ⟨fun h0 => absurd h0 h.1, fun i hi => wpOp_of_qOp hw (fun a' w' hw' h' => ih _ a' w' hw' h') (h.2 i hi).2⟩
theorem headS_first {hd : List Nat} {l0 : Array Bool} {i : Nat} {oi : Oper} {v : Value} {L : Array Bool → Act → Prop} (hi : ops[i]? = some oi) (hsel : ∀ (j : Nat) (o : Oper) cs b, ops[j]? = some o → o.op ≠ .select cs b)
    (htw : ∀ listed, SInv md ops l0 listed → ∀ t ∈ Region.ready md ops listed, t ∉ hd → ∀ i ∈ hd, listed.getD i false = true) (hin : i ∈ hd) (hdone : ∀ listed a, L listed a → ∀ j ∈ Region.ready md ops listed, j ∉ hd) (f : Nat) :
    ∀ (listed : Array Bool) (a : Act), SInv md ops l0 listed →
      (∀ j oj, ops[j]? = some oj → j ≠ i → listed.getD j true = false → (∀ e ∈ oj.after, Region.binds md e = true → e.on ≠ i) → oi.apart ops oj = true) →
      i ∈ Region.ready md ops listed → YieldsIn P ops C oi v a → headS P md ops C hd L f (listed.setIfInBounds i true) (a.put oi.dst v) → headS P md ops C hd L (f + 1) listed a := by
  induction f with
  | zero =>
    intro listed a inv _ hr hy H
    have hun := (mem_ready.1 hr).1
    refine ⟨fun h => (by rw [h] at hr; cases hr), fun j hj => ?_⟩
    have hjn : j ∈ hd := Classical.byContradiction fun h => by have := htw _ inv j hj h i hin; rw [getD_both hun] at this; cases this
    refine ⟨hjn, ?_⟩
    by_cases hji : j = i
    · subst hji; exact hy.qOp hi H
    · exact absurd hjn (hdone _ _ H j (ready_mono hj hji))
  | succ f ih =>
    intro listed a inv hfree hr hy H
    have hun := (mem_ready.1 hr).1
    refine ⟨fun h => (by rw [h] at hr; cases hr), fun j hj => ?_⟩
    have hjn : j ∈ hd := Classical.byContradiction fun h => by have := htw _ inv j hj h i hin; rw [getD_both hun] at this; cases this
    refine ⟨hjn, ?_⟩
    by_cases hji : j = i
    · subst hji; exact hy.qOp hi H
    obtain ⟨hjun, oj, hoj, hall⟩ := mem_ready.1 hj
    have hnot : ∀ e ∈ oj.after, Region.binds md e = true → e.on ≠ i := by
      intro e he hb heq
      have h1 := hall e he hb
      rw [heq, getD_both hun] at h1
      cases h1
    have h2 := qOp_put hoj (hfree j oj hoj hji hjun hnot) (fun cs b => hsel i oi cs b hi) (fun cs b => hsel j oj cs b hoj) hy (H.2 j (ready_mono hj hji)).2
    refine qOp_mono (fun a' h3 => ih (listed.setIfInBounds j true) a' (inv.set hj) ?_ (ready_mono hr (Ne.symm hji)) h3.1 ?_) h2
    · intro k ok hk hki hun' hno
      refine hfree k ok hk hki ?_ hno
      by_cases hjk : j = k
      · subst hjk; exact hjun
      · rw [getD_set_ne true hjk] at hun'; exact hun'
    · rw [Array.setIfInBounds_comm _ _ hji]; exact h3.2
/-- in this order they come up, each apart from what is not there yet -/
def lexS (md : Region.Mode) (ops : Array Oper) (hd : List Nat) : List Nat → Array Bool → Bool
  | [], listed => (Region.ready md ops listed).all (fun j => !hd.contains j)
  | k :: r, listed => (Region.ready md ops listed).contains k && hd.contains k && Region.free md ops listed k && lexS md ops hd r (listed.setIfInBounds k true)
def setAll (l : List Nat) (listed : Array Bool) : Array Bool := l.foldl (fun s i => s.setIfInBounds i true) listed
theorem headS_lex {hd : List Nat} {l0 : Array Bool} {Lq : Act → Prop} (hsel : Region.noSelect ops = true)
    (htw : ∀ listed, SInv md ops l0 listed → ∀ t ∈ Region.ready md ops listed, t ∉ hd → ∀ i ∈ hd, listed.getD i false = true) (l : List Nat) :
    ∀ (listed : Array Bool) (a : Act), SInv md ops l0 listed → lexS md ops hd l listed = true → wpQuiet P ops C Lq (pick ops.toList l) a →
    headS P md ops C hd (fun listed' a' => (listed' = setAll l listed ∧ ((Region.ready md ops listed').all (fun j => !hd.contains j)) = true) ∧ Lq a') l.length listed a := by
  induction l with
  | nil => intro listed a _ hB h; exact ⟨⟨rfl, by simpa [lexS] using hB⟩, h⟩
  | cons k l ih =>
    intro listed a inv hB h
    simp only [lexS, Bool.and_eq_true] at hB
    obtain ⟨⟨⟨hr, hin⟩, hf⟩, hB'⟩ := hB
    have hr' : k ∈ Region.ready md ops listed := by simpa using hr
    obtain ⟨o, h0⟩ := ready_lt hr'
    have hp : pick ops.toList (k :: l) = o :: pick ops.toList l := by simp [pick, List.getD_eq_getElem?_getD, h0]
    rw [hp] at h
    have hq : qOp P ops C k (wpQuiet P ops C Lq (pick ops.toList l)) a := by unfold qOp; simp only [h0]; exact h
    obtain ⟨v, hy, hK⟩ := yieldsIn_of_qOp h0 hq
    refine headS_first h0 (Region.noSelect_spec hsel) htw (by simpa using hin) (fun listed' a' hL j hj => ?_) l.length listed a inv (Region.free_spec h0 hf) hr' hy ?_
    · have := List.all_eq_true.1 hL.1.2 j hj
      simpa using this
    · exact ih _ _ (inv.set hr') hB' hK
/-- may a piece be taken so -/
def segB (md : Region.Mode) (ops : Array Oper) (hd : List Nat) (l0 : Array Bool) : Bool :=
  Region.noSelect ops && closedB md ops l0 && lexS md ops hd hd l0 && (List.range ops.size).all fun t => hd.contains t || l0.getD t false || hd.all fun i => (ancs md ops t).contains i
theorem wpAny_seg {Q : Exit → Act → World → Prop} {g : Nat} (C : World → Prop) (hd : List Nat) {n : Nat} (hn : hd.length + g = n) {l0 : Array Bool} {a : Act} {w : World} (hB : segB md ops hd l0 = true) (hw : C w)
    (h : wpQuiet P ops C (fun a' => ∀ w', C w' → wpAny P md ops Q g (setAll hd l0) a' w') (pick ops.toList hd) a) : wpAny P md ops Q n l0 a w := by
  subst hn
  simp only [segB, Bool.and_eq_true] at hB
  obtain ⟨⟨⟨h1, h2⟩, h3⟩, h4⟩ := hB
  have inv := sinv_of h2
  have htw : ∀ listed, SInv md ops l0 listed → ∀ t ∈ Region.ready md ops listed, t ∉ hd → ∀ i ∈ hd, listed.getD i false = true := by
    intro listed inv t ht hth i hi
    obtain ⟨hun, o, ho, _⟩ := mem_ready.1 ht
    have h5 := List.all_eq_true.1 h4 t (List.mem_range.2 (Array.getElem?_eq_some_iff.1 ho).1)
    simp only [Bool.or_eq_true] at h5
    rcases h5 with (h5 | h5) | h5
    · exact absurd (by simpa using h5) hth
    · have := inv.mono t h5; rw [getD_both hun] at this; cases this
    · exact inv.ancs ht i (by simpa using List.all_eq_true.1 h5 i hi)
  refine any_of_headS (C := C) (hd := hd) (fun listed' a' w' hw' hL => ?_) hd.length l0 a w hw (headS_lex h1 htw hd l0 a inv h3 h)
  obtain ⟨⟨rfl, _⟩, hL⟩ := hL
  exact hL w' hw'
theorem wp_then {o : Oper} {a : Act} {w : World} {K K0 : Act → World → Prop} {Q : Exit → Act → World → Prop} (h : o.wp P a w K (Exit.then K0 Q)) : o.wp P a w K Q := by
  unfold Oper.wp at *
  generalize (execOp a.eval o).run P w = r at *
  cases r with
  | ok x w' =>
    cases x <;> simp only [Oper.upon] at h ⊢ <;>
      first
        | exact h
        | exact h.mono (fun e w'' he => by cases e <;> first | exact he | exact (let ⟨a, w, h⟩ := he; ⟨a, w, h⟩))
  | halt x w' => cases x <;> simp only [Oper.upon] at h ⊢ <;> exact h
/-- one that comes up alone -/
theorem wpAny_one {Q : Exit → Act → World → Prop} {g : Nat} (i : Nat) {l0 : Array Bool} {a : Act} {w : World} (hB : decide (Region.ready md ops l0 = [i]) = true)
    (h : wpList P ops (Exit.then (wpAny P md ops Q g (l0.setIfInBounds i true)) Q) (pick ops.toList [i]) a w) : wpAny P md ops Q (g + 1) l0 a w := by
  have hr : Region.ready md ops l0 = [i] := by simpa using hB
  obtain ⟨o, ho⟩ := ready_lt (md := md) (ops := ops) (listed := l0) (i := i) (by rw [hr]; simp)
  refine wpAny_all hr (by simp) fun j hj => ?_
  obtain rfl : j = i := by simpa using hj
  have hp : pick ops.toList [j] = [o] := by simp [pick, List.getD_eq_getElem?_getD, ho]
  rw [hp] at h
  unfold wpOp
  simp only [ho]
  unfold wpList at h
  by_cases hw : Region.wanted o (yielded ops a.tmps) = true
  · rw [if_pos hw] at h ⊢
    refine h.imp (fun h => wp_then (Oper.wp_mono (fun a' w' h' => h') h)) (fun h => ⟨h.1, let ⟨a, w, h⟩ := h.2; ⟨a, w, h⟩⟩)
  · rw [if_neg hw] at h ⊢
    exact h
def pureS (md : Region.Mode) (ops : Array Oper) : List Nat → Array Bool → Bool
  | [], _ => true
  | i :: r, listed => (Region.ready md ops listed).contains i && Region.free md ops listed i && pureS md ops r (listed.setIfInBounds i true)
theorem pureS_go {Q : Exit → Act → World → Prop} {g : Nat} {w : World} (hsel : Region.noSelect ops = true) (hQ : ∀ c (a : Act) d v w, Q (.panic c) (a.put d v) w → Q (.panic c) a w) : ∀ (hd : List Nat) (l0 : Array Bool) (a : Act), pureS md ops hd l0 = true → wpPure P ops (fun a' => wpAny P md ops Q g (setAll hd l0) a' w) (pick ops.toList hd) a → wpAny P md ops Q (hd.length + g) l0 a w
  | [], l0, a, _, h => by rw [List.length_nil, Nat.zero_add]; exact h
  | i :: r, l0, a, hB, h => by
    simp only [pureS, Bool.and_eq_true] at hB
    obtain ⟨⟨hr, hf⟩, hB'⟩ := hB
    obtain ⟨o, ho⟩ := ready_lt (md := md) (ops := ops) (listed := l0) (i := i) (by simpa using hr)
    have hp : pick ops.toList (i :: r) = o :: pick ops.toList r := by simp [pick, List.getD_eq_getElem?_getD, ho]
    rw [hp] at h
    rw [List.length_cons, Nat.succ_add]
    unfold wpPure at h
    by_cases hw : Region.wanted o (yielded ops a.tmps) = true
    · rw [if_pos hw] at h
      obtain ⟨v, hv, hrest⟩ := h
      exact wpAny_take ho hsel hf hr (fun c a w => hQ c a _ _ w) (.inl ⟨hw, hv⟩) (pureS_go hsel hQ r _ _ hB' hrest)
    · rw [if_neg hw] at h
      exact wpAny_take ho hsel hf hr (fun c a w => hQ c a _ _ w) (.inr ⟨by simpa using hw, rfl⟩) (pureS_go hsel hQ r _ _ hB' h)
/-- those that only compute may be taken first -/
theorem wpAny_pure {Q : Exit → Act → World → Prop} {g n : Nat} (hd : List Nat) (hn : hd.length + g = n) {l0 : Array Bool} {a : Act} {w : World} (hB : (Region.noSelect ops && pureS md ops hd l0) = true) (hQ : ∀ c (a : Act) d v w, Q (.panic c) (a.put d v) w → Q (.panic c) a w)
    (h : wpPure P ops (fun a' => wpAny P md ops Q g (setAll hd l0) a' w) (pick ops.toList hd) a) : wpAny P md ops Q n l0 a w := by
  subst hn
  simp only [Bool.and_eq_true] at hB
  exact pureS_go hB.1 hQ hd l0 a hB.2 h
theorem wp_region_pieces {id : Nat} {Q : Exit → Act → World → Prop} {a : Act} {w : World} {l : List Oper} (hm : P.follows .mixedOrders = true)
    (h : wpAny P .any l.toArray Q l.length (Array.replicate l.length false) a w.drew) : (Code.region id l.toArray true).wp P Q a w := by
  refine wp_region_any hm ?_
  simpa using h
/-- operations that read, in every world that meets S, the same; then L -/
def wpRead (P : Program) (ops : Array Oper) (S : World → Prop) (L : Act → Prop) : List Oper → Act → Prop
  | [], a => L a
  | o :: rest, a => if Region.wanted o (yielded ops a.tmps) = true then ∃ v, (∀ w, S w → (execOp a.eval o).run P w = .ok (.value v) w) ∧ wpRead P ops S L rest (a.put o.dst v) else wpRead P ops S L rest (a.put o.dst undef)
theorem wpRead_nil {S : World → Prop} {L : Act → Prop} {a : Act} (h : L a) : wpRead P ops S L [] a := h
theorem wpRead_step {S : World → Prop} {L : Act → Prop} {a : Act} {o : Oper} {rest : List Oper}
    (h : ∀ K : Act → Prop, (∀ a, wpRead P ops S L rest a → K a) → if Region.wanted o (yielded ops a.tmps) = true then ∃ v, (∀ w, S w → (execOp a.eval o).run P w = .ok (.value v) w) ∧ K (a.put o.dst v) else K (a.put o.dst undef)) : wpRead P ops S L (o :: rest) a :=
  h _ (fun _ h => h)
theorem reads_go {S : World → Prop} {Q : Exit → Act → World → Prop} {g : Nat} {w : World} (hsel : Region.noSelect ops = true) (hS : S w) (hQ : ∀ c (a : Act) d v w, Q (.panic c) (a.put d v) w → Q (.panic c) a w) : ∀ (hd : List Nat) (l0 : Array Bool) (a : Act), pureS md ops hd l0 = true → wpRead P ops S (fun a' => wpAnyH P md ops Q S g (setAll hd l0) a' w) (pick ops.toList hd) a → wpAnyH P md ops Q S (hd.length + g) l0 a w
  | [], l0, a, _, h => by rw [List.length_nil, Nat.zero_add]; exact h
  | i :: r, l0, a, hB, h => by
    simp only [pureS, Bool.and_eq_true] at hB
    obtain ⟨⟨hr, hf⟩, hB'⟩ := hB
    obtain ⟨o, ho⟩ := ready_lt (md := md) (ops := ops) (listed := l0) (i := i) (by simpa using hr)
    have hp : pick ops.toList (i :: r) = o :: pick ops.toList r := by simp [pick, List.getD_eq_getElem?_getD, ho]
    rw [hp] at h
    rw [List.length_cons, Nat.succ_add]
    unfold wpRead at h
    by_cases hw : Region.wanted o (yielded ops a.tmps) = true
    · rw [if_pos hw] at h
      obtain ⟨v, hv, hrest⟩ := h
      exact wpAnyH_take ho hsel hf hr (fun c a w => hQ c a _ _ w) (.inl ⟨hw, hv⟩) hS (reads_go hsel hS hQ r _ _ hB' hrest)
    · rw [if_neg hw] at h
      exact wpAnyH_take ho hsel hf hr (fun c a w => hQ c a _ _ w) (.inr ⟨by simpa using hw, rfl⟩) hS (reads_go hsel hS hQ r _ _ hB' h)
/-- those that only read what S says may be taken first -/
theorem held_reads {S : World → Prop} {Q : Exit → Act → World → Prop} {g n : Nat} (hd : List Nat) (hn : hd.length + g = n) {l0 : Array Bool} {a : Act} {w : World} (hB : (Region.noSelect ops && pureS md ops hd l0) = true) (hS : S w) (hQ : ∀ c (a : Act) d v w, Q (.panic c) (a.put d v) w → Q (.panic c) a w)
    (h : wpRead P ops S (fun a' => wpAnyH P md ops Q S g (setAll hd l0) a' w) (pick ops.toList hd) a) : wpAnyH P md ops Q S n l0 a w := by
  subst hn
  simp only [Bool.and_eq_true] at hB
  exact reads_go hB.1 hS hQ hd l0 a hB.2 h
/-- one that comes up alone: behind it S holds -/
theorem held_one {S : World → Prop} {Q : Exit → Act → World → Prop} {g : Nat} (i : Nat) {l0 : Array Bool} {a : Act} {w : World} (hB : decide (Region.ready md ops l0 = [i]) = true)
    (h : wpList P ops (Exit.then (fun a' w' => S w' ∧ wpAnyH P md ops Q S g (l0.setIfInBounds i true) a' w') Q) (pick ops.toList [i]) a w) : wpAnyH P md ops Q S (g + 1) l0 a w := by
  have hr : Region.ready md ops l0 = [i] := by simpa using hB
  obtain ⟨o, ho⟩ := ready_lt (md := md) (ops := ops) (listed := l0) (i := i) (by rw [hr]; simp)
  refine wpAnyH_all hr (by simp) fun j hj => ?_
  obtain rfl : j = i := by simpa using hj
  have hp : pick ops.toList [j] = [o] := by simp [pick, List.getD_eq_getElem?_getD, ho]
  rw [hp] at h
  unfold wpOp
  simp only [ho]
  unfold wpList at h
  by_cases hw : Region.wanted o (yielded ops a.tmps) = true
  · rw [if_pos hw] at h ⊢
    refine h.imp (fun h => wp_then (Oper.wp_mono (fun a' w' h' => h') h)) (fun h => ⟨h.1, let ⟨a, w, h⟩ := h.2; ⟨a, w, h⟩⟩)
  · rw [if_neg hw] at h ⊢
    exact h
theorem wp_region_heldP {id : Nat} {Q : Exit → Act → World → Prop} {a : Act} {w : World} {l : List Oper} (S : World → Prop) (hm : P.follows .mixedOrders = true)
    (h : wpAnyH P .any l.toArray Q S l.length (Array.replicate l.length false) a w.drew) : (Code.region id l.toArray true).wp P Q a w := by
  refine wp_region_held (S := S) hm ?_
  simpa using h
end
end Go.Proofs.YtadoflcomienoaaGreat
/- Small facts that all walks use. -/
namespace Go.Proofs.YtadoflcomienoaaGreat
open Go.RowKit
open Go.ChangeMaps (setBlock)
theorem bcall {B : Nat} {w w2 w3 : World} (h : Below B w w2) (hB : B ≤ w.heap.size) (h3 : Below w2.heap.size w2 w3) : Below B w w3 := h.trans (h3.mono (Nat.le_trans hB h.size))
theorem wrapS {i n : Nat} (h : i < n) (hn : n ≤ maxLen) : wrap64 ((i : Int) + 1) = ((i + 1 : Nat) : Int) := by unfold maxLen at hn; unfold wrap64; omega
theorem mSucc {i n : Nat} (h : i < n) : n - (intOf (.int .i64 ((i + 1 : Nat) : Int))).toNat < n - (intOf (.int .i64 (i : Int))).toNat := by show n - ((i + 1 : Nat) : Int).toNat < n - (i : Int).toNat; omega
theorem wfI {n : Int} (h : -9223372036854775808 ≤ n ∧ n ≤ 9223372036854775807) : (Lit.int .i64 n).wf = true := by
  simp only [Lit.wf, IntKind.min, IntKind.max, IntKind.signed, IntKind.bits, Bool.and_eq_true, decide_eq_true_eq]; simpa using h
theorem wfU {n : Int} (h : 0 ≤ n ∧ n ≤ 4294967295) : (Lit.int .u32 n).wf = true := by
  simp only [Lit.wf, IntKind.min, IntKind.max, IntKind.signed, IntKind.bits, Bool.and_eq_true]; simpa using h
def seenN (w : World) (b : Nat) : Nat := match w.heap[b]? with
  | some (.mapIter _ _ seen _) => seen.size
  | _ => 0
theorem seenN_of {w : World} {b : Nat} {m : Option Nat} {c : Nat} {seen : Array Nat} {d : Nat} (h : w.heap[b]? = some (.mapIter m c seen d)) : seenN w b = seen.size := by unfold seenN; rw [h]
end Go.Proofs.YtadoflcomienoaaGreat
/- Two operations that come up together. -/
namespace Go.Proofs.YtadoflcomienoaaGreat
open Go Go.RowKit

section
variable {P : Program} {ops : Array Oper} {md : Region.Mode} {S : World → Prop}

/-- two that come up, in whatever order -/
theorem held_two {Q : Exit → Act → World → Prop} {g : Nat} (i j : Nat) {l0 : Array Bool} {a : Act} {w : World} (hB : decide (Region.ready md ops l0 = [i, j]) = true)
    (h1 : wpList P ops (Exit.then (fun a' w' => S w' ∧ wpAnyH P md ops Q S g (l0.setIfInBounds i true) a' w') Q) (pick ops.toList [i]) a w)
    (h2 : wpList P ops (Exit.then (fun a' w' => S w' ∧ wpAnyH P md ops Q S g (l0.setIfInBounds j true) a' w') Q) (pick ops.toList [j]) a w) : wpAnyH P md ops Q S (g + 1) l0 a w := by
  have hr : Region.ready md ops l0 = [i, j] := by simpa using hB
  have go : ∀ k, k ∈ [i, j] → wpList P ops (Exit.then (fun a' w' => S w' ∧ wpAnyH P md ops Q S g (l0.setIfInBounds k true) a' w') Q) (pick ops.toList [k]) a w → wpOp P ops Q k (fun a' w' => S w' ∧ wpAnyH P md ops Q S g (l0.setIfInBounds k true) a' w') a w := by
    intro k hk h
    obtain ⟨o, ho⟩ := ready_lt (md := md) (ops := ops) (listed := l0) (i := k) (by rw [hr]; exact hk)
    have hp : pick ops.toList [k] = [o] := by simp [pick, List.getD_eq_getElem?_getD, ho]
    rw [hp] at h
    unfold wpOp
    simp only [ho]
    unfold wpList at h
    by_cases hw : Region.wanted o (yielded ops a.tmps) = true
    · rw [if_pos hw] at h ⊢
      refine h.imp (fun h => wp_then (Oper.wp_mono (fun a' w' h' => h') h)) (fun h => ⟨h.1, let ⟨a, w, h⟩ := h.2; ⟨a, w, h⟩⟩)
    · rw [if_neg hw] at h ⊢
      exact h
  refine wpAnyH_all hr (by simp) fun k hk => go k hk ?_
  simp only [List.mem_cons, List.not_mem_nil, or_false] at hk
  rcases hk with rfl | rfl
  · exact h1
  · exact h2
end
end Go.Proofs.YtadoflcomienoaaGreat
