/- Detours in order of their prefixes: the plain law. -/
import Derived.Test.YtfmehahjjgalfaaRb
import Derived.Test.YtfmehahjjgalfaaKl
import Derived.Test.YtfmehahjjgalfaaGd
namespace Go.Proofs.Ytfmehahjjgalfaa
open Go.RowKit

structure Ov where
  r : Int
  ad : Nat
  ln : Int
  id : Int
  till : Int
deriving Inhabited, DecidableEq
def Ov.v (o : Ov) : Value := .agg #[.int .i64 o.r, .int .u32 (o.ad : Int), .int .i64 o.ln, .int .i64 o.id, .int .i64 o.till]
def ROv : Rep Ov := ⟨62, 5, by decide, fun o => [.int .i64 o.r, .int .u32 (o.ad : Int), .int .i64 o.ln, .int .i64 o.id, .int .i64 o.till], fun _ => rfl, fun _ => rfl⟩
def ovZ : Ov := ⟨0, 0, 0, 0, 0⟩
abbrev PK := Nat × Int
def Ov.key (o : Ov) : PK := (o.ad, o.ln)
def cmpK (a b : PK) : Int := cmpP a.1 a.2 b.1 b.2
def ltK (a b : PK) : Bool := decide (cmpK a b = -1)
def ltO (a b : Ov) : Bool := ltK a.key b.key
theorem ltK_iff {a b : PK} : ltK a b = true ↔ a.1 < b.1 ∨ (a.1 = b.1 ∧ a.2 < b.2) := by
  unfold ltK cmpK cmpP
  rw [decide_eq_true_eq]
  split
  · simp_all
  · split <;> simp_all
theorem ltK_asymm (a b : PK) (h : ltK a b = true) : ltK b a = false := by
  rw [Bool.eq_false_iff]
  intro h2
  rw [ltK_iff] at h h2
  omega
theorem ltK_trans {a b c : PK} (h : ltK a b = true) (h2 : ltK b c = true) : ltK a c = true := by
  rw [ltK_iff] at *
  omega
theorem ltK_irr (a : PK) : ltK a a = false := by
  rw [Bool.eq_false_iff]; intro h; rw [ltK_iff] at h; omega
theorem key_eq {a b : PK} (h1 : a.1 = b.1) (h2 : a.2 = b.2) : a = b := Prod.ext h1 h2
theorem ltK_total (a b : PK) : ltK a b = true ∨ a = b ∨ ltK b a = true := by
  rw [ltK_iff, ltK_iff]
  by_cases h : a = b
  · exact .inr (.inl h)
  · have : ¬ (a.1 = b.1 ∧ a.2 = b.2) := fun h' => h (key_eq h'.1 h'.2)
    omega
theorem ltO_asymm (a b : Ov) (h : ltO a b = true) : ltO b a = false := ltK_asymm _ _ h
theorem ltO_trans {a b c : Ov} (h : ltO a b = true) (h2 : ltO b c = true) : ltO a c = true := ltK_trans h h2
theorem cmpK_lt {a b : PK} : cmpK a b < 0 ↔ ltK a b = true := by
  unfold ltK cmpK cmpP
  rw [decide_eq_true_eq]
  split
  · simp
  · split <;> simp
theorem cmpK_ge {a b : PK} : 0 ≤ cmpK a b ↔ ltK a b = false := by
  have := @cmpK_lt a b
  cases h : ltK a b with
  | true => have := this.2 h; simp; omega
  | false => rw [h] at this; simp at this; simp; omega
abbrev Ord (L : List Ov) : Prop := Kl.Ordered ltO L
theorem Ord.keys {L : List Ov} (h : Ord L) : (L.map Ov.key).Nodup := by
  rw [List.Nodup, List.pairwise_map]
  exact h.imp fun {a b} hab e => by
    unfold ltO at hab
    rw [e, ltK_irr] at hab
    cases hab
theorem Ord.filter {L : List Ov} (h : Ord L) (p : Ov → Bool) : Ord (L.filter p) := h.sublist List.filter_sublist
theorem Ord.nil : Ord [] := List.Pairwise.nil
/-- behind a one is set -/
def setO (L : List Ov) (o : Ov) : List Ov := L.filter (fun x => ltO x o) ++ o :: L.filter (fun x => ltO o x)
theorem Ord.set {L : List Ov} (h : Ord L) (o : Ov) : Ord (setO L o) := by
  unfold setO Ord Kl.Ordered
  rw [List.pairwise_append]
  refine ⟨h.filter _, List.pairwise_cons.2 ⟨fun x hx => (List.mem_filter.1 hx).2, h.filter _⟩, fun a ha b hb => ?_⟩
  have h1 := (List.mem_filter.1 ha).2
  rcases List.mem_cons.1 hb with rfl | hb
  · exact h1
  · exact ltO_trans h1 (List.mem_filter.1 hb).2
theorem mem_set {L : List Ov} {o x : Ov} : x ∈ setO L o ↔ x = o ∨ (x ∈ L ∧ x.key ≠ o.key) := by
  unfold setO
  simp only [List.mem_append, List.mem_cons, List.mem_filter]
  constructor
  · rintro (⟨h1, h2⟩ | rfl | ⟨h1, h2⟩)
    · exact .inr ⟨h1, fun e => by unfold ltO at h2; rw [e, ltK_irr] at h2; cases h2⟩
    · exact .inl rfl
    · exact .inr ⟨h1, fun e => by unfold ltO at h2; rw [e, ltK_irr] at h2; cases h2⟩
  · rintro (rfl | ⟨h1, h2⟩)
    · exact .inr (.inl rfl)
    · rcases ltK_total x.key o.key with h | h | h
      · exact .inl ⟨h1, h⟩
      · exact absurd h h2
      · exact .inr (.inr ⟨h1, h⟩)
theorem look_set {L : List Ov} (h : Ord L) (o : Ov) (k : PK) : Kl.look Ov.key (setO L o) k = if k = o.key then some o else Kl.look Ov.key L k := by
  have hn := (h.set o).keys
  split
  · rename_i e; exact (Kl.look_some hn).2 ⟨mem_set.2 (.inl rfl), e.symm⟩
  · rename_i e
    cases hl : Kl.look Ov.key L k with
    | none =>
      refine Kl.look_no fun x hx => ?_
      rcases mem_set.1 hx with rfl | ⟨h1, -⟩
      · exact Ne.symm e
      · exact Kl.look_none hl h1
    | some y =>
      obtain ⟨h1, h2⟩ := Kl.look_mem hl
      exact (Kl.look_some hn).2 ⟨mem_set.2 (.inr ⟨h1, by rw [h2]; exact e⟩), h2⟩
/-- where a prefix stands, or would -/
def idxO (L : List Ov) (k : PK) : Nat := (L.takeWhile fun x => ltK x.key k).length
def hasO (L : List Ov) (k : PK) : Bool := (Kl.look Ov.key L k).isSome
theorem idx_le (L : List Ov) (k : PK) : idxO L k ≤ L.length := by
  unfold idxO; exact (List.takeWhile_sublist _).length_le
theorem idx_cons (x : Ov) (L : List Ov) (k : PK) : idxO (x :: L) k = if ltK x.key k then idxO L k + 1 else 0 := by
  unfold idxO
  rw [List.takeWhile_cons]
  split <;> rfl
theorem filter_none {L : List Ov} {x : Ov} {k : PK} (h : ∀ y ∈ L, ltO x y = true) (hk : ltK x.key k = false) : L.filter (fun y => ltK y.key k) = [] := by
  rw [List.filter_eq_nil_iff]
  intro y hy hlt
  have := ltK_trans (h y hy) hlt
  rw [hk] at this; cases this
theorem take_idx : ∀ {L : List Ov}, Ord L → ∀ k, L.take (idxO L k) = L.filter (fun x => ltK x.key k)
  | [], _, _ => rfl
  | x :: L, h, k => by
    replace h := List.pairwise_cons.1 h
    rw [idx_cons]
    cases hx : ltK x.key k with
    | true => rw [if_pos rfl, List.take_succ_cons, take_idx h.2 k, List.filter_cons, if_pos hx]
    | false => rw [if_neg (by simp), List.take_zero, List.filter_cons, if_neg (by rw [hx]; simp), filter_none h.1 hx]
theorem drop_idx : ∀ {L : List Ov}, Ord L → ∀ k, L.drop (idxO L k) = L.filter (fun x => !ltK x.key k)
  | [], _, _ => rfl
  | x :: L, h, k => by
    replace h := List.pairwise_cons.1 h
    rw [idx_cons]
    cases hx : ltK x.key k with
    | true => rw [if_pos rfl, List.drop_succ_cons, drop_idx h.2 k, List.filter_cons, if_neg (by rw [hx]; simp)]
    | false =>
      rw [if_neg (by simp), List.drop_zero, List.filter_cons, if_pos (by rw [hx]; rfl)]
      congr 1
      symm
      rw [List.filter_eq_self]
      intro y hy
      cases hy2 : ltK y.key k with
      | false => rfl
      | true =>
        have := ltK_trans (h.1 y hy) hy2
        rw [hx] at this; cases this
/-- the one at the place, if there is one of the prefix -/
theorem at_idx {L : List Ov} (h : Ord L) (k : PK) : (idxO L k < L.length ∧ (L.getD (idxO L k) default).key = k ∧ Kl.look Ov.key L k = some (L.getD (idxO L k) default) ∧ L.drop (idxO L k + 1) = L.filter (fun x => ltK k x.key)) ∨
    ((∀ _hi : idxO L k < L.length, (L.getD (idxO L k) default).key ≠ k) ∧ Kl.look Ov.key L k = none ∧ L.drop (idxO L k) = L.filter (fun x => ltK k x.key)) := by
  have hd := drop_idx h k
  have hlen := idx_le L k
  rcases Nat.lt_or_ge (idxO L k) L.length with hi | hi
  · have hc : L.drop (idxO L k) = L.getD (idxO L k) default :: L.drop (idxO L k + 1) := by
      rw [List.drop_eq_getElem_cons hi]
      simp [List.getD_eq_getElem?_getD, hi]
    have ho : Ord (L.drop (idxO L k)) := h.sublist (List.drop_sublist _ _)
    have hmem : L.getD (idxO L k) default ∈ L := getD_mem hi
    rw [hc] at ho
    replace ho := List.pairwise_cons.1 ho
    have hnl : ltK (L.getD (idxO L k) default).key k = false := by
      have : L.getD (idxO L k) default ∈ L.filter (fun x => !ltK x.key k) := by rw [← hd, hc]; simp
      simpa using (List.mem_filter.1 this).2
    by_cases he : (L.getD (idxO L k) default).key = k
    · left
      refine ⟨hi, he, (Kl.look_some h.keys).2 ⟨hmem, he⟩, ?_⟩
      have h1 : L.filter (fun x => ltK k x.key) = (L.drop (idxO L k)).filter (fun x => ltK k x.key) := by
        rw [hd, List.filter_filter]
        refine List.filter_congr fun x _ => ?_
        cases hx : ltK k x.key with
        | false => simp
        | true => rw [ltK_asymm _ _ hx]; rfl
      rw [h1, hc, List.filter_cons, if_neg (by rw [he, ltK_irr]; simp)]
      symm
      rw [List.filter_eq_self]
      intro y hy
      have := ho.1 y hy
      unfold ltO at this
      rw [he] at this
      exact this
    · right
      have hgt : ltK k (L.getD (idxO L k) default).key = true := by
        rcases ltK_total (L.getD (idxO L k) default).key k with h1 | h1 | h1
        · rw [hnl] at h1; cases h1
        · exact absurd h1 he
        · exact h1
      have hall : ∀ y ∈ L.drop (idxO L k), ltK k y.key = true := by
        rw [hc]
        intro y hy
        rcases List.mem_cons.1 hy with rfl | hy
        · exact hgt
        · exact ltK_trans hgt (ho.1 y hy)
      have hf : L.drop (idxO L k) = L.filter (fun x => ltK k x.key) := by
        rw [hd]
        refine List.filter_congr fun x hx => ?_
        cases h1 : ltK x.key k with
        | true => rw [ltK_asymm _ _ h1]; rfl
        | false =>
          have : x ∈ L.drop (idxO L k) := by rw [hd]; exact List.mem_filter.2 ⟨hx, by rw [h1]; rfl⟩
          rw [hall x this]; rfl
      refine ⟨fun _ => he, Kl.look_no fun x hx hk => ?_, hf⟩
      have : x ∈ L.drop (idxO L k) := by rw [hd]; exact List.mem_filter.2 ⟨hx, by rw [hk, ltK_irr]; rfl⟩
      have := hall x this
      rw [hk, ltK_irr] at this
      cases this
  · right
    have hd0 : L.drop (idxO L k) = [] := List.drop_eq_nil_of_le hi
    rw [hd0] at hd
    have hall : ∀ x ∈ L, ltK x.key k = true := by
      intro x hx
      have := List.filter_eq_nil_iff.1 hd.symm x hx
      simpa using this
    refine ⟨fun hi' => absurd hi' (by omega), Kl.look_no fun x hx hk => ?_, ?_⟩
    · have := hall x hx
      rw [hk, ltK_irr] at this; cases this
    · rw [hd0]
      symm
      rw [List.filter_eq_nil_iff]
      intro x hx
      rw [ltK_asymm _ _ (hall x hx)]
      simp
theorem set_ref {L : List Ov} (h : Ord L) (o : Ov) : L.take (idxO L o.key) ++ [o] ++ L.drop (idxO L o.key + if hasO L o.key then 1 else 0) = setO L o := by
  unfold setO hasO
  rw [take_idx h]
  rcases at_idx h o.key with ⟨-, -, h3, h4⟩ | ⟨-, h2, h3⟩
  · rw [h3, Option.isSome_some, if_pos rfl, h4]; simp [ltO]
  · rw [h2, Option.isSome_none, if_neg (by simp), Nat.add_zero, h3]; simp [ltO]
theorem del_ref {L : List Ov} (h : Ord L) {k : PK} (hk : hasO L k = true) : L.take (idxO L k) ++ L.drop (idxO L k + 1) = L.filter (fun x => decide (x.key ≠ k)) := by
  rw [take_idx h]
  rcases at_idx h k with ⟨-, -, -, h4⟩ | ⟨-, h2, -⟩
  · rw [h4]
    have ho : Ord (L.filter (fun x => ltK x.key k) ++ L.filter (fun x => ltK k x.key)) := by
      unfold Ord Kl.Ordered
      rw [List.pairwise_append]
      exact ⟨h.filter _, h.filter _, fun a ha b hb => ltK_trans (List.mem_filter.1 ha).2 (List.mem_filter.1 hb).2⟩
    refine Kl.ordered_eq ltO_asymm ho (h.filter _) ?_
    rw [List.perm_ext_iff_of_nodup (MR.nodup_of_map ho.keys) (MR.nodup_of_map (h.filter _).keys)]
    intro x
    simp only [List.mem_append, List.mem_filter, decide_eq_true_eq]
    constructor
    · rintro (⟨h1, h2⟩ | ⟨h1, h2⟩)
      · exact ⟨h1, fun e => by rw [e, ltK_irr] at h2; cases h2⟩
      · exact ⟨h1, fun e => by rw [e, ltK_irr] at h2; cases h2⟩
    · rintro ⟨h1, h2⟩
      rcases ltK_total x.key k with h | h | h
      · exact .inl ⟨h1, h⟩
      · exact absurd h h2
      · exact .inr ⟨h1, h⟩
  · unfold hasO at hk; rw [h2] at hk; cases hk
theorem del_none {L : List Ov} {k : PK} (hk : hasO L k = false) : L.filter (fun x => decide (x.key ≠ k)) = L := by
  unfold hasO at hk
  rw [List.filter_eq_self]
  intro x hx
  have : Kl.look Ov.key L k = none := by
    cases hl : Kl.look Ov.key L k with
    | none => rfl
    | some _ => rw [hl] at hk; cases hk
  simpa using Kl.look_none this hx
end Go.Proofs.Ytfmehahjjgalfaa
