/- A range over a map that does not turn: which entries have come, in whatever order. -/
import Derived.Test.YtpjfgfdpngibgaaQab
import Derived.Test.YtpjfgfdpngibgaaQaa
import Derived.OrdersHeld
import Derived.Shelf.SlSortCmp.WholeK
import Derived.Shelf.SlSortCmp.NoneTotal
namespace Go.Proofs.Ytpjfgfdpngibgaa.MR
open Go.Maps Go.MapKept
open Go.ChangeMaps (setBlock)

section
variable {P : Program} {K : TypeId} {κ : Type} (N : Enc P K κ)
/-- these have come, in this order -/
structure Ran (l : List (Ent κ)) (seen : Array Nat) (done : List (Ent κ)) : Prop where
  seen : seen.toList = done.map (·.2.2)
  sub : ∀ e ∈ done, e ∈ l
  nodup : (done.map (·.2.2)).Nodup
theorem Ran.none (l : List (Ent κ)) : Ran l #[] [] := ⟨rfl, fun e he => (by cases he), by simp⟩
theorem Ran.more {l : List (Ent κ)} {seen : Array Nat} {done : List (Ent κ)} (h : Ran l seen done) {e : Ent κ} (he : e ∈ l) (hn : e.2.2 ∉ seen) : Ran l (seen.push e.2.2) (done ++ [e]) := by
  refine ⟨by simp [h.seen], fun x hx => ?_, ?_⟩
  · rcases List.mem_append.1 hx with hx | hx
    · exact h.sub x hx
    · simp at hx; subst hx; exact he
  · rw [List.map_append, List.nodup_append]
    refine ⟨h.nodup, by simp, fun a ha b hb => ?_⟩
    simp at hb
    subst hb
    rintro rfl
    rw [← h.seen] at ha
    exact hn (by simpa using ha)
theorem inj_of_nodup {α β : Type} {f : α → β} {l : List α} (h : (l.map f).Nodup) {a b : α} (ha : a ∈ l) (hb : b ∈ l) (e : f a = f b) : a = b := by
  induction l with
  | nil => cases ha
  | cons x r ih =>
    simp only [List.map_cons, List.nodup_cons] at h
    rcases List.mem_cons.1 ha with rfl | ha'
    · rcases List.mem_cons.1 hb with rfl | hb'
      · rfl
      · exact absurd (List.mem_map.2 ⟨b, hb', e.symm⟩) h.1
    · rcases List.mem_cons.1 hb with rfl | hb'
      · exact absurd (List.mem_map.2 ⟨a, ha', e⟩) h.1
      · exact ih h.2 ha' hb'
theorem nodup_of_map {α β : Type} {f : α → β} {l : List α} (h : (l.map f).Nodup) : l.Nodup := by
  induction l with
  | nil => exact List.nodup_nil
  | cons x r ih =>
    simp only [List.map_cons, List.nodup_cons] at h
    exact List.nodup_cons.2 ⟨fun hx => h.1 (List.mem_map.2 ⟨x, hx, rfl⟩), ih h.2⟩
theorem Ran.all {l : List (Ent κ)} {seen : Array Nat} {done : List (Ent κ)} (h : Ran l seen done) (hb : (l.map (·.2.2)).Nodup) (ha : ∀ e ∈ l, e.2.2 ∈ seen) : done.Perm l := by
  rw [List.perm_ext_iff_of_nodup (nodup_of_map h.nodup) (nodup_of_map hb)]
  intro e
  refine ⟨h.sub e, fun he => ?_⟩
  have h1 := ha e he
  rw [← Array.mem_toList_iff, h.seen] at h1
  obtain ⟨x, hx, hxe⟩ := List.mem_map.1 h1
  rw [← inj_of_nodup hb (h.sub x hx) he hxe]
  exact hx
theorem run_range {w : World} {b clock : Nat} {l : List (Ent κ)} (h : MapAt N w b l clock) {T E : TypeId} (ht : P.underlying T = some (.map K E)) : (Instr.range T (.map (some b))).run P w = .ok (.pointer (some ⟨w.heap.size, 0, none⟩)) (w.alloc (.mapIter (some b) clock #[] clock)) :=
  run_range_map w T K E b _ clock ht h.blk
theorem next_step {w : World} {b clock r : Nat} {l : List (Ent κ)} {seen : Array Nat} (h : MapAt N w b l clock) (hr : w.heap[r]? = some (.mapIter (some b) clock seen clock)) (ty : TypeId) :
    ((∀ e ∈ l, e.2.2 ∈ seen) ∧ (Instr.next (.pointer (some ⟨r, 0, none⟩)) false ty).run P w = .ok (.tuple #[.bool false]) w) ∨
    ∃ e ∈ l, e.2.2 ∉ seen ∧ ∃ w1, (Instr.next (.pointer (some ⟨r, 0, none⟩)) false ty).run P w = .ok (.tuple #[.bool true, N.enc e.1, e.2.1]) w1 ∧ SetB w w1 r (.mapIter (some b) clock (seen.push e.2.2) clock) := by
  have hold : ∀ x ∈ (ents N.enc l).toArray.toList, x.born < clock := by
    intro x hx
    obtain ⟨e, he, rfl⟩ := List.mem_map.1 (by simpa using hx : x ∈ ents N.enc l)
    exact h.born e he
  rcases run_next_at (P := P) w ty r b clock clock seen _ clock hr h.blk hold (Nat.le_refl _) with ⟨h1, h2⟩ | ⟨x, hx, w1, hw, h2⟩
  · left
    refine ⟨fun e he => ?_, h2⟩
    have : leftOf (ents N.enc l).toArray seen = #[] := Array.eq_empty_of_size_eq_zero h1
    unfold leftOf at this
    rw [Array.filter_eq_empty_iff] at this
    have h3 := this ⟨N.enc e.1, e.2.1, e.2.2⟩ (by simp [ents]; exact ⟨_, _, _, he, rfl, rfl, rfl⟩)
    simpa using h3
  · right
    unfold leftOf at hx
    simp only [Array.toList_filter, List.mem_filter, Bool.not_eq_true'] at hx
    obtain ⟨hm, hs⟩ := hx
    obtain ⟨e, he, rfl⟩ := List.mem_map.1 (by simpa using hm : x ∈ ents N.enc l)
    refine ⟨e, he, by simpa using hs, _, h2, ?_⟩
    rcases hw with rfl | rfl <;> exact ⟨rfl, rfl, rfl, rfl⟩
theorem run_entry {w : World} {b clock r : Nat} {l : List (Ent κ)} {seen : Array Nat} (h : MapAt N w b l clock) {e : Ent κ} (he : e ∈ l) (hr : w.heap[r]? = some (.mapIter (some b) clock (seen.push e.2.2) clock)) : (Instr.entry (.pointer (some ⟨r, 0, none⟩))).run P w = .ok (.tuple #[N.enc e.1, e.2.1]) w := by
  refine run_entry_at (P := P) w r b clock seen _ clock ⟨N.enc e.1, e.2.1, e.2.2⟩ hr h.blk (by simp [ents]; exact ⟨_, _, _, he, rfl, rfl, rfl⟩) ?_
  have : ((ents N.enc l).toArray.toList.map (·.born)) = l.map (·.2.2) := by simp [ents]
  rw [this]
  exact h.bnodup
end
end Go.Proofs.Ytpjfgfdpngibgaa.MR
/- A map whose entries are a list of things, each under its key. -/
namespace Go.Proofs.Ytpjfgfdpngibgaa.Kl
section
variable {κ α : Type} (key : α → κ) (val : α → Value)
/-- the thing of a key -/
def look [DecidableEq κ] (L : List α) (k : κ) : Option α := L.find? fun x => decide (key x = k)
variable {key val}
theorem look_mem [DecidableEq κ] {L : List α} {k : κ} {x : α} (h : look key L k = some x) : x ∈ L ∧ key x = k :=
  ⟨List.mem_of_find?_eq_some h, by simpa using List.find?_some h⟩
theorem look_none [DecidableEq κ] {L : List α} {k : κ} (h : look key L k = none) {x : α} (hx : x ∈ L) : key x ≠ k := by
  unfold look at h
  rw [List.find?_eq_none] at h
  simpa using h x hx
theorem look_no [DecidableEq κ] {L : List α} {k : κ} (h : ∀ x ∈ L, key x ≠ k) : look key L k = none := by
  unfold look
  rw [List.find?_eq_none]
  intro x hx
  simpa using h x hx
theorem inj_on {L : List α} (hn : (L.map key).Nodup) {x y : α} (hx : x ∈ L) (hy : y ∈ L) (h : key x = key y) : x = y := MR.inj_of_nodup hn hx hy h
theorem look_of [DecidableEq κ] {L : List α} (hn : (L.map key).Nodup) {x : α} (hx : x ∈ L) : look key L (key x) = some x := by
  cases h : look key L (key x) with
  | none => exact absurd rfl (look_none h hx)
  | some y =>
    obtain ⟨h1, h2⟩ := look_mem h
    rw [inj_on hn h1 hx h2]
theorem look_some [DecidableEq κ] {L : List α} (hn : (L.map key).Nodup) {x : α} {k : κ} : look key L k = some x ↔ x ∈ L ∧ key x = k :=
  ⟨look_mem, fun ⟨h1, h2⟩ => h2 ▸ look_of hn h1⟩
theorem look_perm [DecidableEq κ] {L M : List α} (hn : (L.map key).Nodup) (h : L.Perm M) (k : κ) : look key L k = look key M k := by
  have hm : (M.map key).Nodup := (h.map key).nodup hn
  cases h1 : look key L k with
  | none => exact (look_no fun x hx => look_none h1 (h.mem_iff.2 hx)).symm
  | some x =>
    obtain ⟨h2, h3⟩ := look_mem h1
    exact ((look_some hm).2 ⟨h.mem_iff.1 h2, h3⟩).symm
theorem nodup_filter {L : List α} (hn : (L.map key).Nodup) (p : α → Bool) : ((L.filter p).map key).Nodup := (List.filter_sublist.map _).nodup hn
theorem look_filter [DecidableEq κ] {L : List α} (hn : (L.map key).Nodup) (p : α → Bool) (k : κ) : look key (L.filter p) k = (look key L k).filter p := by
  cases h : look key L k with
  | none => exact look_no fun x hx => look_none h (List.mem_filter.1 hx).1
  | some x =>
    obtain ⟨h1, h2⟩ := look_mem h
    cases hp : p x with
    | true => rw [Option.filter_some, if_pos hp]; exact (look_some (nodup_filter hn p)).2 ⟨List.mem_filter.2 ⟨h1, hp⟩, h2⟩
    | false =>
      rw [Option.filter_some, if_neg (by rw [hp]; simp)]
      refine look_no fun y hy e => ?_
      obtain ⟨h3, h4⟩ := List.mem_filter.1 hy
      rw [inj_on hn h3 h1 (e.trans h2.symm), hp] at h4
      cases h4
theorem look_append [DecidableEq κ] (L M : List α) (k : κ) : look key (L ++ M) k = (look key L k).or (look key M k) := by
  unfold look; rw [List.find?_append]

/-- the entries are those of the list -/
structure Lay [DecidableEq κ] (key : α → κ) (val : α → Value) (es : List (MR.Ent κ)) (L : List α) : Prop where
  get : ∀ k, MR.get? es k = (look key L k).map val
  nd : (L.map key).Nodup
  ne : (es.map (·.1)).Nodup
  nb : (es.map (·.2.2)).Nodup
def ofE [DecidableEq κ] [Inhabited α] (key : α → κ) (L : List α) (e : MR.Ent κ) : α := (look key L e.1).getD default
theorem Lay.ent [DecidableEq κ] [Inhabited α] {es : List (MR.Ent κ)} {L : List α} (h : Lay key val es L) {e : MR.Ent κ} (he : e ∈ es) : look key L e.1 = some (ofE key L e) ∧ e.2.1 = val (ofE key L e) ∧ key (ofE key L e) = e.1 ∧ ofE key L e ∈ L := by
  have h1 := h.get e.1
  rw [MR.get?_mem h.ne he] at h1
  cases hl : look key L e.1 with
  | none => rw [hl] at h1; cases h1
  | some x =>
    rw [hl] at h1
    obtain ⟨h2, h3⟩ := look_mem hl
    have ho : ofE key L e = x := by unfold ofE; rw [hl]; rfl
    rw [ho]
    exact ⟨rfl, by simpa using h1, h3, h2⟩
theorem Lay.perm [DecidableEq κ] [Inhabited α] {es : List (MR.Ent κ)} {L : List α} (h : Lay key val es L) : (es.map (ofE key L)).Perm L := by
  have hk : (es.map (ofE key L)).map key = es.map (·.1) := by
    rw [List.map_map]
    exact List.map_congr_left fun e he => (h.ent he).2.2.1
  have hnd : (es.map (ofE key L)).Nodup := MR.nodup_of_map (f := key) (by rw [hk]; exact h.ne)
  rw [List.perm_ext_iff_of_nodup hnd (MR.nodup_of_map h.nd)]
  intro x
  rw [List.mem_map]
  constructor
  · rintro ⟨e, he, rfl⟩; exact (h.ent he).2.2.2
  · intro hx
    have h1 := h.get (key x)
    rw [look_of h.nd hx] at h1
    obtain ⟨e, he, h2, -⟩ := MR.mem_of_get? h1
    refine ⟨e, he, inj_on h.nd (h.ent he).2.2.2 hx ?_⟩
    rw [(h.ent he).2.2.1, h2]
theorem Lay.len [DecidableEq κ] [Inhabited α] {es : List (MR.Ent κ)} {L : List α} (h : Lay key val es L) : es.length = L.length := by rw [← h.perm.length_eq, List.length_map]
theorem Lay.nil [DecidableEq κ] : Lay key val [] [] := ⟨fun _ => rfl, List.nodup_nil, List.nodup_nil, List.nodup_nil⟩
theorem Lay.put [DecidableEq κ] {es : List (MR.Ent κ)} {L L' : List α} {x : α} {c : Nat} (h : Lay key val es L) (hL : (L'.map key).Nodup) (hl : ∀ k, look key L' k = if k = key x then some x else look key L k)
    (h1 : ((MR.put es (key x) (val x) c).map (·.1)).Nodup) (h2 : ((MR.put es (key x) (val x) c).map (·.2.2)).Nodup) : Lay key val (MR.put es (key x) (val x) c) L' :=
  ⟨fun k => by rw [MR.get?_put, hl, h.get]; split <;> rfl, hL, h1, h2⟩
theorem Lay.del [DecidableEq κ] {es : List (MR.Ent κ)} {L : List α} (h : Lay key val es L) (k : κ) : Lay key val (MR.del es k) (L.filter fun x => decide (key x ≠ k)) := by
  refine ⟨fun k' => ?_, nodup_filter h.nd _, (List.filter_sublist.map _).nodup h.ne, (List.filter_sublist.map _).nodup h.nb⟩
  rw [MR.get?_del, h.get, look_filter h.nd]
  cases hl : look key L k' with
  | none => simp
  | some x =>
    obtain ⟨-, h2⟩ := look_mem hl
    by_cases hk : k' = k
    · simp [hk, Option.filter_some, h2]
    · simp [hk, Option.filter_some, h2]
theorem Lay.turn [DecidableEq κ] {es : List (MR.Ent κ)} {L M : List α} (h : Lay key val es L) (hp : L.Perm M) : Lay key val es M :=
  ⟨fun k => by rw [h.get, look_perm h.nd hp], (hp.map key).nodup h.nd, h.ne, h.nb⟩

/-- strictly in order by a comparison -/
def Ordered (lt : α → α → Bool) (L : List α) : Prop := L.Pairwise fun a b => lt a b = true
theorem ordered_eq {lt : α → α → Bool} (ha : ∀ a b, lt a b = true → lt b a = false) {L M : List α} (hL : Ordered lt L) (hM : Ordered lt M) (hp : L.Perm M) : L = M :=
  List.Perm.eq_of_pairwise (le := fun a b => lt a b = true) (fun a b _ _ h1 h2 => by rw [ha a b h1] at h2; cases h2) hL hM hp
end
end Go.Proofs.Ytpjfgfdpngibgaa.Kl
/- Small facts on lists; a class of worlds behind a name. -/
namespace Go.Proofs.Ytpjfgfdpngibgaa
open Go.RowKit
theorem getD_mem {α : Type} [Inhabited α] {M : List α} {i : Nat} (h : i < M.length) : M.getD i default ∈ M := by
  rw [List.getD_eq_getElem?_getD, List.getElem?_eq_getElem h]; exact List.getElem_mem _
def ExtS (w w' : World) : Prop := Below w.heap.size w w'
end Go.Proofs.Ytpjfgfdpngibgaa
/- Prefixes that are told: what they are, and their order. -/
namespace Go.Proofs.Ytpjfgfdpngibgaa
open Go.RowKit

abbrev PK := Nat × Int
def cmpK (a b : PK) : Int := cmpP a.1 a.2 b.1 b.2
def ltK (a b : PK) : Bool := decide (cmpK a b = -1)
theorem ltK_iff {a b : PK} : ltK a b = true ↔ a.1 < b.1 ∨ (a.1 = b.1 ∧ a.2 < b.2) := by
  unfold ltK cmpK cmpP
  rw [decide_eq_true_eq]
  split
  · simp_all
  · split <;> simp_all
theorem ltK_asymm (a b : PK) (h : ltK a b = true) : ltK b a = false := by
  rw [Bool.eq_false_iff]
  intro h2
  rw [ltK_iff] at h h2
  omega
theorem ltK_trans {a b c : PK} (h : ltK a b = true) (h2 : ltK b c = true) : ltK a c = true := by
  rw [ltK_iff] at *
  omega
theorem ltK_irr (a : PK) : ltK a a = false := by
  rw [Bool.eq_false_iff]; intro h; rw [ltK_iff] at h; omega
theorem key_eq {a b : PK} (h1 : a.1 = b.1) (h2 : a.2 = b.2) : a = b := Prod.ext h1 h2
theorem ltK_total (a b : PK) : ltK a b = true ∨ a = b ∨ ltK b a = true := by
  rw [ltK_iff, ltK_iff]
  by_cases h : a = b
  · exact .inr (.inl h)
  · have : ¬ (a.1 = b.1 ∧ a.2 = b.2) := fun h' => h (key_eq h'.1 h'.2)
    omega
theorem cmpK_lt {a b : PK} : cmpK a b < 0 ↔ ltK a b = true := by
  unfold ltK cmpK cmpP
  rw [decide_eq_true_eq]
  split
  · simp
  · split <;> simp
theorem cmpK_ge {a b : PK} : 0 ≤ cmpK a b ↔ ltK a b = false := by
  have := @cmpK_lt a b
  cases h : ltK a b with
  | true => have := this.2 h; simp; omega
  | false => rw [h] at this; simp at this; simp; omega

structure Nl where
  id : Int
  a : Nat
  ln : Int
deriving Inhabited, DecidableEq
def Nl.v (n : Nl) : Value := .agg #[.int .i64 n.id, .int .u32 (n.a : Int), .int .i64 n.ln]
def RNl : Rep Nl := ⟨41, 3, by decide, fun n => [.int .i64 n.id, .int .u32 (n.a : Int), .int .i64 n.ln], fun _ => rfl, fun _ => rfl⟩
theorem TNl : Rep.Ty Try.prog 22 RNl 24 := Rep.Ty.mk' Try.underlying22 (z := .agg #[.int .i64 0, .int .u32 0, .int .i64 0]) (by kernel_rfl) rfl
def Nl.key (n : Nl) : PK := (n.a, n.ln)
theorem Nl.ext' {x y : Nl} (h : x.id = y.id) (k : x.key = y.key) : x = y := by
  cases x; cases y
  simp only [Nl.key, Prod.mk.injEq] at h k
  simp [h, k.1, k.2]
def cmpI (a b : Int) : Int := if a < b then -1 else if b < a then 1 else 0
def or2 (x y : Int) : Int := if x = 0 then y else x
def cmpN (x y : Nl) : Int := or2 (cmpK x.key y.key) (cmpI x.id y.id)
def ltN (x y : Nl) : Bool := decide (cmpN x y < 0)
theorem ltN_iff {x y : Nl} : ltN x y = true ↔ x.a < y.a ∨ (x.a = y.a ∧ (x.ln < y.ln ∨ (x.ln = y.ln ∧ x.id < y.id))) := by
  unfold ltN cmpN or2 cmpI cmpK cmpP Nl.key
  rw [decide_eq_true_eq]
  dsimp only
  (repeat' split) <;> omega
theorem cmpN_cases (x y : Nl) : cmpN x y = -1 ∨ cmpN x y = 0 ∨ cmpN x y = 1 := by
  unfold cmpN or2 cmpI cmpK cmpP
  (repeat' split) <;> omega
theorem cmpN_zero {x y : Nl} : cmpN x y = 0 ↔ x = y := by
  constructor
  · intro h
    have : x.a = y.a ∧ x.ln = y.ln ∧ x.id = y.id := by
      unfold cmpN or2 cmpI cmpK cmpP Nl.key at h
      dsimp only at h
      (repeat' split at h) <;> omega
    exact Nl.ext' this.2.2 (key_eq this.1 this.2.1)
  · rintro rfl
    unfold cmpN or2 cmpI cmpK cmpP
    (repeat' split) <;> omega
theorem ltN_asymm (x y : Nl) (h : ltN x y = true) : ltN y x = false := by
  rw [Bool.eq_false_iff]
  intro h2
  rw [ltN_iff] at h h2
  omega
theorem ltN_trans {x y z : Nl} (h : ltN x y = true) (h2 : ltN y z = true) : ltN x z = true := by
  rw [ltN_iff] at *
  omega
theorem ltN_irr (x : Nl) : ltN x x = false := by
  rw [Bool.eq_false_iff]; intro h; rw [ltN_iff] at h; omega
theorem ltN_total (x y : Nl) : ltN x y = true ∨ x = y ∨ ltN y x = true := by
  by_cases h : x = y
  · exact .inr (.inl h)
  · have : ¬ (x.a = y.a ∧ x.ln = y.ln ∧ x.id = y.id) := fun h' => h (Nl.ext' h'.2.2 (key_eq h'.1 h'.2.1))
    rw [ltN_iff, ltN_iff]
    omega
theorem cmpN_lt {x y : Nl} : cmpN x y < 0 ↔ ltN x y = true := by unfold ltN; rw [decide_eq_true_eq]
theorem cmpN_ge {x y : Nl} : 0 ≤ cmpN x y ↔ ltN x y = false := by unfold ltN; rw [decide_eq_false_iff_not]; omega
theorem cmpN_m1 {x y : Nl} : cmpN x y = -1 ↔ ltN x y = true := by
  rw [← cmpN_lt]
  have := cmpN_cases x y
  omega
abbrev OrdN (L : List Nl) : Prop := Kl.Ordered ltN L
theorem OrdN.nodup {L : List Nl} (h : OrdN L) : L.Nodup := by
  rw [List.nodup_iff_pairwise_ne]
  refine List.Pairwise.imp (fun {x y} h => ?_) h
  rintro rfl
  rw [ltN_irr] at h; cases h
/-- two that are in order, with the same things, are one -/
theorem OrdN.eq {L M : List Nl} (h : OrdN L) (k : OrdN M) (hm : ∀ x, x ∈ L ↔ x ∈ M) : L = M :=
  Kl.ordered_eq ltN_asymm h k ((List.perm_ext_iff_of_nodup h.nodup k.nodup).2 hm)
/-- no later one is less, each once: in order -/
theorem OrdN.of {M : List Nl} (h : ∀ i j, i < j → j < M.length → 0 ≤ cmpN (M.getD j default) (M.getD i default)) (hn : M.Nodup) : OrdN M := by
  show M.Pairwise _
  rw [List.pairwise_iff_getElem]
  intro i j hi hj hij
  have h1 := h i j hij hj
  rw [List.getD_eq_getElem?_getD, List.getD_eq_getElem?_getD, List.getElem?_eq_getElem hi, List.getElem?_eq_getElem hj] at h1
  simp only [Option.getD_some] at h1
  rw [cmpN_ge] at h1
  rcases ltN_total M[i] M[j] with h2 | h2 | h2
  · exact h2
  · rw [List.nodup_iff_pairwise_ne, List.pairwise_iff_getElem] at hn
    exact absurd h2 (hn i j hi hj hij)
  · rw [h1] at h2; cases h2
theorem OrdN.ins {L : List Nl} (h : OrdN L) {k : Nat} {x : Nl} (hlow : ∀ a, a < k → ltN (L.getD a default) x = true) (hk : k ≤ L.length) (hup : k < L.length → ltN x (L.getD k default) = true) : OrdN (L.take k ++ [x] ++ L.drop k) := by
  have hp : (L.take k ++ L.drop k).Pairwise fun a b => ltN a b = true := by rw [List.take_append_drop]; exact h
  rw [List.pairwise_append] at hp
  have hd : ∀ y ∈ L.drop k, ltN x y = true := by
    intro y hy
    by_cases hkl : k < L.length
    · have h1 := hup hkl
      have e : L.drop k = L.getD k default :: L.drop (k + 1) := by
        rw [List.drop_eq_getElem_cons hkl]
        simp [List.getD_eq_getElem?_getD, hkl]
      rw [e] at hy
      rcases List.mem_cons.1 hy with rfl | hy
      · exact h1
      · have h2 := hp.2.1
        rw [e, List.pairwise_cons] at h2
        exact ltN_trans h1 (h2.1 y hy)
    · rw [List.drop_eq_nil_of_le (by omega)] at hy; cases hy
  have ht : ∀ y ∈ L.take k, ltN y x = true := by
    intro y hy
    obtain ⟨i, hi, rfl⟩ := List.mem_iff_getElem.1 hy
    have hi' : i < k := by simp at hi; omega
    have := hlow i hi'
    rw [List.getD_eq_getElem?_getD, List.getElem?_eq_getElem (by omega)] at this
    simpa using this
  show List.Pairwise _ _
  rw [List.pairwise_append, List.pairwise_append]
  refine ⟨⟨hp.1, List.pairwise_singleton _ _, fun a ha b hb => ?_⟩, hp.2.1, fun a ha b hb => ?_⟩
  · rw [List.mem_singleton.1 hb]; exact ht a ha
  · rcases List.mem_append.1 ha with ha | ha
    · exact hp.2.2 a ha b hb
    · rw [List.mem_singleton.1 ha]; exact hd b hb
theorem mem_ins {L : List Nl} {k : Nat} {x y : Nl} : y ∈ L.take k ++ [x] ++ L.drop k ↔ y = x ∨ y ∈ L := by
  have : y ∈ L ↔ y ∈ L.take k ∨ y ∈ L.drop k := by rw [← List.mem_append, List.take_append_drop]
  rw [this, List.mem_append, List.mem_append, List.mem_singleton]
  constructor
  · rintro ((h | h) | h)
    · exact .inr (.inl h)
    · exact .inl h
    · exact .inr (.inr h)
  · rintro (h | h | h)
    · exact .inl (.inr h)
    · exact .inl (.inl h)
    · exact .inr h
/-- the list in order, each once -/
def insN (x : Nl) : List Nl → List Nl
  | [] => [x]
  | y :: r => if ltN y x then y :: insN x r else if y = x then y :: r else x :: y :: r
def sortN (L : List Nl) : List Nl := L.foldl (fun o x => insN x o) []
theorem mem_insN {x y : Nl} : ∀ {L : List Nl}, y ∈ insN x L ↔ y = x ∨ y ∈ L
  | [] => by simp [insN]
  | z :: r => by
    unfold insN
    split
    · rw [List.mem_cons, mem_insN, List.mem_cons]
      constructor <;> rintro (h | h | h) <;> simp [h]
    · split
      · rename_i h; subst h; simp
      · simp
theorem OrdN.insN {x : Nl} : ∀ {L : List Nl}, OrdN L → OrdN (insN x L)
  | [], _ => List.pairwise_singleton _ _
  | z :: r, h => by
    have h' := List.pairwise_cons.1 h
    unfold Ytpjfgfdpngibgaa.insN
    split
    · rename_i hz
      refine List.pairwise_cons.2 ⟨fun y hy => ?_, OrdN.insN h'.2⟩
      rcases mem_insN.1 hy with rfl | hy
      · exact hz
      · exact h'.1 y hy
    · split
      · exact h
      · rename_i h1 h2
        have hx : ltN x z = true := by
          rcases ltN_total z x with h3 | h3 | h3
          · exact absurd h3 h1
          · exact absurd h3 h2
          · exact h3
        refine List.pairwise_cons.2 ⟨fun y hy => ?_, h⟩
        rcases List.mem_cons.1 hy with rfl | hy
        · exact hx
        · exact ltN_trans hx (h'.1 y hy)
theorem sortN_spec : ∀ L : List Nl, OrdN (sortN L) ∧ (∀ y, y ∈ sortN L ↔ y ∈ L) ∧ (sortN L).length ≤ L.length := by
  have hl : ∀ (x : Nl) (M : List Nl), (insN x M).length ≤ M.length + 1 := by
    intro x M
    induction M with
    | nil => simp [insN]
    | cons y r ih => unfold insN; split; · simpa using ih
                     · split <;> simp
  have : ∀ (L M : List Nl), OrdN M → OrdN (L.foldl (fun o x => insN x o) M) ∧ (∀ y, y ∈ L.foldl (fun o x => insN x o) M ↔ y ∈ L ∨ y ∈ M) ∧ (L.foldl (fun o x => insN x o) M).length ≤ L.length + M.length := by
    intro L
    induction L with
    | nil => intro M h; exact ⟨h, fun y => by simp, by simp⟩
    | cons x r ih =>
      intro M h
      obtain ⟨h1, h2, h3⟩ := ih (insN x M) h.insN
      refine ⟨h1, fun y => ?_, ?_⟩
      · rw [List.foldl_cons, h2, mem_insN, List.mem_cons, or_left_comm, or_assoc]
      · have := hl x M
        rw [List.foldl_cons, List.length_cons]
        omega
  intro L
  have h := this L [] List.Pairwise.nil
  exact ⟨h.1, fun y => by rw [sortN, h.2.1]; simp, by simpa [sortN] using h.2.2⟩
theorem sortN_is {L M : List Nl} (h : OrdN M) (hm : ∀ y, y ∈ M ↔ y ∈ L) : M = sortN L := h.eq (sortN_spec L).1 (fun y => by rw [hm, (sortN_spec L).2.1])
theorem sortN_self {L : List Nl} (h : OrdN L) : sortN L = L := (sortN_is h (fun _ => Iff.rfl)).symm
end Go.Proofs.Ytpjfgfdpngibgaa
/- Small facts that all walks use. -/
namespace Go.Proofs.Ytpjfgfdpngibgaa
open Go.RowKit
open Go.ChangeMaps (setBlock)
theorem bcall {B : Nat} {w w2 w3 : World} (h : Below B w w2) (hB : B ≤ w.heap.size) (h3 : Below w2.heap.size w2 w3) : Below B w w3 := h.trans (h3.mono (Nat.le_trans hB h.size))
theorem wrapS {i n : Nat} (h : i < n) (hn : n ≤ maxLen) : wrap64 ((i : Int) + 1) = ((i + 1 : Nat) : Int) := by unfold maxLen at hn; unfold wrap64; omega
theorem mSucc {i n : Nat} (h : i < n) : n - (intOf (.int .i64 ((i + 1 : Nat) : Int))).toNat < n - (intOf (.int .i64 (i : Int))).toNat := by show n - ((i + 1 : Nat) : Int).toNat < n - (i : Int).toNat; omega
theorem wfI {n : Int} (h : -9223372036854775808 ≤ n ∧ n ≤ 9223372036854775807) : (Lit.int .i64 n).wf = true := by
  simp only [Lit.wf, IntKind.min, IntKind.max, IntKind.signed, IntKind.bits, Bool.and_eq_true, decide_eq_true_eq]; simpa using h
theorem wfU {n : Int} (h : 0 ≤ n ∧ n ≤ 4294967295) : (Lit.int .u32 n).wf = true := by
  simp only [Lit.wf, IntKind.min, IntKind.max, IntKind.signed, IntKind.bits, Bool.and_eq_true]; simpa using h
theorem setBlock_other {b i : Nat} {W : World} {o : Obj} (h : i ≠ b) : (setBlock W b o).heap[i]? = W.heap[i]? := by
  show (W.heap.setIfInBounds b o)[i]? = _; rw [Array.getElem?_setIfInBounds, if_neg (Ne.symm h)]
theorem size_setBlock (w : World) (b : Nat) (O : Obj) : (setBlock w b O).heap.size = w.heap.size := by simp [setBlock]
theorem below_put {w W : World} {b : Nat} (h : Below w.heap.size w W) (hb : w.heap.size ≤ b) (O : Obj) : Below w.heap.size w (setBlock W b O) := ((But.of_below h []).setBlock (.inl hb) O).below (Nat.le_refl _) (by simp)
theorem ret_vb {v : Value} {a b : Bool} (h : a = b) : Ending.returned (.tuple #[v, .bool a]) = .returned (.tuple #[v, .bool b]) := by rw [h]
theorem ret_nb {a b : Int} {x y : Bool} (h : a = b) (k : x = y) : Ending.returned (.tuple #[.int .i64 a, .bool x]) = .returned (.tuple #[.int .i64 b, .bool y]) := by rw [h, k]
def lenV : Value → Nat
  | .slice _ n _ => n
  | _ => 0
def seenN (w : World) (b : Nat) : Nat := match w.heap[b]? with
  | some (.mapIter _ _ seen _) => seen.size
  | _ => 0
theorem seenN_of {w : World} {b : Nat} {m : Option Nat} {c : Nat} {seen : Array Nat} {d : Nat} (h : w.heap[b]? = some (.mapIter m c seen d)) : seenN w b = seen.size := by unfold seenN; rw [h]
theorem filter_snoc {α : Type} (p : α → Bool) (l : List α) (x : α) : (l ++ [x]).filter p = if p x then l.filter p ++ [x] else l.filter p := by
  rw [List.filter_append, List.filter_cons]
  split <;> simp
end Go.Proofs.Ytpjfgfdpngibgaa
/- A region that draws its order, in pieces: those of a set in whatever order, each of which reads, or calls what leaves the world in a class; one that comes up alone; and so on. -/
namespace Go.Proofs.Ytpjfgfdpngibgaa
open Go Go.RowKit

section
variable {P : Program} {ops : Array Oper} {md : Region.Mode} {C : World → Prop}

def depsB (md : Region.Mode) (ops : Array Oper) (t : Nat) : List Nat := match ops[t]? with | some o => (o.after.toList.filter (fun e => Region.binds md e)).map (fun e => e.on) | none => []
def ancs (md : Region.Mode) (ops : Array Oper) (t : Nat) : List Nat := (List.range ops.size).reverse.foldl (fun S j => if S.contains j then depsB md ops j ++ S else S) (depsB md ops t)
def closedB (md : Region.Mode) (ops : Array Oper) (listed : Array Bool) : Bool := decide (listed.size = ops.size) && (List.range ops.size).all fun j => !(listed.getD j false) || (depsB md ops j).all fun i => listed.getD i false
structure SInv (md : Region.Mode) (ops : Array Oper) (l0 listed : Array Bool) : Prop where
  size : listed.size = ops.size
  closed : ∀ j, listed.getD j false = true → ∀ i ∈ depsB md ops j, listed.getD i false = true
  mono : ∀ j, l0.getD j false = true → listed.getD j false = true
theorem depsB_mem {j : Nat} {oj : Oper} (h : ops[j]? = some oj) {e : Edge} (he : e ∈ oj.after) (hb : Region.binds md e = true) : e.on ∈ depsB md ops j := by
  unfold depsB
  rw [h]
  exact List.mem_map.2 ⟨e, List.mem_filter.2 ⟨by simpa using he, hb⟩, rfl⟩
theorem ready_deps {j : Nat} {listed : Array Bool} (h : j ∈ Region.ready md ops listed) : ∀ i ∈ depsB md ops j, listed.getD i false = true := by
  obtain ⟨_, o, ho, hall⟩ := mem_ready.1 h
  intro i hi
  unfold depsB at hi
  rw [ho] at hi
  obtain ⟨e, he, rfl⟩ := List.mem_map.1 hi
  obtain ⟨he, hb⟩ := List.mem_filter.1 he
  exact hall e (by simpa using he) hb
theorem SInv.set {l0 listed : Array Bool} (inv : SInv md ops l0 listed) {i : Nat} (hi : i ∈ Region.ready md ops listed) : SInv md ops l0 (listed.setIfInBounds i true) := by
  have hd := ready_deps hi
  refine ⟨by simp [inv.size], fun j hj k hk => ?_, fun j hj => getD_set_true (inv.mono j hj)⟩
  by_cases hij : i = j
  · subst hij; exact getD_set_true (hd k hk)
  · rw [getD_set_ne false hij] at hj
    exact getD_set_true (inv.closed j hj k hk)
theorem SInv.ancs {l0 listed : Array Bool} (inv : SInv md ops l0 listed) {t : Nat} (ht : t ∈ Region.ready md ops listed) : ∀ i ∈ ancs md ops t, listed.getD i false = true := by
  unfold Ytpjfgfdpngibgaa.ancs
  have : ∀ (l S : List Nat), (∀ i ∈ S, listed.getD i false = true) → ∀ i ∈ l.foldl (fun S j => if S.contains j then depsB md ops j ++ S else S) S, listed.getD i false = true := by
    intro l
    induction l with
    | nil => intro S h; exact h
    | cons j l ih =>
      intro S h
      refine ih _ ?_
      dsimp only
      split
      · rename_i hc
        have hj := h j (by simpa using hc)
        intro i hi
        rcases List.mem_append.1 hi with hi | hi
        · exact inv.closed j hj i hi
        · exact h i hi
      · exact h
  exact this _ _ (ready_deps ht)
theorem sinv_of {listed : Array Bool} (h : closedB md ops listed = true) : SInv md ops listed listed := by
  simp only [closedB, Bool.and_eq_true, decide_eq_true_eq] at h
  refine ⟨h.1, fun j hj i hi => ?_, fun _ h => h⟩
  have h1 := List.all_eq_true.1 h.2 j
  by_cases hlt : j < ops.size
  · have h2 := h1 (List.mem_range.2 hlt)
    rw [hj, Bool.not_true, Bool.false_or] at h2
    exact List.all_eq_true.1 h2 i hi
  · unfold depsB at hi; rw [Array.getElem?_eq_none (by omega)] at hi; cases hi

/-- so many more operations come up, all of hd, each quiet; then L -/
def headS (P : Program) (md : Region.Mode) (ops : Array Oper) (C : World → Prop) (hd : List Nat) (L : Array Bool → Act → Prop) : Nat → Array Bool → Act → Prop
  | 0, listed, a => L listed a
  | f + 1, listed, a => Region.ready md ops listed ≠ [] ∧ ∀ i ∈ Region.ready md ops listed, i ∈ hd ∧ qOp P ops C i (headS P md ops C hd L f (listed.setIfInBounds i true)) a
theorem any_of_headS {hd : List Nat} {g : Nat} {L : Array Bool → Act → Prop} {Q' : Exit → Act → World → Prop} (hL : ∀ listed a w, C w → L listed a → wpAny P md ops Q' g listed a w) (f : Nat) :
    ∀ (listed : Array Bool) (a : Act) (w : World), C w → headS P md ops C hd L f listed a → wpAny P md ops Q' (f + g) listed a w := by
  induction f with
  | zero => intro listed a w hw h; rw [Nat.zero_add]; exact hL _ _ _ hw h
  | succ f ih =>
    intro listed a w hw h
    rw [Nat.succ_add]
    exact ⟨fun h0 => absurd h0 h.1, fun i hi => wpOp_of_qOp hw (fun a' w' hw' h' => ih _ a' w' hw' h') (h.2 i hi).2⟩
theorem headS_first {hd : List Nat} {l0 : Array Bool} {i : Nat} {oi : Oper} {v : Value} {L : Array Bool → Act → Prop} (hi : ops[i]? = some oi) (hsel : ∀ (j : Nat) (o : Oper) cs b, ops[j]? = some o → o.op ≠ .select cs b)
    (htw : ∀ listed, SInv md ops l0 listed → ∀ t ∈ Region.ready md ops listed, t ∉ hd → ∀ i ∈ hd, listed.getD i false = true) (hin : i ∈ hd) (hdone : ∀ listed a, L listed a → ∀ j ∈ Region.ready md ops listed, j ∉ hd) (f : Nat) :
    ∀ (listed : Array Bool) (a : Act), SInv md ops l0 listed →
      (∀ j oj, ops[j]? = some oj → j ≠ i → listed.getD j true = false → (∀ e ∈ oj.after, Region.binds md e = true → e.on ≠ i) → oi.apart ops oj = true) →
      i ∈ Region.ready md ops listed → YieldsIn P ops C oi v a → headS P md ops C hd L f (listed.setIfInBounds i true) (a.put oi.dst v) → headS P md ops C hd L (f + 1) listed a := by
  induction f with
  | zero =>
    intro listed a inv _ hr hy H
    have hun := (mem_ready.1 hr).1
    refine ⟨fun h => (by rw [h] at hr; cases hr), fun j hj => ?_⟩
    have hjn : j ∈ hd := Classical.byContradiction fun h => by have := htw _ inv j hj h i hin; rw [getD_both hun] at this; cases this
    refine ⟨hjn, ?_⟩
    by_cases hji : j = i
    · subst hji; exact hy.qOp hi H
    · exact absurd hjn (hdone _ _ H j (ready_mono hj hji))
  | succ f ih =>
    intro listed a inv hfree hr hy H
    have hun := (mem_ready.1 hr).1
    refine ⟨fun h => (by rw [h] at hr; cases hr), fun j hj => ?_⟩
    have hjn : j ∈ hd := Classical.byContradiction fun h => by have := htw _ inv j hj h i hin; rw [getD_both hun] at this; cases this
    refine ⟨hjn, ?_⟩
    by_cases hji : j = i
    · subst hji; exact hy.qOp hi H
    obtain ⟨hjun, oj, hoj, hall⟩ := mem_ready.1 hj
    have hnot : ∀ e ∈ oj.after, Region.binds md e = true → e.on ≠ i := by
      intro e he hb heq
      have h1 := hall e he hb
      rw [heq, getD_both hun] at h1
      cases h1
    have h2 := qOp_put hoj (hfree j oj hoj hji hjun hnot) (fun cs b => hsel i oi cs b hi) (fun cs b => hsel j oj cs b hoj) hy (H.2 j (ready_mono hj hji)).2
    refine qOp_mono (fun a' h3 => ih (listed.setIfInBounds j true) a' (inv.set hj) ?_ (ready_mono hr (Ne.symm hji)) h3.1 ?_) h2
    · intro k ok hk hki hun' hno
      refine hfree k ok hk hki ?_ hno
      by_cases hjk : j = k
      · subst hjk; exact hjun
      · rw [getD_set_ne true hjk] at hun'; exact hun'
    · rw [Array.setIfInBounds_comm _ _ hji]; exact h3.2
/-- in this order they come up, each apart from what is not there yet -/
def lexS (md : Region.Mode) (ops : Array Oper) (hd : List Nat) : List Nat → Array Bool → Bool
  | [], listed => (Region.ready md ops listed).all (fun j => !hd.contains j)
  | k :: r, listed => (Region.ready md ops listed).contains k && hd.contains k && Region.free md ops listed k && lexS md ops hd r (listed.setIfInBounds k true)
def setAll (l : List Nat) (listed : Array Bool) : Array Bool := l.foldl (fun s i => s.setIfInBounds i true) listed
theorem headS_lex {hd : List Nat} {l0 : Array Bool} {Lq : Act → Prop} (hsel : Region.noSelect ops = true)
    (htw : ∀ listed, SInv md ops l0 listed → ∀ t ∈ Region.ready md ops listed, t ∉ hd → ∀ i ∈ hd, listed.getD i false = true) (l : List Nat) :
    ∀ (listed : Array Bool) (a : Act), SInv md ops l0 listed → lexS md ops hd l listed = true → wpQuiet P ops C Lq (pick ops.toList l) a →
    headS P md ops C hd (fun listed' a' => (listed' = setAll l listed ∧ ((Region.ready md ops listed').all (fun j => !hd.contains j)) = true) ∧ Lq a') l.length listed a := by
  induction l with
  | nil => intro listed a _ hB h; exact ⟨⟨rfl, by simpa [lexS] using hB⟩, h⟩
  | cons k l ih =>
    intro listed a inv hB h
    simp only [lexS, Bool.and_eq_true] at hB
    obtain ⟨⟨⟨hr, hin⟩, hf⟩, hB'⟩ := hB
    have hr' : k ∈ Region.ready md ops listed := by simpa using hr
    obtain ⟨o, h0⟩ := ready_lt hr'
    have hp : pick ops.toList (k :: l) = o :: pick ops.toList l := by simp [pick, List.getD_eq_getElem?_getD, h0]
    rw [hp] at h
    have hq : qOp P ops C k (wpQuiet P ops C Lq (pick ops.toList l)) a := by unfold qOp; simp only [h0]; exact h
    obtain ⟨v, hy, hK⟩ := yieldsIn_of_qOp h0 hq
    refine headS_first h0 (Region.noSelect_spec hsel) htw (by simpa using hin) (fun listed' a' hL j hj => ?_) l.length listed a inv (Region.free_spec h0 hf) hr' hy ?_
    · have := List.all_eq_true.1 hL.1.2 j hj
      simpa using this
    · exact ih _ _ (inv.set hr') hB' hK
/-- may a piece be taken so -/
def segB (md : Region.Mode) (ops : Array Oper) (hd : List Nat) (l0 : Array Bool) : Bool :=
  Region.noSelect ops && closedB md ops l0 && lexS md ops hd hd l0 && (List.range ops.size).all fun t => hd.contains t || l0.getD t false || hd.all fun i => (ancs md ops t).contains i
theorem wpAny_seg {Q : Exit → Act → World → Prop} {g : Nat} (C : World → Prop) (hd : List Nat) {n : Nat} (hn : hd.length + g = n) {l0 : Array Bool} {a : Act} {w : World} (hB : segB md ops hd l0 = true) (hw : C w)
    (h : wpQuiet P ops C (fun a' => ∀ w', C w' → wpAny P md ops Q g (setAll hd l0) a' w') (pick ops.toList hd) a) : wpAny P md ops Q n l0 a w := by
  subst hn
  simp only [segB, Bool.and_eq_true] at hB
  obtain ⟨⟨⟨h1, h2⟩, h3⟩, h4⟩ := hB
  have inv := sinv_of h2
  have htw : ∀ listed, SInv md ops l0 listed → ∀ t ∈ Region.ready md ops listed, t ∉ hd → ∀ i ∈ hd, listed.getD i false = true := by
    intro listed inv t ht hth i hi
    obtain ⟨hun, o, ho, _⟩ := mem_ready.1 ht
    have h5 := List.all_eq_true.1 h4 t (List.mem_range.2 (Array.getElem?_eq_some_iff.1 ho).1)
    simp only [Bool.or_eq_true] at h5
    rcases h5 with (h5 | h5) | h5
    · exact absurd (by simpa using h5) hth
    · have := inv.mono t h5; rw [getD_both hun] at this; cases this
    · exact inv.ancs ht i (by simpa using List.all_eq_true.1 h5 i hi)
  refine any_of_headS (C := C) (hd := hd) (fun listed' a' w' hw' hL => ?_) hd.length l0 a w hw (headS_lex h1 htw hd l0 a inv h3 h)
  obtain ⟨⟨rfl, _⟩, hL⟩ := hL
  exact hL w' hw'
theorem wp_then {o : Oper} {a : Act} {w : World} {K K0 : Act → World → Prop} {Q : Exit → Act → World → Prop} (h : o.wp P a w K (Exit.then K0 Q)) : o.wp P a w K Q := by
  unfold Oper.wp at *
  generalize (execOp a.eval o).run P w = r at *
  cases r with
  | ok x w' =>
    cases x <;> simp only [Oper.upon] at h ⊢ <;>
      first
        | exact h
        | exact h.mono (fun e w'' he => by cases e <;> first | exact he | exact (let ⟨a, w, h⟩ := he; ⟨a, w, h⟩))
  | halt x w' => cases x <;> simp only [Oper.upon] at h ⊢ <;> exact h
/-- one that comes up alone -/
theorem wpAny_one {Q : Exit → Act → World → Prop} {g : Nat} (i : Nat) {l0 : Array Bool} {a : Act} {w : World} (hB : decide (Region.ready md ops l0 = [i]) = true)
    (h : wpList P ops (Exit.then (wpAny P md ops Q g (l0.setIfInBounds i true)) Q) (pick ops.toList [i]) a w) : wpAny P md ops Q (g + 1) l0 a w := by
  have hr : Region.ready md ops l0 = [i] := by simpa using hB
  obtain ⟨o, ho⟩ := ready_lt (md := md) (ops := ops) (listed := l0) (i := i) (by rw [hr]; simp)
  refine wpAny_all hr (by simp) fun j hj => ?_
  obtain rfl : j = i := by simpa using hj
  have hp : pick ops.toList [j] = [o] := by simp [pick, List.getD_eq_getElem?_getD, ho]
  rw [hp] at h
  unfold wpOp
  simp only [ho]
  unfold wpList at h
  by_cases hw : Region.wanted o (yielded ops a.tmps) = true
  · rw [if_pos hw] at h ⊢
    refine h.imp (fun h => wp_then (Oper.wp_mono (fun a' w' h' => h') h)) (fun h => ⟨h.1, let ⟨a, w, h⟩ := h.2; ⟨a, w, h⟩⟩)
  · rw [if_neg hw] at h ⊢
    exact h
def pureS (md : Region.Mode) (ops : Array Oper) : List Nat → Array Bool → Bool
  | [], _ => true
  | i :: r, listed => (Region.ready md ops listed).contains i && Region.free md ops listed i && pureS md ops r (listed.setIfInBounds i true)
theorem pureS_go {Q : Exit → Act → World → Prop} {g : Nat} {w : World} (hsel : Region.noSelect ops = true) (hQ : ∀ c (a : Act) d v w, Q (.panic c) (a.put d v) w → Q (.panic c) a w) : ∀ (hd : List Nat) (l0 : Array Bool) (a : Act), pureS md ops hd l0 = true → wpPure P ops (fun a' => wpAny P md ops Q g (setAll hd l0) a' w) (pick ops.toList hd) a → wpAny P md ops Q (hd.length + g) l0 a w
  | [], l0, a, _, h => by rw [List.length_nil, Nat.zero_add]; exact h
  | i :: r, l0, a, hB, h => by
    simp only [pureS, Bool.and_eq_true] at hB
    obtain ⟨⟨hr, hf⟩, hB'⟩ := hB
    obtain ⟨o, ho⟩ := ready_lt (md := md) (ops := ops) (listed := l0) (i := i) (by simpa using hr)
    have hp : pick ops.toList (i :: r) = o :: pick ops.toList r := by simp [pick, List.getD_eq_getElem?_getD, ho]
    rw [hp] at h
    rw [List.length_cons, Nat.succ_add]
    unfold wpPure at h
    by_cases hw : Region.wanted o (yielded ops a.tmps) = true
    · rw [if_pos hw] at h
      obtain ⟨v, hv, hrest⟩ := h
      exact wpAny_take ho hsel hf hr (fun c a w => hQ c a _ _ w) (.inl ⟨hw, hv⟩) (pureS_go hsel hQ r _ _ hB' hrest)
    · rw [if_neg hw] at h
      exact wpAny_take ho hsel hf hr (fun c a w => hQ c a _ _ w) (.inr ⟨by simpa using hw, rfl⟩) (pureS_go hsel hQ r _ _ hB' h)
/-- those that only compute may be taken first -/
theorem wpAny_pure {Q : Exit → Act → World → Prop} {g n : Nat} (hd : List Nat) (hn : hd.length + g = n) {l0 : Array Bool} {a : Act} {w : World} (hB : (Region.noSelect ops && pureS md ops hd l0) = true) (hQ : ∀ c (a : Act) d v w, Q (.panic c) (a.put d v) w → Q (.panic c) a w)
    (h : wpPure P ops (fun a' => wpAny P md ops Q g (setAll hd l0) a' w) (pick ops.toList hd) a) : wpAny P md ops Q n l0 a w := by
  subst hn
  simp only [Bool.and_eq_true] at hB
  exact pureS_go hB.1 hQ hd l0 a hB.2 h
theorem wp_region_pieces {id : Nat} {Q : Exit → Act → World → Prop} {a : Act} {w : World} {l : List Oper} (hm : P.follows .mixedOrders = true)
    (h : wpAny P .any l.toArray Q l.length (Array.replicate l.length false) a w.drew) : (Code.region id l.toArray true).wp P Q a w := by
  refine wp_region_any hm ?_
  simpa using h
/-- operations that read, in every world that meets S, the same; then L -/
def wpRead (P : Program) (ops : Array Oper) (S : World → Prop) (L : Act → Prop) : List Oper → Act → Prop
  | [], a => L a
  | o :: rest, a => if Region.wanted o (yielded ops a.tmps) = true then ∃ v, (∀ w, S w → (execOp a.eval o).run P w = .ok (.value v) w) ∧ wpRead P ops S L rest (a.put o.dst v) else wpRead P ops S L rest (a.put o.dst undef)
theorem wpRead_nil {S : World → Prop} {L : Act → Prop} {a : Act} (h : L a) : wpRead P ops S L [] a := h
theorem wpRead_step {S : World → Prop} {L : Act → Prop} {a : Act} {o : Oper} {rest : List Oper}
    (h : ∀ K : Act → Prop, (∀ a, wpRead P ops S L rest a → K a) → if Region.wanted o (yielded ops a.tmps) = true then ∃ v, (∀ w, S w → (execOp a.eval o).run P w = .ok (.value v) w) ∧ K (a.put o.dst v) else K (a.put o.dst undef)) : wpRead P ops S L (o :: rest) a :=
  h _ (fun _ h => h)
theorem reads_go {S : World → Prop} {Q : Exit → Act → World → Prop} {g : Nat} {w : World} (hsel : Region.noSelect ops = true) (hS : S w) (hQ : ∀ c (a : Act) d v w, Q (.panic c) (a.put d v) w → Q (.panic c) a w) : ∀ (hd : List Nat) (l0 : Array Bool) (a : Act), pureS md ops hd l0 = true → wpRead P ops S (fun a' => wpAnyH P md ops Q S g (setAll hd l0) a' w) (pick ops.toList hd) a → wpAnyH P md ops Q S (hd.length + g) l0 a w
  | [], l0, a, _, h => by rw [List.length_nil, Nat.zero_add]; exact h
  | i :: r, l0, a, hB, h => by
    simp only [pureS, Bool.and_eq_true] at hB
    obtain ⟨⟨hr, hf⟩, hB'⟩ := hB
    obtain ⟨o, ho⟩ := ready_lt (md := md) (ops := ops) (listed := l0) (i := i) (by simpa using hr)
    have hp : pick ops.toList (i :: r) = o :: pick ops.toList r := by simp [pick, List.getD_eq_getElem?_getD, ho]
    rw [hp] at h
    rw [List.length_cons, Nat.succ_add]
    unfold wpRead at h
    by_cases hw : Region.wanted o (yielded ops a.tmps) = true
    · rw [if_pos hw] at h
      obtain ⟨v, hv, hrest⟩ := h
      exact wpAnyH_take ho hsel hf hr (fun c a w => hQ c a _ _ w) (.inl ⟨hw, hv⟩) hS (reads_go hsel hS hQ r _ _ hB' hrest)
    · rw [if_neg hw] at h
      exact wpAnyH_take ho hsel hf hr (fun c a w => hQ c a _ _ w) (.inr ⟨by simpa using hw, rfl⟩) hS (reads_go hsel hS hQ r _ _ hB' h)
/-- those that only read what S says may be taken first -/
theorem held_reads {S : World → Prop} {Q : Exit → Act → World → Prop} {g n : Nat} (hd : List Nat) (hn : hd.length + g = n) {l0 : Array Bool} {a : Act} {w : World} (hB : (Region.noSelect ops && pureS md ops hd l0) = true) (hS : S w) (hQ : ∀ c (a : Act) d v w, Q (.panic c) (a.put d v) w → Q (.panic c) a w)
    (h : wpRead P ops S (fun a' => wpAnyH P md ops Q S g (setAll hd l0) a' w) (pick ops.toList hd) a) : wpAnyH P md ops Q S n l0 a w := by
  subst hn
  simp only [Bool.and_eq_true] at hB
  exact reads_go hB.1 hS hQ hd l0 a hB.2 h
/-- one that comes up alone: behind it S holds -/
theorem held_one {S : World → Prop} {Q : Exit → Act → World → Prop} {g : Nat} (i : Nat) {l0 : Array Bool} {a : Act} {w : World} (hB : decide (Region.ready md ops l0 = [i]) = true)
    (h : wpList P ops (Exit.then (fun a' w' => S w' ∧ wpAnyH P md ops Q S g (l0.setIfInBounds i true) a' w') Q) (pick ops.toList [i]) a w) : wpAnyH P md ops Q S (g + 1) l0 a w := by
  have hr : Region.ready md ops l0 = [i] := by simpa using hB
  obtain ⟨o, ho⟩ := ready_lt (md := md) (ops := ops) (listed := l0) (i := i) (by rw [hr]; simp)
  refine wpAnyH_all hr (by simp) fun j hj => ?_
  obtain rfl : j = i := by simpa using hj
  have hp : pick ops.toList [j] = [o] := by simp [pick, List.getD_eq_getElem?_getD, ho]
  rw [hp] at h
  unfold wpOp
  simp only [ho]
  unfold wpList at h
  by_cases hw : Region.wanted o (yielded ops a.tmps) = true
  · rw [if_pos hw] at h ⊢
    refine h.imp (fun h => wp_then (Oper.wp_mono (fun a' w' h' => h') h)) (fun h => ⟨h.1, let ⟨a, w, h⟩ := h.2; ⟨a, w, h⟩⟩)
  · rw [if_neg hw] at h ⊢
    exact h
theorem wp_region_heldP {id : Nat} {Q : Exit → Act → World → Prop} {a : Act} {w : World} {l : List Oper} (S : World → Prop) (hm : P.follows .mixedOrders = true)
    (h : wpAnyH P .any l.toArray Q S l.length (Array.replicate l.length false) a w.drew) : (Code.region id l.toArray true).wp P Q a w := by
  refine wp_region_held (S := S) hm ?_
  simpa using h
end
end Go.Proofs.Ytpjfgfdpngibgaa
/- Two operations that come up together. -/
namespace Go.Proofs.Ytpjfgfdpngibgaa
open Go Go.RowKit

section
variable {P : Program} {ops : Array Oper} {md : Region.Mode} {S : World → Prop}

/-- two that come up, in whatever order -/
theorem held_two {Q : Exit → Act → World → Prop} {g : Nat} (i j : Nat) {l0 : Array Bool} {a : Act} {w : World} (hB : decide (Region.ready md ops l0 = [i, j]) = true)
    (h1 : wpList P ops (Exit.then (fun a' w' => S w' ∧ wpAnyH P md ops Q S g (l0.setIfInBounds i true) a' w') Q) (pick ops.toList [i]) a w)
    (h2 : wpList P ops (Exit.then (fun a' w' => S w' ∧ wpAnyH P md ops Q S g (l0.setIfInBounds j true) a' w') Q) (pick ops.toList [j]) a w) : wpAnyH P md ops Q S (g + 1) l0 a w := by
  have hr : Region.ready md ops l0 = [i, j] := by simpa using hB
  have go : ∀ k, k ∈ [i, j] → wpList P ops (Exit.then (fun a' w' => S w' ∧ wpAnyH P md ops Q S g (l0.setIfInBounds k true) a' w') Q) (pick ops.toList [k]) a w → wpOp P ops Q k (fun a' w' => S w' ∧ wpAnyH P md ops Q S g (l0.setIfInBounds k true) a' w') a w := by
    intro k hk h
    obtain ⟨o, ho⟩ := ready_lt (md := md) (ops := ops) (listed := l0) (i := k) (by rw [hr]; exact hk)
    have hp : pick ops.toList [k] = [o] := by simp [pick, List.getD_eq_getElem?_getD, ho]
    rw [hp] at h
    unfold wpOp
    simp only [ho]
    unfold wpList at h
    by_cases hw : Region.wanted o (yielded ops a.tmps) = true
    · rw [if_pos hw] at h ⊢
      refine h.imp (fun h => wp_then (Oper.wp_mono (fun a' w' h' => h') h)) (fun h => ⟨h.1, let ⟨a, w, h⟩ := h.2; ⟨a, w, h⟩⟩)
    · rw [if_neg hw] at h ⊢
      exact h
  refine wpAnyH_all hr (by simp) fun k hk => go k hk ?_
  simp only [List.mem_cons, List.not_mem_nil, or_false] at hk
  rcases hk with rfl | rfl
  · exact h1
  · exact h2
end
end Go.Proofs.Ytpjfgfdpngibgaa
/- slices.SortFunc of an owned slice of structs. -/
namespace Go.Proofs.Ytpjfgfdpngibgaa
open Go.Shelf Go.RowKit Go.Lib Go.Sort
namespace Rep
variable {α : Type} [Inhabited α] {R : Rep α}
/-- no later one is less than an earlier one -/
def SortedBy (cf : α → α → Int) (M : List α) : Prop := ∀ i j, i < j → j < M.length → 0 ≤ cf (M.getD j default) (M.getD i default)
theorem getB (M : List α) (i : Nat) : M.toArray[i]! = M.getD i default := by
  rw [getElem!_def]
  simp [List.getD_eq_getElem?_getD]
  cases M[i]? <;> rfl
theorem flatK_list (M : List α) : (flatK R.cells R.k M.toArray).toList = R.flat M := by
  have hp := R.pos
  apply List.ext_getElem?
  intro t
  by_cases ht : t < M.length * R.k
  · have hi : t / R.k < M.length := Nat.div_lt_of_lt_mul (by rw [Nat.mul_comm]; exact ht)
    have hj : t % R.k < R.k := Nat.mod_lt _ hp
    have he : t / R.k * R.k + t % R.k = t := by rw [Nat.mul_comm]; exact Nat.div_add_mod t R.k
    have h1 := get_flatK R.cells R.k M.toArray t (by simpa using ht)
    rw [show M.toArray[t / R.k]! = M.getD (t / R.k) default from getB M _] at h1
    have h2 := R.flat_get M (t / R.k) (t % R.k) hi hj
    rw [he] at h2
    rw [h2, Array.getElem?_toList]
    have hs : t < (flatK R.cells R.k M.toArray).size := by simpa using ht
    rw [getElem!_pos _ t hs] at h1
    rw [Array.getElem?_eq_getElem hs, h1]
    have hl : t % R.k < (R.cells (M.getD (t / R.k) default)).length := by rw [R.len]; exact hj
    rw [List.getElem?_eq_getElem hl, getElem!_pos (R.cells (M.getD (t / R.k) default)) (t % R.k) hl]
  · rw [List.getElem?_eq_none (by simp; omega), List.getElem?_eq_none (by rw [R.flat_length]; omega)]
theorem holds_own {w : World} {base g cap : Nat} {L : List α} (h : R.Own w base (.slice (some ⟨g, 0, none⟩) L.length cap) L) : HoldsK R.cells R.k w g 0 L.toArray := by
  intro j hj
  rcases h.2 with ⟨h2, _⟩ | ⟨g', cap', cur, hv, hg, hh, h3, h4, h5, h6⟩
  · cases h2
  · simp only [Value.slice.injEq, Option.some.injEq, Addr.mk.injEq, and_true, true_and] at hv
    obtain ⟨rfl, rfl⟩ := hv
    have hj' : j < L.length * R.k := by simpa using hj
    refine ⟨?_, free_of hh⟩
    rw [Nat.zero_add, getElem!_pos _ j hj]
    refine cell_of hh ?_
    have h7 : (flatK R.cells R.k L.toArray).toList[j]? = some (flatK R.cells R.k L.toArray)[j] := by rw [Array.getElem?_toList]; exact Array.getElem?_eq_getElem hj
    rw [flatK_list, ← h6, List.getElem?_take, if_pos hj', Array.getElem?_toList] at h7
    exact h7
theorem own_sorted {w : World} {base g cap n : Nat} {L M : List α} {os : Array Obj} (h : R.Own w base (.slice (some ⟨g, 0, none⟩) L.length cap) L) (hl : M.length = L.length) :
    R.Own (sortWorldK R.cells R.k w g 0 n M.toArray os) base (.slice (some ⟨g, 0, none⟩) L.length cap) M ∧ But w (sortWorldK R.cells R.k w g 0 n M.toArray os) [g] ∧ base ≤ g := by
  rcases h.2 with ⟨h2, _⟩ | ⟨g', cap', cur, hv, hg, hh, h3, h4, h5, h6⟩
  · cases h2
  · simp only [Value.slice.injEq, Option.some.injEq, Addr.mk.injEq, and_true, true_and] at hv
    obtain ⟨rfl, rfl⟩ := hv
    have hlt := lt_of_blk hh
    have hsz : ((putRowK R.cells R.k (Sort.ahead w n) g 0 M.toArray)).heap.size = w.heap.size := by unfold putRowK; rw [size_putRow]; rfl
    have hblk : ∀ k, k < w.heap.size → (sortWorldK R.cells R.k w g 0 n M.toArray os).heap[k]? = (putRowK R.cells R.k (Sort.ahead w n) g 0 M.toArray).heap[k]? := fun k hk => by
      show ((putRowK R.cells R.k (Sort.ahead w n) g 0 M.toArray).heap ++ os)[k]? = _
      rw [Array.getElem?_append_left (by omega)]
    have hput : ∀ k, (putRowK R.cells R.k (Sort.ahead w n) g 0 M.toArray).heap[k]? = if g = k then (w.heap[k]?).map (onCells (putCells id 0 (flatK R.cells R.k M.toArray))) else w.heap[k]? := fun k => by
      show (w.heap.modify g (onCells (putCells id 0 (flatK R.cells R.k M.toArray))))[k]? = _
      rw [Array.getElem?_modify]
    refine ⟨⟨by rw [R.flat_length, hl], .inr ⟨g, cap, putCells id 0 (flatK R.cells R.k M.toArray) cur, by rw [hl], hg, ?_, by rw [hl]; exact h3, h4, by simpa [putCells] using h5, ?_⟩⟩, ⟨rfl, rfl, rfl, ?_, fun k hk hn => ?_⟩, hg⟩
    · rw [hblk g hlt, hput, if_pos rfl, hh]
      rfl
    · rw [← flatK_list, hl]
      apply List.ext_getElem?
      intro q
      rw [List.getElem?_take]
      by_cases hq : q < L.length * R.k
      · rw [if_pos hq, Array.getElem?_toList, Array.getElem?_toList]
        have hq2 : q < (flatK R.cells R.k M.toArray).size := by simp [hl]; exact hq
        have hq3 : q < cur.size := by
          rw [h5]
          exact Nat.lt_of_lt_of_le hq (Nat.mul_le_mul_right _ h3)
        simp only [putCells, Array.getElem?_mapIdx, Array.getElem?_eq_getElem hq3, Option.map_some]
        rw [if_pos ⟨Nat.zero_le _, by omega⟩, Array.getElem?_eq_getElem hq2, getElem!_pos _ _ (by simpa using hq2)]
        simp
      · rw [if_neg hq, Array.getElem?_toList, Array.getElem?_eq_none (by simp [hl]; omega)]
    · show w.heap.size ≤ ((putRowK R.cells R.k (Sort.ahead w n) g 0 M.toArray).heap ++ os).size
      rw [Array.size_append, hsz]; omega
    · rw [hblk k hk, hput, if_neg (by simp at hn; omega)]
theorem sort_own {P : Program} {ρ : Ren} (SL : SlLaysF0.n6 P ρ) (aE : ∀ w, (isAgg (ρ.t 24)).run P w = .ok true w) (zE : ∀ w, (Go.sizeOf (ρ.t 24)).run P w = .ok R.k w) (cf : α → α → Int) (hO : SWO (ltOf cf)) (f : Nat) (cb : Array Value)
    (eg : ∀ args w, (callFunc f args).run P w = .ok (.enter f args) w) {w : World} {base : Nat} {v : Value} {L : List α} (hown : R.Own w base v L) (hcmp : ∀ g, CmpLays P f cb R.cells R.k cf g 0 L.length w) (hsz : L.length < 4611686018427387904) (hbase : base ≤ w.heap.size) :
    Calls P (ρ.f 6) #[v, .func (.func f) #[] cb] w fun e w' => e = .returned (.tuple #[]) ∧ ∃ M, M.Perm L ∧ SortedBy cf M ∧ R.Own w' base v M ∧ Below base w w' := by
  rcases hown.cases with ⟨rfl, rfl⟩ | ⟨g, cap, rfl, hg, hl, -⟩
  · exact (AnyF.slices_SortFunc_none SL none 0 (.func (.func f) #[] cb) w).mono fun e w' ⟨h1, h2⟩ => ⟨h1, [], List.Perm.refl _, fun i j _ hj => absurd hj (by simp), h2 ▸ hown, h2 ▸ Below.refl _ _⟩
  · have h := AnyQ.slices_SortFunc SL R.k aE zE R.cells R.len (fun x u hu => List.all_eq_true.1 (R.one x) u hu) cf hO f cb g 0 cap L.toArray w eg (by simpa using hcmp g) (holds_own hown) hl (by simpa using hsz)
    rw [List.size_toArray] at h
    refine h.mono fun e w' ⟨h1, d', n, os, hp, hs, hw⟩ => ⟨h1, d'.toList, ?_, ?_, ?_⟩
    · have := hp.2.2
      have h0 : d'.size = L.length := by simpa using hp.1
      simp only [Array.toList_extract, List.extract_eq_take_drop, Nat.sub_zero, List.drop_zero] at this
      rwa [List.take_of_length_le (by simp [h0]), List.take_of_length_le (by simp)] at this
    · intro i j hij hj
      have h0 : d'.size = L.length := by simpa using hp.1
      have := hs i j (Nat.zero_le _) hij (by simpa [h0] using hj)
      unfold ltOf at this
      have e1 := getB d'.toList i
      have e2 := getB d'.toList j
      rw [← e1, ← e2]
      simp only [Array.toArray_toList]
      simpa using this
    · have h0 : d'.toList.length = L.length := by simpa using hp.1
      have := own_sorted (n := n) (os := os) hown h0
      simp only [Array.toArray_toList] at this
      rw [← hw] at this
      exact ⟨this.1, this.2.1.below hbase (by simpa using this.2.2)⟩
end Rep
end Go.Proofs.Ytpjfgfdpngibgaa
