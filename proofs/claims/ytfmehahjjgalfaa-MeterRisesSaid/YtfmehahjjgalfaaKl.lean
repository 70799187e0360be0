/- A map whose entries are a list of things, each under its key. -/
import Derived.Test.YtfmehahjjgalfaaMg
namespace Go.Proofs.Ytfmehahjjgalfaa.Kl
section
variable {κ α : Type} (key : α → κ) (val : α → Value)
/-- the thing of a key -/
def look [DecidableEq κ] (L : List α) (k : κ) : Option α := L.find? fun x => decide (key x = k)
variable {key val}
theorem look_mem [DecidableEq κ] {L : List α} {k : κ} {x : α} (h : look key L k = some x) : x ∈ L ∧ key x = k :=
  ⟨List.mem_of_find?_eq_some h, by simpa using List.find?_some h⟩
theorem look_none [DecidableEq κ] {L : List α} {k : κ} (h : look key L k = none) {x : α} (hx : x ∈ L) : key x ≠ k := by
  unfold look at h
  rw [List.find?_eq_none] at h
  simpa using h x hx
theorem look_no [DecidableEq κ] {L : List α} {k : κ} (h : ∀ x ∈ L, key x ≠ k) : look key L k = none := by
  unfold look
  rw [List.find?_eq_none]
  intro x hx
  simpa using h x hx
theorem inj_on {L : List α} (hn : (L.map key).Nodup) {x y : α} (hx : x ∈ L) (hy : y ∈ L) (h : key x = key y) : x = y := MR.inj_of_nodup hn hx hy h
theorem look_of [DecidableEq κ] {L : List α} (hn : (L.map key).Nodup) {x : α} (hx : x ∈ L) : look key L (key x) = some x := by
  cases h : look key L (key x) with
  | none => exact absurd rfl (look_none h hx)
  | some y =>
    obtain ⟨h1, h2⟩ := look_mem h
    rw [inj_on hn h1 hx h2]
theorem look_some [DecidableEq κ] {L : List α} (hn : (L.map key).Nodup) {x : α} {k : κ} : look key L k = some x ↔ x ∈ L ∧ key x = k :=
  ⟨look_mem, fun ⟨h1, h2⟩ => h2 ▸ look_of hn h1⟩
theorem look_perm [DecidableEq κ] {L M : List α} (hn : (L.map key).Nodup) (h : L.Perm M) (k : κ) : look key L k = look key M k := by
  have hm : (M.map key).Nodup := (h.map key).nodup hn
  cases h1 : look key L k with
  | none => exact (look_no fun x hx => look_none h1 (h.mem_iff.2 hx)).symm
  | some x =>
    obtain ⟨h2, h3⟩ := look_mem h1
    exact ((look_some hm).2 ⟨h.mem_iff.1 h2, h3⟩).symm
theorem nodup_filter {L : List α} (hn : (L.map key).Nodup) (p : α → Bool) : ((L.filter p).map key).Nodup := (List.filter_sublist.map _).nodup hn
theorem look_filter [DecidableEq κ] {L : List α} (hn : (L.map key).Nodup) (p : α → Bool) (k : κ) : look key (L.filter p) k = (look key L k).filter p := by
  cases h : look key L k with
  | none => exact look_no fun x hx => look_none h (List.mem_filter.1 hx).1
  | some x =>
    obtain ⟨h1, h2⟩ := look_mem h
    cases hp : p x with
    | true => rw [Option.filter_some, if_pos hp]; exact (look_some (nodup_filter hn p)).2 ⟨List.mem_filter.2 ⟨h1, hp⟩, h2⟩
    | false =>
      rw [Option.filter_some, if_neg (by rw [hp]; simp)]
      refine look_no fun y hy e => ?_
      obtain ⟨h3, h4⟩ := List.mem_filter.1 hy
      rw [inj_on hn h3 h1 (e.trans h2.symm), hp] at h4
      cases h4
theorem look_append [DecidableEq κ] (L M : List α) (k : κ) : look key (L ++ M) k = (look key L k).or (look key M k) := by
  unfold look; rw [List.find?_append]

/-- the entries are those of the list -/
structure Lay [DecidableEq κ] (key : α → κ) (val : α → Value) (es : List (MR.Ent κ)) (L : List α) : Prop where
  get : ∀ k, MR.get? es k = (look key L k).map val
  nd : (L.map key).Nodup
  ne : (es.map (·.1)).Nodup
  nb : (es.map (·.2.2)).Nodup
def ofE [DecidableEq κ] [Inhabited α] (key : α → κ) (L : List α) (e : MR.Ent κ) : α := (look key L e.1).getD default
theorem Lay.ent [DecidableEq κ] [Inhabited α] {es : List (MR.Ent κ)} {L : List α} (h : Lay key val es L) {e : MR.Ent κ} (he : e ∈ es) : look key L e.1 = some (ofE key L e) ∧ e.2.1 = val (ofE key L e) ∧ key (ofE key L e) = e.1 ∧ ofE key L e ∈ L := by
  have h1 := h.get e.1
  rw [MR.get?_mem h.ne he] at h1
  cases hl : look key L e.1 with
  | none => rw [hl] at h1; cases h1
  | some x =>
    rw [hl] at h1
    obtain ⟨h2, h3⟩ := look_mem hl
    have ho : ofE key L e = x := by unfold ofE; rw [hl]; rfl
    rw [ho]
    exact ⟨rfl, by simpa using h1, h3, h2⟩
theorem Lay.perm [DecidableEq κ] [Inhabited α] {es : List (MR.Ent κ)} {L : List α} (h : Lay key val es L) : (es.map (ofE key L)).Perm L := by
  have hk : (es.map (ofE key L)).map key = es.map (·.1) := by
    rw [List.map_map]
    exact List.map_congr_left fun e he => (h.ent he).2.2.1
  have hnd : (es.map (ofE key L)).Nodup := MR.nodup_of_map (f := key) (by rw [hk]; exact h.ne)
  rw [List.perm_ext_iff_of_nodup hnd (MR.nodup_of_map h.nd)]
  intro x
  rw [List.mem_map]
  constructor
  · rintro ⟨e, he, rfl⟩; exact (h.ent he).2.2.2
  · intro hx
    have h1 := h.get (key x)
    rw [look_of h.nd hx] at h1
    obtain ⟨e, he, h2, -⟩ := MR.mem_of_get? h1
    refine ⟨e, he, inj_on h.nd (h.ent he).2.2.2 hx ?_⟩
    rw [(h.ent he).2.2.1, h2]
theorem Lay.len [DecidableEq κ] [Inhabited α] {es : List (MR.Ent κ)} {L : List α} (h : Lay key val es L) : es.length = L.length := by rw [← h.perm.length_eq, List.length_map]
theorem Lay.nil [DecidableEq κ] : Lay key val [] [] := ⟨fun _ => rfl, List.nodup_nil, List.nodup_nil, List.nodup_nil⟩
theorem Lay.put [DecidableEq κ] {es : List (MR.Ent κ)} {L L' : List α} {x : α} {c : Nat} (h : Lay key val es L) (hL : (L'.map key).Nodup) (hl : ∀ k, look key L' k = if k = key x then some x else look key L k)
    (h1 : ((MR.put es (key x) (val x) c).map (·.1)).Nodup) (h2 : ((MR.put es (key x) (val x) c).map (·.2.2)).Nodup) : Lay key val (MR.put es (key x) (val x) c) L' :=
  ⟨fun k => by rw [MR.get?_put, hl, h.get]; split <;> rfl, hL, h1, h2⟩
theorem Lay.del [DecidableEq κ] {es : List (MR.Ent κ)} {L : List α} (h : Lay key val es L) (k : κ) : Lay key val (MR.del es k) (L.filter fun x => decide (key x ≠ k)) := by
  refine ⟨fun k' => ?_, nodup_filter h.nd _, (List.filter_sublist.map _).nodup h.ne, (List.filter_sublist.map _).nodup h.nb⟩
  rw [MR.get?_del, h.get, look_filter h.nd]
  cases hl : look key L k' with
  | none => simp
  | some x =>
    obtain ⟨-, h2⟩ := look_mem hl
    by_cases hk : k' = k
    · simp [hk, Option.filter_some, h2]
    · simp [hk, Option.filter_some, h2]
theorem Lay.turn [DecidableEq κ] {es : List (MR.Ent κ)} {L M : List α} (h : Lay key val es L) (hp : L.Perm M) : Lay key val es M :=
  ⟨fun k => by rw [h.get, look_perm h.nd hp], (hp.map key).nodup h.nd, h.ne, h.nb⟩

/-- strictly in order by a comparison -/
def Ordered (lt : α → α → Bool) (L : List α) : Prop := L.Pairwise fun a b => lt a b = true
theorem ordered_eq {lt : α → α → Bool} (ha : ∀ a b, lt a b = true → lt b a = false) {L M : List α} (hL : Ordered lt L) (hM : Ordered lt M) (hp : L.Perm M) : L = M :=
  List.Perm.eq_of_pairwise (le := fun a b => lt a b = true) (fun a b _ _ h1 h2 => by rw [ha a b h1] at h2; cases h2) hL hM hp
end
end Go.Proofs.Ytfmehahjjgalfaa.Kl
