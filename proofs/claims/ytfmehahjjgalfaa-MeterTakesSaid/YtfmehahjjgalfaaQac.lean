/- Maps, as lists of entries: look-up, store, delete, length, and the steps of a range. -/
import Derived.Maps.RangeRun
import Derived.Maps.Keyed
import Derived.Maps.Own
import Derived.Test.YtfmehahjjgalfaaQaa
import Derived.Test.YtfmehahjjgalfaaQab
import Derived.OrdersHeld
namespace Go.Proofs.Ytfmehahjjgalfaa.MR
open Go.Maps Go.MapKept
open Go.ChangeMaps (setBlock)

/-- how keys are written in memory -/
structure Enc (P : Program) (K : TypeId) (κ : Type) where
  enc : κ → Value
  ok : κ → Prop
  law : Keyed P K
  reads : ∀ k, ok k → ∃ l, keyOf P K (enc k) = some l
  inj : ∀ a b, enc a = enc b → a = b

abbrev Ent (κ : Type) := κ × Value × Nat
def ents {κ : Type} (enc : κ → Value) (l : List (Ent κ)) : List MapEntry := l.map fun e => ⟨enc e.1, e.2.1, e.2.2⟩

section
variable {P : Program} {K : TypeId} {κ : Type} (N : Enc P K κ)

structure MapAt (w : World) (b : Nat) (l : List (Ent κ)) (clock : Nat) : Prop where
  blk : w.heap[b]? = some (.map (ents N.enc l).toArray clock)
  ok : ∀ e ∈ l, N.ok e.1
  nodup : (l.map (·.1)).Nodup
  born : ∀ e ∈ l, e.2.2 < clock
  bnodup : (l.map (·.2.2)).Nodup

theorem ents_length (enc : κ → Value) (l : List (Ent κ)) : (ents enc l).length = l.length := by simp [ents]

theorem find_cases {w w' : World} {b clock : Nat} {l : List (Ent κ)} (h : MapAt N w b l clock) {x : κ} (hx : N.ok x) :
    ((Instr.findKey K (N.enc x) (ents N.enc l)).run P w' = .ok none w' ∧ x ∉ l.map (·.1)) ∨
    ∃ j v bn, (Instr.findKey K (N.enc x) (ents N.enc l)).run P w' = .ok (some (j, v)) w' ∧ l[j]? = some (x, v, bn) := by
  obtain ⟨lx, hlx⟩ := N.reads x hx
  have hr : ∀ e ∈ ents N.enc l, ∃ l', keyOf P K e.key = some l' := by
    intro e he
    obtain ⟨y, hy, rfl⟩ := List.mem_map.1 he
    exact N.reads _ (h.ok y hy)
  rcases N.law.find w' hlx (ents N.enc l) hr with ⟨h1, h2⟩ | ⟨j, e, h1, h2, h3⟩
  · left
    refine ⟨h1, fun hm => ?_⟩
    obtain ⟨y, hy, rfl⟩ := List.mem_map.1 hm
    exact h2 ⟨N.enc y.1, y.2.1, y.2.2⟩ (List.mem_map.2 ⟨y, hy, rfl⟩) rfl
  · right
    simp only [ents, List.getElem?_map, Option.map_eq_some_iff] at h2
    obtain ⟨⟨yk, yv, yb⟩, hy, rfl⟩ := h2
    obtain rfl : yk = x := N.inj _ _ h3
    exact ⟨j, yv, yb, h1, hy⟩

theorem run_len {w : World} {b clock : Nat} {l : List (Ent κ)} (h : MapAt N w b l clock) {T E : TypeId} (ht : P.underlying T = some (.map K E)) (ty : TypeId) :
    (Builtin.len_ #[T] ty #[.map (some b)]).run P w = .ok (.int .i64 l.length) w := by
  unfold Builtin.len_
  simp [run_underlying ht, Result.andThen, getObj, Sem.run, h.blk, goInt, ents]

theorem MapAt.blk_iff {w w' : World} {b clock : Nat} {l : List (Ent κ)} (h : MapAt N w b l clock) (e : w'.heap[b]? = w.heap[b]?) : MapAt N w' b l clock := ⟨e.trans h.blk, h.ok, h.nodup, h.born, h.bnodup⟩
theorem mapAt_made {w : World} {b : Nat} (h : w.heap[b]? = some (.map #[] 0)) : MapAt N w b [] 0 := ⟨h, by simp, by simp, by simp, by simp⟩
section
variable [DecidableEq κ]
def get? (l : List (Ent κ)) (x : κ) : Option Value := (l.find? (fun e => decide (e.1 = x))).map (·.2.1)
def put (l : List (Ent κ)) (x : κ) (v : Value) (clock : Nat) : List (Ent κ) :=
  if x ∈ l.map (·.1) then l.map (fun e => if e.1 = x then (x, v, e.2.2) else e) else l ++ [(x, v, clock)]
def clock' (l : List (Ent κ)) (x : κ) (clock : Nat) : Nat := if x ∈ l.map (·.1) then clock else clock + 1
def del (l : List (Ent κ)) (x : κ) : List (Ent κ) := l.filter (fun e => decide (e.1 ≠ x))

theorem get?_none {l : List (Ent κ)} {x : κ} (h : x ∉ l.map (·.1)) : get? l x = none := by
  unfold get?
  rw [List.find?_eq_none.2]
  · rfl
  · intro e he
    simp only [decide_eq_true_eq]
    rintro rfl
    exact h (List.mem_map.2 ⟨e, he, rfl⟩)
theorem get?_mem {l : List (Ent κ)} (hn : (l.map (·.1)).Nodup) {e : Ent κ} (he : e ∈ l) : get? l e.1 = some e.2.1 := by
  induction l with
  | nil => cases he
  | cons y r ih =>
    simp only [List.map_cons, List.nodup_cons] at hn
    unfold get?
    rw [List.find?_cons]
    rcases List.mem_cons.1 he with rfl | he'
    · simp
    · have hne : y.1 ≠ e.1 := fun h => hn.1 (List.mem_map.2 ⟨e, he', h.symm⟩)
      simp only [hne, decide_false]
      exact ih hn.2 he'
theorem mem_of_get? {l : List (Ent κ)} {x : κ} {v : Value} (h : get? l x = some v) : ∃ e ∈ l, e.1 = x ∧ e.2.1 = v := by
  unfold get? at h
  simp only [Option.map_eq_some_iff] at h
  obtain ⟨e, he, rfl⟩ := h
  have h1 := List.find?_some he
  exact ⟨e, List.mem_of_find?_eq_some he, by simpa using h1, rfl⟩

theorem get?_put (l : List (Ent κ)) (x y : κ) (v : Value) (c : Nat) : get? (put l x v c) y = if y = x then some v else get? l y := by
  unfold put
  split
  · rename_i hx
    clear c
    induction l with
    | nil => simp at hx
    | cons e r ih =>
      unfold get?
      simp only [List.map_cons, List.find?_cons]
      by_cases he : e.1 = x
      · by_cases hy : y = x
        · subst hy; simp [he]
        · have : ¬ (x = y) := fun h => hy h.symm
          have hey : ¬ (e.1 = y) := by rw [he]; exact this
          simp only [he, if_true, this, decide_false, hy, if_false]
          by_cases hxr : x ∈ r.map (·.1)
          · have := ih hxr
            unfold get? at this
            rw [this, if_neg hy]
          · have : r.map (fun e => if e.1 = x then (x, v, e.2.2) else e) = r := by
              conv => rhs; rw [← List.map_id r]
              refine List.map_congr_left fun e' he' => ?_
              rw [if_neg]
              · rfl
              · rintro rfl; exact hxr (List.mem_map.2 ⟨e', he', rfl⟩)
            rw [this]
      · simp only [he, if_false]
        have hxr : x ∈ r.map (·.1) := by
          simp only [List.map_cons, List.mem_cons] at hx
          rcases hx with h | h
          · exact absurd h.symm he
          · exact h
        have ih' := ih hxr
        unfold get? at ih'
        by_cases hey : e.1 = y
        · have : y ≠ x := by rintro rfl; exact he hey
          simp [hey, this]
        · simp only [hey, decide_false]
          exact ih'
  · rename_i hx
    unfold get?
    rw [List.find?_append]
    by_cases hy : y = x
    · subst hy
      have := get?_none hx
      unfold get? at this
      simp only [Option.map_eq_none_iff] at this
      simp [this]
    · have : ¬ (x = y) := fun h => hy h.symm
      simp [hy, this]

theorem get?_del (l : List (Ent κ)) (x y : κ) : get? (del l x) y = if y = x then none else get? l y := by
  unfold del get?
  rw [List.find?_filter]
  by_cases hy : y = x
  · subst hy
    rw [if_pos rfl, List.find?_eq_none.2]
    · rfl
    · intro e he; simp
  · rw [if_neg hy]
    congr 2
    funext e
    by_cases h : e.1 = y
    · have : ¬ (e.1 = x) := by rw [h]; exact hy
      simp [h, hy]
    · simp [h]

theorem run_lookup {w : World} {b clock : Nat} {l : List (Ent κ)} (h : MapAt N w b l clock) {x : κ} (hx : N.ok x) {T E : TypeId} (ht : P.underlying T = some (.map K E)) {z : Value} (hz : ∀ w, (zeroValue E).run P w = .ok z w) (ok : Bool) :
    (Instr.lookup T (.map (some b)) (N.enc x) ok).run P w = .ok (if ok then .tuple #[(get? l x).getD z, .bool (get? l x).isSome] else (get? l x).getD z) w := by
  obtain ⟨lx, hlx⟩ := N.reads x hx
  unfold Instr.lookup
  simp only [Sem.run_bind, run_underlying ht, Result.andThen, getObj, Sem.run, h.blk, N.law.check w _ hlx, Sem.run_pure]
  rcases find_cases N h (w' := w) hx with ⟨h1, h2⟩ | ⟨j, v, bn, h1, h2⟩
  · simp only [h1, Sem.run_bind, Result.andThen, hz, Sem.run_pure, get?_none h2]
    cases ok <;> rfl
  · have hm : (x, v, bn) ∈ l := List.mem_of_getElem? h2
    have := get?_mem h.nodup hm
    simp only [h1, this]
    cases ok <;> rfl

theorem setBlock_heap (w : World) (b : Nat) (o : Obj) (hb : b < w.heap.size) : (setBlock w b o).heap[b]? = some o := by
  simp [setBlock, hb]

theorem ents_put_old (enc : κ → Value) (_inj : ∀ a b, enc a = enc b → a = b) {l : List (Ent κ)} (hn : (l.map (·.1)).Nodup) {j : Nat} {x : κ} {u v : Value} {bn : Nat} (hj : l[j]? = some (x, u, bn)) :
    (ents enc l).toArray.modify j (fun e => { e with key := enc x, val := v }) = (ents enc (l.map fun e => if e.1 = x then (x, v, e.2.2) else e)).toArray := by
  apply Array.ext_getElem?
  intro i
  simp only [Array.getElem?_modify, List.getElem?_toArray, ents, List.getElem?_map]
  by_cases hij : j = i
  · subst hij
    simp [hj]
  · rw [if_neg hij]
    cases hi : l[i]? with
    | none => rfl
    | some e =>
      have hne : ¬ (e.1 = x) := by
        rintro rfl
        have hi' := List.getElem?_eq_some_iff.1 hi
        have hj' := List.getElem?_eq_some_iff.1 hj
        obtain ⟨a1, a2⟩ := hi'
        obtain ⟨b1, b2⟩ := hj'
        have h1 : (l.map (·.1))[i]'(by simpa using a1) = (l.map (·.1))[j]'(by simpa using b1) := by simp [a2, b2]
        exact hij ((List.getElem_inj hn).1 h1.symm)
      simp [hne]

theorem mapAt_put {w' : World} {b clock : Nat} {l : List (Ent κ)} {w : World} (h : MapAt N w b l clock) {x : κ} (hx : N.ok x) (v : Value) (hw : w'.heap[b]? = some (.map (ents N.enc (put l x v clock)).toArray (clock' l x clock))) : MapAt N w' b (put l x v clock) (clock' l x clock) := by
  refine ⟨hw, ?_, ?_, ?_, ?_⟩
  all_goals unfold put
  all_goals try unfold clock'
  all_goals split
  · intro e he
    obtain ⟨y, hy, rfl⟩ := List.mem_map.1 he
    split
    · exact hx
    · exact h.ok y hy
  · intro e he
    rcases List.mem_append.1 he with he | he
    · exact h.ok e he
    · simp at he; subst he; exact hx
  · have : (l.map fun e => if e.1 = x then (x, v, e.2.2) else e).map (·.1) = l.map (·.1) := by
      rw [List.map_map]
      refine List.map_congr_left fun e _ => ?_
      simp only [Function.comp]
      split
      · rename_i h'; exact h'.symm
      · rfl
    rw [this]; exact h.nodup
  · rename_i hni
    rw [List.map_append, List.nodup_append]
    refine ⟨h.nodup, by simp, ?_⟩
    intro a ha c hc
    simp at hc
    subst hc
    rintro rfl
    exact hni ha
  · intro e he
    obtain ⟨y, hy, rfl⟩ := List.mem_map.1 he
    have := h.born y hy
    split <;> exact this
  · intro e he
    rcases List.mem_append.1 he with he | he
    · have := h.born e he; omega
    · simp at he; subst he; simp
  · have : (l.map fun e => if e.1 = x then (x, v, e.2.2) else e).map (·.2.2) = l.map (·.2.2) := by
      rw [List.map_map]
      refine List.map_congr_left fun e _ => ?_
      simp only [Function.comp]
      split <;> rfl
    rw [this]; exact h.bnodup
  · rw [List.map_append, List.nodup_append]
    refine ⟨h.bnodup, by simp, ?_⟩
    intro a ha c hc
    simp at hc
    subst hc
    obtain ⟨y, hy, rfl⟩ := List.mem_map.1 ha
    have := h.born y hy
    omega

theorem run_update {w : World} {b clock : Nat} {l : List (Ent κ)} (h : MapAt N w b l clock) {x : κ} (hx : N.ok x) {T E : TypeId} (ht : P.underlying T = some (.map K E)) (v : Value) :
    (Instr.mapUpdate T (.map (some b)) (N.enc x) v).run P w = .ok () (setBlock w b (.map (ents N.enc (put l x v clock)).toArray (clock' l x clock))) ∧
    MapAt N (setBlock w b (.map (ents N.enc (put l x v clock)).toArray (clock' l x clock))) b (put l x v clock) (clock' l x clock) := by
  have hlt : b < w.heap.size := by
    rcases Nat.lt_or_ge b w.heap.size with h' | h'
    · exact h'
    · have := h.blk; rw [Array.getElem?_eq_none h'] at this; cases this
  refine ⟨?_, mapAt_put N h hx v (setBlock_heap _ _ _ hlt)⟩
  obtain ⟨lx, hlx⟩ := N.reads x hx
  unfold Instr.mapUpdate
  simp only [Sem.run_bind, run_underlying ht, Result.andThen, getObj, Sem.run, h.blk, N.law.check w _ hlx]
  have hset : ∀ o : Obj, (setObj b o).run P w = .ok () (setBlock w b o) := by
    intro o; simp [setObj, Sem.run, h.blk, setBlock]
  rcases find_cases N h (w' := w) hx with ⟨h1, h2⟩ | ⟨j, u, bn, h1, h2⟩
  · simp only [h1, hset]
    unfold put clock'
    rw [if_neg h2, if_neg h2]
    simp [ents]
  · have hm : x ∈ l.map (·.1) := List.mem_map.2 ⟨_, List.mem_of_getElem? h2, rfl⟩
    have hk : ((((ents N.enc l).toArray[j]?).map (·.key)).getD (N.enc x)) = N.enc x := by simp [ents, h2]
    simp only [h1, Sem.run_bind, hk, N.law.stays w hlx, Result.andThen, hset]
    unfold put clock'
    rw [if_pos hm, if_pos hm, ents_put_old N.enc N.inj h.nodup h2]

theorem ents_del (_enc : κ → Value) {l : List (Ent κ)} (hn : (l.map (·.1)).Nodup) {j : Nat} {x : κ} {u : Value} {bn : Nat} (hj : l[j]? = some (x, u, bn)) :
    l.eraseIdx j = del l x := by
  induction l generalizing j with
  | nil => simp at hj
  | cons y r ih =>
    simp only [List.map_cons, List.nodup_cons] at hn
    cases j with
    | zero =>
      simp at hj
      subst hj
      simp only [List.eraseIdx_zero, List.tail_cons, del, List.filter_cons]
      simp only [ne_eq, not_true_eq_false, decide_false, Bool.false_eq_true, if_false]
      symm
      rw [List.filter_eq_self]
      intro e he
      simp only [decide_eq_true_eq]
      rintro rfl
      exact hn.1 (List.mem_map.2 ⟨e, he, rfl⟩)
    | succ j =>
      simp at hj
      have hne : y.1 ≠ x := by
        rintro rfl
        exact hn.1 (List.mem_map.2 ⟨_, List.mem_of_getElem? hj, rfl⟩)
      simp only [List.eraseIdx_cons_succ, del, List.filter_cons]
      simp only [ne_eq, hne, not_false_eq_true, decide_true, if_true]
      rw [ih hn.2 hj]
      rfl

theorem mapAt_del {w w' : World} {b clock : Nat} {l : List (Ent κ)} (h : MapAt N w b l clock) (x : κ) (hw : w'.heap[b]? = some (.map (ents N.enc (del l x)).toArray clock)) : MapAt N w' b (del l x) clock :=
  ⟨hw, fun e he => h.ok e (List.mem_filter.1 he).1, (List.filter_sublist.map _).nodup h.nodup, fun e he => h.born e (List.mem_filter.1 he).1, (List.filter_sublist.map _).nodup h.bnodup⟩

theorem del_none {l : List (Ent κ)} {x : κ} (h : x ∉ l.map (·.1)) : del l x = l := by
  unfold del
  rw [List.filter_eq_self]
  intro e he
  simp only [decide_eq_true_eq]
  rintro rfl
  exact h (List.mem_map.2 ⟨e, he, rfl⟩)

theorem run_delete {w : World} {b clock : Nat} {l : List (Ent κ)} (h : MapAt N w b l clock) {x : κ} (hx : N.ok x) {T E K' : TypeId} (ht : P.underlying T = some (.map K E)) (ty : TypeId) :
    (Builtin.delete_ #[T, K'] ty #[.map (some b), N.enc x]).run P w = .ok (.tuple #[]) (setBlock w b (.map (ents N.enc (del l x)).toArray clock)) ∧
    MapAt N (setBlock w b (.map (ents N.enc (del l x)).toArray clock)) b (del l x) clock := by
  have hlt : b < w.heap.size := by
    rcases Nat.lt_or_ge b w.heap.size with h' | h'
    · exact h'
    · have := h.blk; rw [Array.getElem?_eq_none h'] at this; cases this
  refine ⟨?_, mapAt_del N h x (setBlock_heap _ _ _ hlt)⟩
  obtain ⟨lx, hlx⟩ := N.reads x hx
  have hset : ∀ o : Obj, (setObj b o).run P w = .ok () (setBlock w b o) := by
    intro o; simp [setObj, Sem.run, h.blk, setBlock]
  unfold Builtin.delete_
  simp only [Sem.run_bind, run_underlying ht, Result.andThen, getObj, Sem.run, h.blk, N.law.check w _ hlx, List.getElem?_toArray, List.getElem?_cons_zero, List.getElem?_cons_succ]
  rcases find_cases N h (w' := w) hx with ⟨h1, h2⟩ | ⟨j, u, bn, h1, h2⟩
  · simp only [h1, Sem.run_bind, Result.andThen, hset, del_none h2, Sem.run_pure]
  · have := ents_del N.enc h.nodup h2
    simp only [h1, Sem.run_bind, Result.andThen, hset, Sem.run_pure]
    rw [show (ents N.enc l).toArray.eraseIdxIfInBounds j = (ents N.enc (del l x)).toArray by
      rw [← this]; simp [ents, ChangeMaps.map_eraseIdx]]

end
end
end Go.Proofs.Ytfmehahjjgalfaa.MR
/- A range over a map that does not turn: which entries have come, in whatever order. -/
namespace Go.Proofs.Ytfmehahjjgalfaa.MR
open Go.Maps Go.MapKept
open Go.ChangeMaps (setBlock)

section
variable {P : Program} {K : TypeId} {κ : Type} (N : Enc P K κ)
/-- these have come, in this order -/
structure Ran (l : List (Ent κ)) (seen : Array Nat) (done : List (Ent κ)) : Prop where
  seen : seen.toList = done.map (·.2.2)
  sub : ∀ e ∈ done, e ∈ l
  nodup : (done.map (·.2.2)).Nodup
theorem Ran.none (l : List (Ent κ)) : Ran l #[] [] := ⟨rfl, fun e he => (by cases he), by simp⟩
theorem Ran.more {l : List (Ent κ)} {seen : Array Nat} {done : List (Ent κ)} (h : Ran l seen done) {e : Ent κ} (he : e ∈ l) (hn : e.2.2 ∉ seen) : Ran l (seen.push e.2.2) (done ++ [e]) := by
  refine ⟨by simp [h.seen], fun x hx => ?_, ?_⟩
  · rcases List.mem_append.1 hx with hx | hx
    · exact h.sub x hx
    · simp at hx; subst hx; exact he
  · rw [List.map_append, List.nodup_append]
    refine ⟨h.nodup, by simp, fun a ha b hb => ?_⟩
    simp at hb
    subst hb
    rintro rfl
    rw [← h.seen] at ha
    exact hn (by simpa using ha)
theorem inj_of_nodup {α β : Type} {f : α → β} {l : List α} (h : (l.map f).Nodup) {a b : α} (ha : a ∈ l) (hb : b ∈ l) (e : f a = f b) : a = b := by
  induction l with
  | nil => cases ha
  | cons x r ih =>
    simp only [List.map_cons, List.nodup_cons] at h
    rcases List.mem_cons.1 ha with rfl | ha'
    · rcases List.mem_cons.1 hb with rfl | hb'
      · rfl
      · exact absurd (List.mem_map.2 ⟨b, hb', e.symm⟩) h.1
    · rcases List.mem_cons.1 hb with rfl | hb'
      · exact absurd (List.mem_map.2 ⟨a, ha', e⟩) h.1
      · exact ih h.2 ha' hb'
theorem nodup_of_map {α β : Type} {f : α → β} {l : List α} (h : (l.map f).Nodup) : l.Nodup := by
  induction l with
  | nil => exact List.nodup_nil
  | cons x r ih =>
    simp only [List.map_cons, List.nodup_cons] at h
    exact List.nodup_cons.2 ⟨fun hx => h.1 (List.mem_map.2 ⟨x, hx, rfl⟩), ih h.2⟩
theorem Ran.all {l : List (Ent κ)} {seen : Array Nat} {done : List (Ent κ)} (h : Ran l seen done) (hb : (l.map (·.2.2)).Nodup) (ha : ∀ e ∈ l, e.2.2 ∈ seen) : done.Perm l := by
  rw [List.perm_ext_iff_of_nodup (nodup_of_map h.nodup) (nodup_of_map hb)]
  intro e
  refine ⟨h.sub e, fun he => ?_⟩
  have h1 := ha e he
  rw [← Array.mem_toList_iff, h.seen] at h1
  obtain ⟨x, hx, hxe⟩ := List.mem_map.1 h1
  rw [← inj_of_nodup hb (h.sub x hx) he hxe]
  exact hx
theorem run_range {w : World} {b clock : Nat} {l : List (Ent κ)} (h : MapAt N w b l clock) {T E : TypeId} (ht : P.underlying T = some (.map K E)) : (Instr.range T (.map (some b))).run P w = .ok (.pointer (some ⟨w.heap.size, 0, none⟩)) (w.alloc (.mapIter (some b) clock #[] clock)) :=
  run_range_map w T K E b _ clock ht h.blk
theorem next_step {w : World} {b clock r : Nat} {l : List (Ent κ)} {seen : Array Nat} (h : MapAt N w b l clock) (hr : w.heap[r]? = some (.mapIter (some b) clock seen clock)) (ty : TypeId) :
    ((∀ e ∈ l, e.2.2 ∈ seen) ∧ (Instr.next (.pointer (some ⟨r, 0, none⟩)) false ty).run P w = .ok (.tuple #[.bool false]) w) ∨
    ∃ e ∈ l, e.2.2 ∉ seen ∧ ∃ w1, (Instr.next (.pointer (some ⟨r, 0, none⟩)) false ty).run P w = .ok (.tuple #[.bool true, N.enc e.1, e.2.1]) w1 ∧ SetB w w1 r (.mapIter (some b) clock (seen.push e.2.2) clock) := by
  have hold : ∀ x ∈ (ents N.enc l).toArray.toList, x.born < clock := by
    intro x hx
    obtain ⟨e, he, rfl⟩ := List.mem_map.1 (by simpa using hx : x ∈ ents N.enc l)
    exact h.born e he
  rcases run_next_at (P := P) w ty r b clock clock seen _ clock hr h.blk hold (Nat.le_refl _) with ⟨h1, h2⟩ | ⟨x, hx, w1, hw, h2⟩
  · left
    refine ⟨fun e he => ?_, h2⟩
    have : leftOf (ents N.enc l).toArray seen = #[] := Array.eq_empty_of_size_eq_zero h1
    unfold leftOf at this
    rw [Array.filter_eq_empty_iff] at this
    have h3 := this ⟨N.enc e.1, e.2.1, e.2.2⟩ (by simp [ents]; exact ⟨_, _, _, he, rfl, rfl, rfl⟩)
    simpa using h3
  · right
    unfold leftOf at hx
    simp only [Array.toList_filter, List.mem_filter, Bool.not_eq_true'] at hx
    obtain ⟨hm, hs⟩ := hx
    obtain ⟨e, he, rfl⟩ := List.mem_map.1 (by simpa using hm : x ∈ ents N.enc l)
    refine ⟨e, he, by simpa using hs, _, h2, ?_⟩
    rcases hw with rfl | rfl <;> exact ⟨rfl, rfl, rfl, rfl⟩
theorem run_entry {w : World} {b clock r : Nat} {l : List (Ent κ)} {seen : Array Nat} (h : MapAt N w b l clock) {e : Ent κ} (he : e ∈ l) (hr : w.heap[r]? = some (.mapIter (some b) clock (seen.push e.2.2) clock)) : (Instr.entry (.pointer (some ⟨r, 0, none⟩))).run P w = .ok (.tuple #[N.enc e.1, e.2.1]) w := by
  refine run_entry_at (P := P) w r b clock seen _ clock ⟨N.enc e.1, e.2.1, e.2.2⟩ hr h.blk (by simp [ents]; exact ⟨_, _, _, he, rfl, rfl, rfl⟩) ?_
  have : ((ents N.enc l).toArray.toList.map (·.born)) = l.map (·.2.2) := by simp [ents]
  rw [this]
  exact h.bnodup
end
end Go.Proofs.Ytfmehahjjgalfaa.MR
/- A map whose entries are a list of things, each under its key. -/
namespace Go.Proofs.Ytfmehahjjgalfaa.Kl
section
variable {κ α : Type} (key : α → κ) (val : α → Value)
/-- the thing of a key -/
def look [DecidableEq κ] (L : List α) (k : κ) : Option α := L.find? fun x => decide (key x = k)
variable {key val}
theorem look_mem [DecidableEq κ] {L : List α} {k : κ} {x : α} (h : look key L k = some x) : x ∈ L ∧ key x = k :=
  ⟨List.mem_of_find?_eq_some h, by simpa using List.find?_some h⟩
theorem look_none [DecidableEq κ] {L : List α} {k : κ} (h : look key L k = none) {x : α} (hx : x ∈ L) : key x ≠ k := by
  unfold look at h
  rw [List.find?_eq_none] at h
  simpa using h x hx
theorem look_no [DecidableEq κ] {L : List α} {k : κ} (h : ∀ x ∈ L, key x ≠ k) : look key L k = none := by
  unfold look
  rw [List.find?_eq_none]
  intro x hx
  simpa using h x hx
theorem inj_on {L : List α} (hn : (L.map key).Nodup) {x y : α} (hx : x ∈ L) (hy : y ∈ L) (h : key x = key y) : x = y := MR.inj_of_nodup hn hx hy h
theorem look_of [DecidableEq κ] {L : List α} (hn : (L.map key).Nodup) {x : α} (hx : x ∈ L) : look key L (key x) = some x := by
  cases h : look key L (key x) with
  | none => exact absurd rfl (look_none h hx)
  | some y =>
    obtain ⟨h1, h2⟩ := look_mem h
    rw [inj_on hn h1 hx h2]
theorem look_some [DecidableEq κ] {L : List α} (hn : (L.map key).Nodup) {x : α} {k : κ} : look key L k = some x ↔ x ∈ L ∧ key x = k :=
  ⟨look_mem, fun ⟨h1, h2⟩ => h2 ▸ look_of hn h1⟩
theorem look_perm [DecidableEq κ] {L M : List α} (hn : (L.map key).Nodup) (h : L.Perm M) (k : κ) : look key L k = look key M k := by
  have hm : (M.map key).Nodup := (h.map key).nodup hn
  cases h1 : look key L k with
  | none => exact (look_no fun x hx => look_none h1 (h.mem_iff.2 hx)).symm
  | some x =>
    obtain ⟨h2, h3⟩ := look_mem h1
    exact ((look_some hm).2 ⟨h.mem_iff.1 h2, h3⟩).symm
theorem nodup_filter {L : List α} (hn : (L.map key).Nodup) (p : α → Bool) : ((L.filter p).map key).Nodup := (List.filter_sublist.map _).nodup hn
theorem look_filter [DecidableEq κ] {L : List α} (hn : (L.map key).Nodup) (p : α → Bool) (k : κ) : look key (L.filter p) k = (look key L k).filter p := by
  cases h : look key L k with
  | none => exact look_no fun x hx => look_none h (List.mem_filter.1 hx).1
  | some x =>
    obtain ⟨h1, h2⟩ := look_mem h
    cases hp : p x with
    | true => rw [Option.filter_some, if_pos hp]; exact (look_some (nodup_filter hn p)).2 ⟨List.mem_filter.2 ⟨h1, hp⟩, h2⟩
    | false =>
      rw [Option.filter_some, if_neg (by rw [hp]; simp)]
      refine look_no fun y hy e => ?_
      obtain ⟨h3, h4⟩ := List.mem_filter.1 hy
      rw [inj_on hn h3 h1 (e.trans h2.symm), hp] at h4
      cases h4
theorem look_append [DecidableEq κ] (L M : List α) (k : κ) : look key (L ++ M) k = (look key L k).or (look key M k) := by
  unfold look; rw [List.find?_append]

/-- the entries are those of the list -/
structure Lay [DecidableEq κ] (key : α → κ) (val : α → Value) (es : List (MR.Ent κ)) (L : List α) : Prop where
  get : ∀ k, MR.get? es k = (look key L k).map val
  nd : (L.map key).Nodup
  ne : (es.map (·.1)).Nodup
  nb : (es.map (·.2.2)).Nodup
def ofE [DecidableEq κ] [Inhabited α] (key : α → κ) (L : List α) (e : MR.Ent κ) : α := (look key L e.1).getD default
theorem Lay.ent [DecidableEq κ] [Inhabited α] {es : List (MR.Ent κ)} {L : List α} (h : Lay key val es L) {e : MR.Ent κ} (he : e ∈ es) : look key L e.1 = some (ofE key L e) ∧ e.2.1 = val (ofE key L e) ∧ key (ofE key L e) = e.1 ∧ ofE key L e ∈ L := by
  have h1 := h.get e.1
  rw [MR.get?_mem h.ne he] at h1
  cases hl : look key L e.1 with
  | none => rw [hl] at h1; cases h1
  | some x =>
    rw [hl] at h1
    obtain ⟨h2, h3⟩ := look_mem hl
    have ho : ofE key L e = x := by unfold ofE; rw [hl]; rfl
    rw [ho]
    exact ⟨rfl, by simpa using h1, h3, h2⟩
theorem Lay.perm [DecidableEq κ] [Inhabited α] {es : List (MR.Ent κ)} {L : List α} (h : Lay key val es L) : (es.map (ofE key L)).Perm L := by
  have hk : (es.map (ofE key L)).map key = es.map (·.1) := by
    rw [List.map_map]
    exact List.map_congr_left fun e he => (h.ent he).2.2.1
  have hnd : (es.map (ofE key L)).Nodup := MR.nodup_of_map (f := key) (by rw [hk]; exact h.ne)
  rw [List.perm_ext_iff_of_nodup hnd (MR.nodup_of_map h.nd)]
  intro x
  rw [List.mem_map]
  constructor
  · rintro ⟨e, he, rfl⟩; exact (h.ent he).2.2.2
  · intro hx
    have h1 := h.get (key x)
    rw [look_of h.nd hx] at h1
    obtain ⟨e, he, h2, -⟩ := MR.mem_of_get? h1
    refine ⟨e, he, inj_on h.nd (h.ent he).2.2.2 hx ?_⟩
    rw [(h.ent he).2.2.1, h2]
theorem Lay.len [DecidableEq κ] [Inhabited α] {es : List (MR.Ent κ)} {L : List α} (h : Lay key val es L) : es.length = L.length := by rw [← h.perm.length_eq, List.length_map]
theorem Lay.nil [DecidableEq κ] : Lay key val [] [] := ⟨fun _ => rfl, List.nodup_nil, List.nodup_nil, List.nodup_nil⟩
theorem Lay.put [DecidableEq κ] {es : List (MR.Ent κ)} {L L' : List α} {x : α} {c : Nat} (h : Lay key val es L) (hL : (L'.map key).Nodup) (hl : ∀ k, look key L' k = if k = key x then some x else look key L k)
    (h1 : ((MR.put es (key x) (val x) c).map (·.1)).Nodup) (h2 : ((MR.put es (key x) (val x) c).map (·.2.2)).Nodup) : Lay key val (MR.put es (key x) (val x) c) L' :=
  ⟨fun k => by rw [MR.get?_put, hl, h.get]; split <;> rfl, hL, h1, h2⟩
theorem Lay.del [DecidableEq κ] {es : List (MR.Ent κ)} {L : List α} (h : Lay key val es L) (k : κ) : Lay key val (MR.del es k) (L.filter fun x => decide (key x ≠ k)) := by
  refine ⟨fun k' => ?_, nodup_filter h.nd _, (List.filter_sublist.map _).nodup h.ne, (List.filter_sublist.map _).nodup h.nb⟩
  rw [MR.get?_del, h.get, look_filter h.nd]
  cases hl : look key L k' with
  | none => simp
  | some x =>
    obtain ⟨-, h2⟩ := look_mem hl
    by_cases hk : k' = k
    · simp [hk, Option.filter_some, h2]
    · simp [hk, Option.filter_some, h2]
theorem Lay.turn [DecidableEq κ] {es : List (MR.Ent κ)} {L M : List α} (h : Lay key val es L) (hp : L.Perm M) : Lay key val es M :=
  ⟨fun k => by rw [h.get, look_perm h.nd hp], (hp.map key).nodup h.nd, h.ne, h.nb⟩

/-- strictly in order by a comparison -/
def Ordered (lt : α → α → Bool) (L : List α) : Prop := L.Pairwise fun a b => lt a b = true
theorem ordered_eq {lt : α → α → Bool} (ha : ∀ a b, lt a b = true → lt b a = false) {L M : List α} (hL : Ordered lt L) (hM : Ordered lt M) (hp : L.Perm M) : L = M :=
  List.Perm.eq_of_pairwise (le := fun a b => lt a b = true) (fun a b _ _ h1 h2 => by rw [ha a b h1] at h2; cases h2) hL hM hp
end
end Go.Proofs.Ytfmehahjjgalfaa.Kl
/- Small facts on lists; a class of worlds behind a name. -/
namespace Go.Proofs.Ytfmehahjjgalfaa
open Go.RowKit
theorem getD_mem {α : Type} [Inhabited α] {M : List α} {i : Nat} (h : i < M.length) : M.getD i default ∈ M := by
  rw [List.getD_eq_getElem?_getD, List.getElem?_eq_getElem h]; exact List.getElem_mem _
def ExtS (w w' : World) : Prop := Below w.heap.size w w'
end Go.Proofs.Ytfmehahjjgalfaa
/- Detours in order of their prefixes: the plain law. -/
namespace Go.Proofs.Ytfmehahjjgalfaa
open Go.RowKit

structure Ov where
  r : Int
  ad : Nat
  ln : Int
  id : Int
  till : Int
deriving Inhabited, DecidableEq
def Ov.v (o : Ov) : Value := .agg #[.int .i64 o.r, .int .u32 (o.ad : Int), .int .i64 o.ln, .int .i64 o.id, .int .i64 o.till]
def ROv : Rep Ov := ⟨62, 5, by decide, fun o => [.int .i64 o.r, .int .u32 (o.ad : Int), .int .i64 o.ln, .int .i64 o.id, .int .i64 o.till], fun _ => rfl, fun _ => rfl⟩
def ovZ : Ov := ⟨0, 0, 0, 0, 0⟩
abbrev PK := Nat × Int
def Ov.key (o : Ov) : PK := (o.ad, o.ln)
def cmpK (a b : PK) : Int := cmpP a.1 a.2 b.1 b.2
def ltK (a b : PK) : Bool := decide (cmpK a b = -1)
def ltO (a b : Ov) : Bool := ltK a.key b.key
theorem ltK_iff {a b : PK} : ltK a b = true ↔ a.1 < b.1 ∨ (a.1 = b.1 ∧ a.2 < b.2) := by
  unfold ltK cmpK cmpP
  rw [decide_eq_true_eq]
  split
  · simp_all
  · split <;> simp_all
theorem ltK_asymm (a b : PK) (h : ltK a b = true) : ltK b a = false := by
  rw [Bool.eq_false_iff]
  intro h2
  rw [ltK_iff] at h h2
  omega
theorem ltK_trans {a b c : PK} (h : ltK a b = true) (h2 : ltK b c = true) : ltK a c = true := by
  rw [ltK_iff] at *
  omega
theorem ltK_irr (a : PK) : ltK a a = false := by
  rw [Bool.eq_false_iff]; intro h; rw [ltK_iff] at h; omega
theorem key_eq {a b : PK} (h1 : a.1 = b.1) (h2 : a.2 = b.2) : a = b := Prod.ext h1 h2
theorem ltK_total (a b : PK) : ltK a b = true ∨ a = b ∨ ltK b a = true := by
  rw [ltK_iff, ltK_iff]
  by_cases h : a = b
  · exact .inr (.inl h)
  · have : ¬ (a.1 = b.1 ∧ a.2 = b.2) := fun h' => h (key_eq h'.1 h'.2)
    omega
theorem ltO_asymm (a b : Ov) (h : ltO a b = true) : ltO b a = false := ltK_asymm _ _ h
theorem ltO_trans {a b c : Ov} (h : ltO a b = true) (h2 : ltO b c = true) : ltO a c = true := ltK_trans h h2
theorem cmpK_lt {a b : PK} : cmpK a b < 0 ↔ ltK a b = true := by
  unfold ltK cmpK cmpP
  rw [decide_eq_true_eq]
  split
  · simp
  · split <;> simp
theorem cmpK_ge {a b : PK} : 0 ≤ cmpK a b ↔ ltK a b = false := by
  have := @cmpK_lt a b
  cases h : ltK a b with
  | true => have := this.2 h; simp; omega
  | false => rw [h] at this; simp at this; simp; omega
abbrev Ord (L : List Ov) : Prop := Kl.Ordered ltO L
theorem Ord.keys {L : List Ov} (h : Ord L) : (L.map Ov.key).Nodup := by
  rw [List.Nodup, List.pairwise_map]
  exact h.imp fun {a b} hab e => by
    unfold ltO at hab
    rw [e, ltK_irr] at hab
    cases hab
theorem Ord.filter {L : List Ov} (h : Ord L) (p : Ov → Bool) : Ord (L.filter p) := h.sublist List.filter_sublist
theorem Ord.nil : Ord [] := List.Pairwise.nil
/-- behind a one is set -/
def setO (L : List Ov) (o : Ov) : List Ov := L.filter (fun x => ltO x o) ++ o :: L.filter (fun x => ltO o x)
theorem Ord.set {L : List Ov} (h : Ord L) (o : Ov) : Ord (setO L o) := by
  unfold setO Ord Kl.Ordered
  rw [List.pairwise_append]
  refine ⟨h.filter _, List.pairwise_cons.2 ⟨fun x hx => (List.mem_filter.1 hx).2, h.filter _⟩, fun a ha b hb => ?_⟩
  have h1 := (List.mem_filter.1 ha).2
  rcases List.mem_cons.1 hb with rfl | hb
  · exact h1
  · exact ltO_trans h1 (List.mem_filter.1 hb).2
theorem mem_set {L : List Ov} {o x : Ov} : x ∈ setO L o ↔ x = o ∨ (x ∈ L ∧ x.key ≠ o.key) := by
  unfold setO
  simp only [List.mem_append, List.mem_cons, List.mem_filter]
  constructor
  · rintro (⟨h1, h2⟩ | rfl | ⟨h1, h2⟩)
    · exact .inr ⟨h1, fun e => by unfold ltO at h2; rw [e, ltK_irr] at h2; cases h2⟩
    · exact .inl rfl
    · exact .inr ⟨h1, fun e => by unfold ltO at h2; rw [e, ltK_irr] at h2; cases h2⟩
  · rintro (rfl | ⟨h1, h2⟩)
    · exact .inr (.inl rfl)
    · rcases ltK_total x.key o.key with h | h | h
      · exact .inl ⟨h1, h⟩
      · exact absurd h h2
      · exact .inr (.inr ⟨h1, h⟩)
theorem look_set {L : List Ov} (h : Ord L) (o : Ov) (k : PK) : Kl.look Ov.key (setO L o) k = if k = o.key then some o else Kl.look Ov.key L k := by
  have hn := (h.set o).keys
  split
  · rename_i e; exact (Kl.look_some hn).2 ⟨mem_set.2 (.inl rfl), e.symm⟩
  · rename_i e
    cases hl : Kl.look Ov.key L k with
    | none =>
      refine Kl.look_no fun x hx => ?_
      rcases mem_set.1 hx with rfl | ⟨h1, -⟩
      · exact Ne.symm e
      · exact Kl.look_none hl h1
    | some y =>
      obtain ⟨h1, h2⟩ := Kl.look_mem hl
      exact (Kl.look_some hn).2 ⟨mem_set.2 (.inr ⟨h1, by rw [h2]; exact e⟩), h2⟩
/-- where a prefix stands, or would -/
def idxO (L : List Ov) (k : PK) : Nat := (L.takeWhile fun x => ltK x.key k).length
def hasO (L : List Ov) (k : PK) : Bool := (Kl.look Ov.key L k).isSome
theorem idx_le (L : List Ov) (k : PK) : idxO L k ≤ L.length := by
  unfold idxO; exact (List.takeWhile_sublist _).length_le
theorem idx_cons (x : Ov) (L : List Ov) (k : PK) : idxO (x :: L) k = if ltK x.key k then idxO L k + 1 else 0 := by
  unfold idxO
  rw [List.takeWhile_cons]
  split <;> rfl
theorem filter_none {L : List Ov} {x : Ov} {k : PK} (h : ∀ y ∈ L, ltO x y = true) (hk : ltK x.key k = false) : L.filter (fun y => ltK y.key k) = [] := by
  rw [List.filter_eq_nil_iff]
  intro y hy hlt
  have := ltK_trans (h y hy) hlt
  rw [hk] at this; cases this
theorem take_idx : ∀ {L : List Ov}, Ord L → ∀ k, L.take (idxO L k) = L.filter (fun x => ltK x.key k)
  | [], _, _ => rfl
  | x :: L, h, k => by
    replace h := List.pairwise_cons.1 h
    rw [idx_cons]
    cases hx : ltK x.key k with
    | true => rw [if_pos rfl, List.take_succ_cons, take_idx h.2 k, List.filter_cons, if_pos hx]
    | false => rw [if_neg (by simp), List.take_zero, List.filter_cons, if_neg (by rw [hx]; simp), filter_none h.1 hx]
theorem drop_idx : ∀ {L : List Ov}, Ord L → ∀ k, L.drop (idxO L k) = L.filter (fun x => !ltK x.key k)
  | [], _, _ => rfl
  | x :: L, h, k => by
    replace h := List.pairwise_cons.1 h
    rw [idx_cons]
    cases hx : ltK x.key k with
    | true => rw [if_pos rfl, List.drop_succ_cons, drop_idx h.2 k, List.filter_cons, if_neg (by rw [hx]; simp)]
    | false =>
      rw [if_neg (by simp), List.drop_zero, List.filter_cons, if_pos (by rw [hx]; rfl)]
      congr 1
      symm
      rw [List.filter_eq_self]
      intro y hy
      cases hy2 : ltK y.key k with
      | false => rfl
      | true =>
        have := ltK_trans (h.1 y hy) hy2
        rw [hx] at this; cases this
/-- the one at the place, if there is one of the prefix -/
theorem at_idx {L : List Ov} (h : Ord L) (k : PK) : (idxO L k < L.length ∧ (L.getD (idxO L k) default).key = k ∧ Kl.look Ov.key L k = some (L.getD (idxO L k) default) ∧ L.drop (idxO L k + 1) = L.filter (fun x => ltK k x.key)) ∨
    ((∀ _hi : idxO L k < L.length, (L.getD (idxO L k) default).key ≠ k) ∧ Kl.look Ov.key L k = none ∧ L.drop (idxO L k) = L.filter (fun x => ltK k x.key)) := by
  have hd := drop_idx h k
  have hlen := idx_le L k
  rcases Nat.lt_or_ge (idxO L k) L.length with hi | hi
  · have hc : L.drop (idxO L k) = L.getD (idxO L k) default :: L.drop (idxO L k + 1) := by
      rw [List.drop_eq_getElem_cons hi]
      simp [List.getD_eq_getElem?_getD, hi]
    have ho : Ord (L.drop (idxO L k)) := h.sublist (List.drop_sublist _ _)
    have hmem : L.getD (idxO L k) default ∈ L := getD_mem hi
    rw [hc] at ho
    replace ho := List.pairwise_cons.1 ho
    have hnl : ltK (L.getD (idxO L k) default).key k = false := by
      have : L.getD (idxO L k) default ∈ L.filter (fun x => !ltK x.key k) := by rw [← hd, hc]; simp
      simpa using (List.mem_filter.1 this).2
    by_cases he : (L.getD (idxO L k) default).key = k
    · left
      refine ⟨hi, he, (Kl.look_some h.keys).2 ⟨hmem, he⟩, ?_⟩
      have h1 : L.filter (fun x => ltK k x.key) = (L.drop (idxO L k)).filter (fun x => ltK k x.key) := by
        rw [hd, List.filter_filter]
        refine List.filter_congr fun x _ => ?_
        cases hx : ltK k x.key with
        | false => simp
        | true => rw [ltK_asymm _ _ hx]; rfl
      rw [h1, hc, List.filter_cons, if_neg (by rw [he, ltK_irr]; simp)]
      symm
      rw [List.filter_eq_self]
      intro y hy
      have := ho.1 y hy
      unfold ltO at this
      rw [he] at this
      exact this
    · right
      have hgt : ltK k (L.getD (idxO L k) default).key = true := by
        rcases ltK_total (L.getD (idxO L k) default).key k with h1 | h1 | h1
        · rw [hnl] at h1; cases h1
        · exact absurd h1 he
        · exact h1
      have hall : ∀ y ∈ L.drop (idxO L k), ltK k y.key = true := by
        rw [hc]
        intro y hy
        rcases List.mem_cons.1 hy with rfl | hy
        · exact hgt
        · exact ltK_trans hgt (ho.1 y hy)
      have hf : L.drop (idxO L k) = L.filter (fun x => ltK k x.key) := by
        rw [hd]
        refine List.filter_congr fun x hx => ?_
        cases h1 : ltK x.key k with
        | true => rw [ltK_asymm _ _ h1]; rfl
        | false =>
          have : x ∈ L.drop (idxO L k) := by rw [hd]; exact List.mem_filter.2 ⟨hx, by rw [h1]; rfl⟩
          rw [hall x this]; rfl
      refine ⟨fun _ => he, Kl.look_no fun x hx hk => ?_, hf⟩
      have : x ∈ L.drop (idxO L k) := by rw [hd]; exact List.mem_filter.2 ⟨hx, by rw [hk, ltK_irr]; rfl⟩
      have := hall x this
      rw [hk, ltK_irr] at this
      cases this
  · right
    have hd0 : L.drop (idxO L k) = [] := List.drop_eq_nil_of_le hi
    rw [hd0] at hd
    have hall : ∀ x ∈ L, ltK x.key k = true := by
      intro x hx
      have := List.filter_eq_nil_iff.1 hd.symm x hx
      simpa using this
    refine ⟨fun hi' => absurd hi' (by omega), Kl.look_no fun x hx hk => ?_, ?_⟩
    · have := hall x hx
      rw [hk, ltK_irr] at this; cases this
    · rw [hd0]
      symm
      rw [List.filter_eq_nil_iff]
      intro x hx
      rw [ltK_asymm _ _ (hall x hx)]
      simp
theorem set_ref {L : List Ov} (h : Ord L) (o : Ov) : L.take (idxO L o.key) ++ [o] ++ L.drop (idxO L o.key + if hasO L o.key then 1 else 0) = setO L o := by
  unfold setO hasO
  rw [take_idx h]
  rcases at_idx h o.key with ⟨-, -, h3, h4⟩ | ⟨-, h2, h3⟩
  · rw [h3, Option.isSome_some, if_pos rfl, h4]; simp [ltO]
  · rw [h2, Option.isSome_none, if_neg (by simp), Nat.add_zero, h3]; simp [ltO]
theorem del_ref {L : List Ov} (h : Ord L) {k : PK} (hk : hasO L k = true) : L.take (idxO L k) ++ L.drop (idxO L k + 1) = L.filter (fun x => decide (x.key ≠ k)) := by
  rw [take_idx h]
  rcases at_idx h k with ⟨-, -, -, h4⟩ | ⟨-, h2, -⟩
  · rw [h4]
    have ho : Ord (L.filter (fun x => ltK x.key k) ++ L.filter (fun x => ltK k x.key)) := by
      unfold Ord Kl.Ordered
      rw [List.pairwise_append]
      exact ⟨h.filter _, h.filter _, fun a ha b hb => ltK_trans (List.mem_filter.1 ha).2 (List.mem_filter.1 hb).2⟩
    refine Kl.ordered_eq ltO_asymm ho (h.filter _) ?_
    rw [List.perm_ext_iff_of_nodup (MR.nodup_of_map ho.keys) (MR.nodup_of_map (h.filter _).keys)]
    intro x
    simp only [List.mem_append, List.mem_filter, decide_eq_true_eq]
    constructor
    · rintro (⟨h1, h2⟩ | ⟨h1, h2⟩)
      · exact ⟨h1, fun e => by rw [e, ltK_irr] at h2; cases h2⟩
      · exact ⟨h1, fun e => by rw [e, ltK_irr] at h2; cases h2⟩
    · rintro ⟨h1, h2⟩
      rcases ltK_total x.key k with h | h | h
      · exact .inl ⟨h1, h⟩
      · exact absurd h h2
      · exact .inr ⟨h1, h⟩
  · unfold hasO at hk; rw [h2] at hk; cases hk
theorem del_none {L : List Ov} {k : PK} (hk : hasO L k = false) : L.filter (fun x => decide (x.key ≠ k)) = L := by
  unfold hasO at hk
  rw [List.filter_eq_self]
  intro x hx
  have : Kl.look Ov.key L k = none := by
    cases hl : Kl.look Ov.key L k with
    | none => rfl
    | some _ => rw [hl] at hk; cases hk
  simpa using Kl.look_none this hx
end Go.Proofs.Ytfmehahjjgalfaa
/- A region that draws its order, in pieces: those of a set in whatever order, each of which reads, or calls what leaves the world in a class; one that comes up alone; and so on. -/
namespace Go.Proofs.Ytfmehahjjgalfaa
open Go Go.RowKit

section
variable {P : Program} {ops : Array Oper} {md : Region.Mode} {C : World → Prop}

def depsB (md : Region.Mode) (ops : Array Oper) (t : Nat) : List Nat := match ops[t]? with | some o => (o.after.toList.filter (fun e => Region.binds md e)).map (fun e => e.on) | none => []
def ancs (md : Region.Mode) (ops : Array Oper) (t : Nat) : List Nat := (List.range ops.size).reverse.foldl (fun S j => if S.contains j then depsB md ops j ++ S else S) (depsB md ops t)
def closedB (md : Region.Mode) (ops : Array Oper) (listed : Array Bool) : Bool := decide (listed.size = ops.size) && (List.range ops.size).all fun j => !(listed.getD j false) || (depsB md ops j).all fun i => listed.getD i false
structure SInv (md : Region.Mode) (ops : Array Oper) (l0 listed : Array Bool) : Prop where
  size : listed.size = ops.size
  closed : ∀ j, listed.getD j false = true → ∀ i ∈ depsB md ops j, listed.getD i false = true
  mono : ∀ j, l0.getD j false = true → listed.getD j false = true
theorem depsB_mem {j : Nat} {oj : Oper} (h : ops[j]? = some oj) {e : Edge} (he : e ∈ oj.after) (hb : Region.binds md e = true) : e.on ∈ depsB md ops j := by
  unfold depsB
  rw [h]
  exact List.mem_map.2 ⟨e, List.mem_filter.2 ⟨by simpa using he, hb⟩, rfl⟩
theorem ready_deps {j : Nat} {listed : Array Bool} (h : j ∈ Region.ready md ops listed) : ∀ i ∈ depsB md ops j, listed.getD i false = true := by
  obtain ⟨_, o, ho, hall⟩ := mem_ready.1 h
  intro i hi
  unfold depsB at hi
  rw [ho] at hi
  obtain ⟨e, he, rfl⟩ := List.mem_map.1 hi
  obtain ⟨he, hb⟩ := List.mem_filter.1 he
  exact hall e (by simpa using he) hb
theorem SInv.set {l0 listed : Array Bool} (inv : SInv md ops l0 listed) {i : Nat} (hi : i ∈ Region.ready md ops listed) : SInv md ops l0 (listed.setIfInBounds i true) := by
  have hd := ready_deps hi
  refine ⟨by simp [inv.size], fun j hj k hk => ?_, fun j hj => getD_set_true (inv.mono j hj)⟩
  by_cases hij : i = j
  · subst hij; exact getD_set_true (hd k hk)
  · rw [getD_set_ne false hij] at hj
    exact getD_set_true (inv.closed j hj k hk)
theorem SInv.ancs {l0 listed : Array Bool} (inv : SInv md ops l0 listed) {t : Nat} (ht : t ∈ Region.ready md ops listed) : ∀ i ∈ ancs md ops t, listed.getD i false = true := by
  unfold Ytfmehahjjgalfaa.ancs
  have : ∀ (l S : List Nat), (∀ i ∈ S, listed.getD i false = true) → ∀ i ∈ l.foldl (fun S j => if S.contains j then depsB md ops j ++ S else S) S, listed.getD i false = true := by
    intro l
    induction l with
    | nil => intro S h; exact h
    | cons j l ih =>
      intro S h
      refine ih _ ?_
      dsimp only
      split
      · rename_i hc
        have hj := h j (by simpa using hc)
        intro i hi
        rcases List.mem_append.1 hi with hi | hi
        · exact inv.closed j hj i hi
        · exact h i hi
      · exact h
  exact this _ _ (ready_deps ht)
theorem sinv_of {listed : Array Bool} (h : closedB md ops listed = true) : SInv md ops listed listed := by
  simp only [closedB, Bool.and_eq_true, decide_eq_true_eq] at h
  refine ⟨h.1, fun j hj i hi => ?_, fun _ h => h⟩
  have h1 := List.all_eq_true.1 h.2 j
  by_cases hlt : j < ops.size
  · have h2 := h1 (List.mem_range.2 hlt)
    rw [hj, Bool.not_true, Bool.false_or] at h2
    exact List.all_eq_true.1 h2 i hi
  · unfold depsB at hi; rw [Array.getElem?_eq_none (by omega)] at hi; cases hi

/-- so many more operations come up, all of hd, each quiet; then L -/
def headS (P : Program) (md : Region.Mode) (ops : Array Oper) (C : World → Prop) (hd : List Nat) (L : Array Bool → Act → Prop) : Nat → Array Bool → Act → Prop
  | 0, listed, a => L listed a
  | f + 1, listed, a => Region.ready md ops listed ≠ [] ∧ ∀ i ∈ Region.ready md ops listed, i ∈ hd ∧ qOp P ops C i (headS P md ops C hd L f (listed.setIfInBounds i true)) a
theorem any_of_headS {hd : List Nat} {g : Nat} {L : Array Bool → Act → Prop} {Q' : Exit → Act → World → Prop} (hL : ∀ listed a w, C w → L listed a → wpAny P md ops Q' g listed a w) (f : Nat) :
    ∀ (listed : Array Bool) (a : Act) (w : World), C w → headS P md ops C hd L f listed a → wpAny P md ops Q' (f + g) listed a w := by
  induction f with
  | zero => intro listed a w hw h; rw [Nat.zero_add]; exact hL _ _ _ hw h
  | succ f ih =>
    intro listed a w hw h
    rw [Nat.succ_add]
    exact ⟨fun h0 => absurd h0 h.1, fun i hi => wpOp_of_qOp hw (fun a' w' hw' h' => ih _ a' w' hw' h') (h.2 i hi).2⟩
theorem headS_first {hd : List Nat} {l0 : Array Bool} {i : Nat} {oi : Oper} {v : Value} {L : Array Bool → Act → Prop} (hi : ops[i]? = some oi) (hsel : ∀ (j : Nat) (o : Oper) cs b, ops[j]? = some o → o.op ≠ .select cs b)
    (htw : ∀ listed, SInv md ops l0 listed → ∀ t ∈ Region.ready md ops listed, t ∉ hd → ∀ i ∈ hd, listed.getD i false = true) (hin : i ∈ hd) (hdone : ∀ listed a, L listed a → ∀ j ∈ Region.ready md ops listed, j ∉ hd) (f : Nat) :
    ∀ (listed : Array Bool) (a : Act), SInv md ops l0 listed →
      (∀ j oj, ops[j]? = some oj → j ≠ i → listed.getD j true = false → (∀ e ∈ oj.after, Region.binds md e = true → e.on ≠ i) → oi.apart ops oj = true) →
      i ∈ Region.ready md ops listed → YieldsIn P ops C oi v a → headS P md ops C hd L f (listed.setIfInBounds i true) (a.put oi.dst v) → headS P md ops C hd L (f + 1) listed a := by
  induction f with
  | zero =>
    intro listed a inv _ hr hy H
    have hun := (mem_ready.1 hr).1
    refine ⟨fun h => (by rw [h] at hr; cases hr), fun j hj => ?_⟩
    have hjn : j ∈ hd := Classical.byContradiction fun h => by have := htw _ inv j hj h i hin; rw [getD_both hun] at this; cases this
    refine ⟨hjn, ?_⟩
    by_cases hji : j = i
    · subst hji; exact hy.qOp hi H
    · exact absurd hjn (hdone _ _ H j (ready_mono hj hji))
  | succ f ih =>
    intro listed a inv hfree hr hy H
    have hun := (mem_ready.1 hr).1
    refine ⟨fun h => (by rw [h] at hr; cases hr), fun j hj => ?_⟩
    have hjn : j ∈ hd := Classical.byContradiction fun h => by have := htw _ inv j hj h i hin; rw [getD_both hun] at this; cases this
    refine ⟨hjn, ?_⟩
    by_cases hji : j = i
    · subst hji; exact hy.qOp hi H
    obtain ⟨hjun, oj, hoj, hall⟩ := mem_ready.1 hj
    have hnot : ∀ e ∈ oj.after, Region.binds md e = true → e.on ≠ i := by
      intro e he hb heq
      have h1 := hall e he hb
      rw [heq, getD_both hun] at h1
      cases h1
    have h2 := qOp_put hoj (hfree j oj hoj hji hjun hnot) (fun cs b => hsel i oi cs b hi) (fun cs b => hsel j oj cs b hoj) hy (H.2 j (ready_mono hj hji)).2
    refine qOp_mono (fun a' h3 => ih (listed.setIfInBounds j true) a' (inv.set hj) ?_ (ready_mono hr (Ne.symm hji)) h3.1 ?_) h2
    · intro k ok hk hki hun' hno
      refine hfree k ok hk hki ?_ hno
      by_cases hjk : j = k
      · subst hjk; exact hjun
      · rw [getD_set_ne true hjk] at hun'; exact hun'
    · rw [Array.setIfInBounds_comm _ _ hji]; exact h3.2
/-- in this order they come up, each apart from what is not there yet -/
def lexS (md : Region.Mode) (ops : Array Oper) (hd : List Nat) : List Nat → Array Bool → Bool
  | [], listed => (Region.ready md ops listed).all (fun j => !hd.contains j)
  | k :: r, listed => (Region.ready md ops listed).contains k && hd.contains k && Region.free md ops listed k && lexS md ops hd r (listed.setIfInBounds k true)
def setAll (l : List Nat) (listed : Array Bool) : Array Bool := l.foldl (fun s i => s.setIfInBounds i true) listed
theorem headS_lex {hd : List Nat} {l0 : Array Bool} {Lq : Act → Prop} (hsel : Region.noSelect ops = true)
    (htw : ∀ listed, SInv md ops l0 listed → ∀ t ∈ Region.ready md ops listed, t ∉ hd → ∀ i ∈ hd, listed.getD i false = true) (l : List Nat) :
    ∀ (listed : Array Bool) (a : Act), SInv md ops l0 listed → lexS md ops hd l listed = true → wpQuiet P ops C Lq (pick ops.toList l) a →
    headS P md ops C hd (fun listed' a' => (listed' = setAll l listed ∧ ((Region.ready md ops listed').all (fun j => !hd.contains j)) = true) ∧ Lq a') l.length listed a := by
  induction l with
  | nil => intro listed a _ hB h; exact ⟨⟨rfl, by simpa [lexS] using hB⟩, h⟩
  | cons k l ih =>
    intro listed a inv hB h
    simp only [lexS, Bool.and_eq_true] at hB
    obtain ⟨⟨⟨hr, hin⟩, hf⟩, hB'⟩ := hB
    have hr' : k ∈ Region.ready md ops listed := by simpa using hr
    obtain ⟨o, h0⟩ := ready_lt hr'
    have hp : pick ops.toList (k :: l) = o :: pick ops.toList l := by simp [pick, List.getD_eq_getElem?_getD, h0]
    rw [hp] at h
    have hq : qOp P ops C k (wpQuiet P ops C Lq (pick ops.toList l)) a := by unfold qOp; simp only [h0]; exact h
    obtain ⟨v, hy, hK⟩ := yieldsIn_of_qOp h0 hq
    refine headS_first h0 (Region.noSelect_spec hsel) htw (by simpa using hin) (fun listed' a' hL j hj => ?_) l.length listed a inv (Region.free_spec h0 hf) hr' hy ?_
    · have := List.all_eq_true.1 hL.1.2 j hj
      simpa using this
    · exact ih _ _ (inv.set hr') hB' hK
/-- may a piece be taken so -/
def segB (md : Region.Mode) (ops : Array Oper) (hd : List Nat) (l0 : Array Bool) : Bool :=
  Region.noSelect ops && closedB md ops l0 && lexS md ops hd hd l0 && (List.range ops.size).all fun t => hd.contains t || l0.getD t false || hd.all fun i => (ancs md ops t).contains i
theorem wpAny_seg {Q : Exit → Act → World → Prop} {g : Nat} (C : World → Prop) (hd : List Nat) {n : Nat} (hn : hd.length + g = n) {l0 : Array Bool} {a : Act} {w : World} (hB : segB md ops hd l0 = true) (hw : C w)
    (h : wpQuiet P ops C (fun a' => ∀ w', C w' → wpAny P md ops Q g (setAll hd l0) a' w') (pick ops.toList hd) a) : wpAny P md ops Q n l0 a w := by
  subst hn
  simp only [segB, Bool.and_eq_true] at hB
  obtain ⟨⟨⟨h1, h2⟩, h3⟩, h4⟩ := hB
  have inv := sinv_of h2
  have htw : ∀ listed, SInv md ops l0 listed → ∀ t ∈ Region.ready md ops listed, t ∉ hd → ∀ i ∈ hd, listed.getD i false = true := by
    intro listed inv t ht hth i hi
    obtain ⟨hun, o, ho, _⟩ := mem_ready.1 ht
    have h5 := List.all_eq_true.1 h4 t (List.mem_range.2 (Array.getElem?_eq_some_iff.1 ho).1)
    simp only [Bool.or_eq_true] at h5
    rcases h5 with (h5 | h5) | h5
    · exact absurd (by simpa using h5) hth
    · have := inv.mono t h5; rw [getD_both hun] at this; cases this
    · exact inv.ancs ht i (by simpa using List.all_eq_true.1 h5 i hi)
  refine any_of_headS (C := C) (hd := hd) (fun listed' a' w' hw' hL => ?_) hd.length l0 a w hw (headS_lex h1 htw hd l0 a inv h3 h)
  obtain ⟨⟨rfl, _⟩, hL⟩ := hL
  exact hL w' hw'
theorem wp_then {o : Oper} {a : Act} {w : World} {K K0 : Act → World → Prop} {Q : Exit → Act → World → Prop} (h : o.wp P a w K (Exit.then K0 Q)) : o.wp P a w K Q := by
  unfold Oper.wp at *
  generalize (execOp a.eval o).run P w = r at *
  cases r with
  | ok x w' =>
    cases x <;> simp only [Oper.upon] at h ⊢ <;>
      first
        | exact h
        | exact h.mono (fun e w'' he => by cases e <;> first | exact he | exact (let ⟨a, w, h⟩ := he; ⟨a, w, h⟩))
  | halt x w' => cases x <;> simp only [Oper.upon] at h ⊢ <;> exact h
/-- one that comes up alone -/
theorem wpAny_one {Q : Exit → Act → World → Prop} {g : Nat} (i : Nat) {l0 : Array Bool} {a : Act} {w : World} (hB : decide (Region.ready md ops l0 = [i]) = true)
    (h : wpList P ops (Exit.then (wpAny P md ops Q g (l0.setIfInBounds i true)) Q) (pick ops.toList [i]) a w) : wpAny P md ops Q (g + 1) l0 a w := by
  have hr : Region.ready md ops l0 = [i] := by simpa using hB
  obtain ⟨o, ho⟩ := ready_lt (md := md) (ops := ops) (listed := l0) (i := i) (by rw [hr]; simp)
  refine wpAny_all hr (by simp) fun j hj => ?_
  obtain rfl : j = i := by simpa using hj
  have hp : pick ops.toList [j] = [o] := by simp [pick, List.getD_eq_getElem?_getD, ho]
  rw [hp] at h
  unfold wpOp
  simp only [ho]
  unfold wpList at h
  by_cases hw : Region.wanted o (yielded ops a.tmps) = true
  · rw [if_pos hw] at h ⊢
    refine h.imp (fun h => wp_then (Oper.wp_mono (fun a' w' h' => h') h)) (fun h => ⟨h.1, let ⟨a, w, h⟩ := h.2; ⟨a, w, h⟩⟩)
  · rw [if_neg hw] at h ⊢
    exact h
def pureS (md : Region.Mode) (ops : Array Oper) : List Nat → Array Bool → Bool
  | [], _ => true
  | i :: r, listed => (Region.ready md ops listed).contains i && Region.free md ops listed i && pureS md ops r (listed.setIfInBounds i true)
theorem pureS_go {Q : Exit → Act → World → Prop} {g : Nat} {w : World} (hsel : Region.noSelect ops = true) (hQ : ∀ c (a : Act) d v w, Q (.panic c) (a.put d v) w → Q (.panic c) a w) : ∀ (hd : List Nat) (l0 : Array Bool) (a : Act), pureS md ops hd l0 = true → wpPure P ops (fun a' => wpAny P md ops Q g (setAll hd l0) a' w) (pick ops.toList hd) a → wpAny P md ops Q (hd.length + g) l0 a w
  | [], l0, a, _, h => by rw [List.length_nil, Nat.zero_add]; exact h
  | i :: r, l0, a, hB, h => by
    simp only [pureS, Bool.and_eq_true] at hB
    obtain ⟨⟨hr, hf⟩, hB'⟩ := hB
    obtain ⟨o, ho⟩ := ready_lt (md := md) (ops := ops) (listed := l0) (i := i) (by simpa using hr)
    have hp : pick ops.toList (i :: r) = o :: pick ops.toList r := by simp [pick, List.getD_eq_getElem?_getD, ho]
    rw [hp] at h
    rw [List.length_cons, Nat.succ_add]
    unfold wpPure at h
    by_cases hw : Region.wanted o (yielded ops a.tmps) = true
    · rw [if_pos hw] at h
      obtain ⟨v, hv, hrest⟩ := h
      exact wpAny_take ho hsel hf hr (fun c a w => hQ c a _ _ w) (.inl ⟨hw, hv⟩) (pureS_go hsel hQ r _ _ hB' hrest)
    · rw [if_neg hw] at h
      exact wpAny_take ho hsel hf hr (fun c a w => hQ c a _ _ w) (.inr ⟨by simpa using hw, rfl⟩) (pureS_go hsel hQ r _ _ hB' h)
/-- those that only compute may be taken first -/
theorem wpAny_pure {Q : Exit → Act → World → Prop} {g n : Nat} (hd : List Nat) (hn : hd.length + g = n) {l0 : Array Bool} {a : Act} {w : World} (hB : (Region.noSelect ops && pureS md ops hd l0) = true) (hQ : ∀ c (a : Act) d v w, Q (.panic c) (a.put d v) w → Q (.panic c) a w)
    (h : wpPure P ops (fun a' => wpAny P md ops Q g (setAll hd l0) a' w) (pick ops.toList hd) a) : wpAny P md ops Q n l0 a w := by
  subst hn
  simp only [Bool.and_eq_true] at hB
  exact pureS_go hB.1 hQ hd l0 a hB.2 h
theorem wp_region_pieces {id : Nat} {Q : Exit → Act → World → Prop} {a : Act} {w : World} {l : List Oper} (hm : P.follows .mixedOrders = true)
    (h : wpAny P .any l.toArray Q l.length (Array.replicate l.length false) a w.drew) : (Code.region id l.toArray true).wp P Q a w := by
  refine wp_region_any hm ?_
  simpa using h
/-- operations that read, in every world that meets S, the same; then L -/
def wpRead (P : Program) (ops : Array Oper) (S : World → Prop) (L : Act → Prop) : List Oper → Act → Prop
  | [], a => L a
  | o :: rest, a => if Region.wanted o (yielded ops a.tmps) = true then ∃ v, (∀ w, S w → (execOp a.eval o).run P w = .ok (.value v) w) ∧ wpRead P ops S L rest (a.put o.dst v) else wpRead P ops S L rest (a.put o.dst undef)
theorem wpRead_nil {S : World → Prop} {L : Act → Prop} {a : Act} (h : L a) : wpRead P ops S L [] a := h
theorem wpRead_step {S : World → Prop} {L : Act → Prop} {a : Act} {o : Oper} {rest : List Oper}
    (h : ∀ K : Act → Prop, (∀ a, wpRead P ops S L rest a → K a) → if Region.wanted o (yielded ops a.tmps) = true then ∃ v, (∀ w, S w → (execOp a.eval o).run P w = .ok (.value v) w) ∧ K (a.put o.dst v) else K (a.put o.dst undef)) : wpRead P ops S L (o :: rest) a :=
  h _ (fun _ h => h)
theorem reads_go {S : World → Prop} {Q : Exit → Act → World → Prop} {g : Nat} {w : World} (hsel : Region.noSelect ops = true) (hS : S w) (hQ : ∀ c (a : Act) d v w, Q (.panic c) (a.put d v) w → Q (.panic c) a w) : ∀ (hd : List Nat) (l0 : Array Bool) (a : Act), pureS md ops hd l0 = true → wpRead P ops S (fun a' => wpAnyH P md ops Q S g (setAll hd l0) a' w) (pick ops.toList hd) a → wpAnyH P md ops Q S (hd.length + g) l0 a w
  | [], l0, a, _, h => by rw [List.length_nil, Nat.zero_add]; exact h
  | i :: r, l0, a, hB, h => by
    simp only [pureS, Bool.and_eq_true] at hB
    obtain ⟨⟨hr, hf⟩, hB'⟩ := hB
    obtain ⟨o, ho⟩ := ready_lt (md := md) (ops := ops) (listed := l0) (i := i) (by simpa using hr)
    have hp : pick ops.toList (i :: r) = o :: pick ops.toList r := by simp [pick, List.getD_eq_getElem?_getD, ho]
    rw [hp] at h
    rw [List.length_cons, Nat.succ_add]
    unfold wpRead at h
    by_cases hw : Region.wanted o (yielded ops a.tmps) = true
    · rw [if_pos hw] at h
      obtain ⟨v, hv, hrest⟩ := h
      exact wpAnyH_take ho hsel hf hr (fun c a w => hQ c a _ _ w) (.inl ⟨hw, hv⟩) hS (reads_go hsel hS hQ r _ _ hB' hrest)
    · rw [if_neg hw] at h
      exact wpAnyH_take ho hsel hf hr (fun c a w => hQ c a _ _ w) (.inr ⟨by simpa using hw, rfl⟩) hS (reads_go hsel hS hQ r _ _ hB' h)
/-- those that only read what S says may be taken first -/
theorem held_reads {S : World → Prop} {Q : Exit → Act → World → Prop} {g n : Nat} (hd : List Nat) (hn : hd.length + g = n) {l0 : Array Bool} {a : Act} {w : World} (hB : (Region.noSelect ops && pureS md ops hd l0) = true) (hS : S w) (hQ : ∀ c (a : Act) d v w, Q (.panic c) (a.put d v) w → Q (.panic c) a w)
    (h : wpRead P ops S (fun a' => wpAnyH P md ops Q S g (setAll hd l0) a' w) (pick ops.toList hd) a) : wpAnyH P md ops Q S n l0 a w := by
  subst hn
  simp only [Bool.and_eq_true] at hB
  exact reads_go hB.1 hS hQ hd l0 a hB.2 h
/-- one that comes up alone: behind it S holds -/
theorem held_one {S : World → Prop} {Q : Exit → Act → World → Prop} {g : Nat} (i : Nat) {l0 : Array Bool} {a : Act} {w : World} (hB : decide (Region.ready md ops l0 = [i]) = true)
    (h : wpList P ops (Exit.then (fun a' w' => S w' ∧ wpAnyH P md ops Q S g (l0.setIfInBounds i true) a' w') Q) (pick ops.toList [i]) a w) : wpAnyH P md ops Q S (g + 1) l0 a w := by
  have hr : Region.ready md ops l0 = [i] := by simpa using hB
  obtain ⟨o, ho⟩ := ready_lt (md := md) (ops := ops) (listed := l0) (i := i) (by rw [hr]; simp)
  refine wpAnyH_all hr (by simp) fun j hj => ?_
  obtain rfl : j = i := by simpa using hj
  have hp : pick ops.toList [j] = [o] := by simp [pick, List.getD_eq_getElem?_getD, ho]
  rw [hp] at h
  unfold wpOp
  simp only [ho]
  unfold wpList at h
  by_cases hw : Region.wanted o (yielded ops a.tmps) = true
  · rw [if_pos hw] at h ⊢
    refine h.imp (fun h => wp_then (Oper.wp_mono (fun a' w' h' => h') h)) (fun h => ⟨h.1, let ⟨a, w, h⟩ := h.2; ⟨a, w, h⟩⟩)
  · rw [if_neg hw] at h ⊢
    exact h
theorem wp_region_heldP {id : Nat} {Q : Exit → Act → World → Prop} {a : Act} {w : World} {l : List Oper} (S : World → Prop) (hm : P.follows .mixedOrders = true)
    (h : wpAnyH P .any l.toArray Q S l.length (Array.replicate l.length false) a w.drew) : (Code.region id l.toArray true).wp P Q a w := by
  refine wp_region_held (S := S) hm ?_
  simpa using h
end
end Go.Proofs.Ytfmehahjjgalfaa
