/- Maps, as lists of entries: look-up, store, delete, length, and the steps of a range. -/
import Derived.Maps.RangeRun
import Derived.Maps.Keyed
import Derived.Maps.Own
namespace Go.Proofs.Ytfmehahjjgalfaa.MR
open Go.Maps Go.MapKept
open Go.ChangeMaps (setBlock)

/-- how keys are written in memory -/
structure Enc (P : Program) (K : TypeId) (κ : Type) where
  enc : κ → Value
  ok : κ → Prop
  law : Keyed P K
  reads : ∀ k, ok k → ∃ l, keyOf P K (enc k) = some l
  inj : ∀ a b, enc a = enc b → a = b

abbrev Ent (κ : Type) := κ × Value × Nat
def ents {κ : Type} (enc : κ → Value) (l : List (Ent κ)) : List MapEntry := l.map fun e => ⟨enc e.1, e.2.1, e.2.2⟩

section
variable {P : Program} {K : TypeId} {κ : Type} (N : Enc P K κ)

structure MapAt (w : World) (b : Nat) (l : List (Ent κ)) (clock : Nat) : Prop where
  blk : w.heap[b]? = some (.map (ents N.enc l).toArray clock)
  ok : ∀ e ∈ l, N.ok e.1
  nodup : (l.map (·.1)).Nodup
  born : ∀ e ∈ l, e.2.2 < clock
  bnodup : (l.map (·.2.2)).Nodup

theorem ents_length (enc : κ → Value) (l : List (Ent κ)) : (ents enc l).length = l.length := by simp [ents]

theorem find_cases {w w' : World} {b clock : Nat} {l : List (Ent κ)} (h : MapAt N w b l clock) {x : κ} (hx : N.ok x) :
    ((Instr.findKey K (N.enc x) (ents N.enc l)).run P w' = .ok none w' ∧ x ∉ l.map (·.1)) ∨
    ∃ j v bn, (Instr.findKey K (N.enc x) (ents N.enc l)).run P w' = .ok (some (j, v)) w' ∧ l[j]? = some (x, v, bn) := by
  obtain ⟨lx, hlx⟩ := N.reads x hx
  have hr : ∀ e ∈ ents N.enc l, ∃ l', keyOf P K e.key = some l' := by
    intro e he
    obtain ⟨y, hy, rfl⟩ := List.mem_map.1 he
    exact N.reads _ (h.ok y hy)
  rcases N.law.find w' hlx (ents N.enc l) hr with ⟨h1, h2⟩ | ⟨j, e, h1, h2, h3⟩
  · left
    refine ⟨h1, fun hm => ?_⟩
    obtain ⟨y, hy, rfl⟩ := List.mem_map.1 hm
    exact h2 ⟨N.enc y.1, y.2.1, y.2.2⟩ (List.mem_map.2 ⟨y, hy, rfl⟩) rfl
  · right
    simp only [ents, List.getElem?_map, Option.map_eq_some_iff] at h2
    obtain ⟨⟨yk, yv, yb⟩, hy, rfl⟩ := h2
    obtain rfl : yk = x := N.inj _ _ h3
    exact ⟨j, yv, yb, h1, hy⟩

theorem run_len {w : World} {b clock : Nat} {l : List (Ent κ)} (h : MapAt N w b l clock) {T E : TypeId} (ht : P.underlying T = some (.map K E)) (ty : TypeId) :
    (Builtin.len_ #[T] ty #[.map (some b)]).run P w = .ok (.int .i64 l.length) w := by
  unfold Builtin.len_
  simp [run_underlying ht, Result.andThen, getObj, Sem.run, h.blk, goInt, ents]

theorem MapAt.blk_iff {w w' : World} {b clock : Nat} {l : List (Ent κ)} (h : MapAt N w b l clock) (e : w'.heap[b]? = w.heap[b]?) : MapAt N w' b l clock := ⟨e.trans h.blk, h.ok, h.nodup, h.born, h.bnodup⟩
theorem mapAt_made {w : World} {b : Nat} (h : w.heap[b]? = some (.map #[] 0)) : MapAt N w b [] 0 := ⟨h, by simp, by simp, by simp, by simp⟩
section
variable [DecidableEq κ]
def get? (l : List (Ent κ)) (x : κ) : Option Value := (l.find? (fun e => decide (e.1 = x))).map (·.2.1)
def put (l : List (Ent κ)) (x : κ) (v : Value) (clock : Nat) : List (Ent κ) :=
  if x ∈ l.map (·.1) then l.map (fun e => if e.1 = x then (x, v, e.2.2) else e) else l ++ [(x, v, clock)]
def clock' (l : List (Ent κ)) (x : κ) (clock : Nat) : Nat := if x ∈ l.map (·.1) then clock else clock + 1
def del (l : List (Ent κ)) (x : κ) : List (Ent κ) := l.filter (fun e => decide (e.1 ≠ x))

theorem get?_none {l : List (Ent κ)} {x : κ} (h : x ∉ l.map (·.1)) : get? l x = none := by
  unfold get?
  rw [List.find?_eq_none.2]
  · rfl
  · intro e he
    simp only [decide_eq_true_eq]
    rintro rfl
    exact h (List.mem_map.2 ⟨e, he, rfl⟩)
theorem get?_mem {l : List (Ent κ)} (hn : (l.map (·.1)).Nodup) {e : Ent κ} (he : e ∈ l) : get? l e.1 = some e.2.1 := by
  induction l with
  | nil => cases he
  | cons y r ih =>
    simp only [List.map_cons, List.nodup_cons] at hn
    unfold get?
    rw [List.find?_cons]
    rcases List.mem_cons.1 he with rfl | he'
    · simp
    · have hne : y.1 ≠ e.1 := fun h => hn.1 (List.mem_map.2 ⟨e, he', h.symm⟩)
      simp only [hne, decide_false]
      exact ih hn.2 he'
theorem mem_of_get? {l : List (Ent κ)} {x : κ} {v : Value} (h : get? l x = some v) : ∃ e ∈ l, e.1 = x ∧ e.2.1 = v := by
  unfold get? at h
  simp only [Option.map_eq_some_iff] at h
  obtain ⟨e, he, rfl⟩ := h
  have h1 := List.find?_some he
  exact ⟨e, List.mem_of_find?_eq_some he, by simpa using h1, rfl⟩

theorem get?_put (l : List (Ent κ)) (x y : κ) (v : Value) (c : Nat) : get? (put l x v c) y = if y = x then some v else get? l y := by
  unfold put
  split
  · rename_i hx
    clear c
    induction l with
    | nil => simp at hx
    | cons e r ih =>
      unfold get?
      simp only [List.map_cons, List.find?_cons]
      by_cases he : e.1 = x
      · by_cases hy : y = x
        · subst hy; simp [he]
        · have : ¬ (x = y) := fun h => hy h.symm
          have hey : ¬ (e.1 = y) := by rw [he]; exact this
          simp only [he, if_true, this, decide_false, hy, if_false]
          by_cases hxr : x ∈ r.map (·.1)
          · have := ih hxr
            unfold get? at this
            rw [this, if_neg hy]
          · have : r.map (fun e => if e.1 = x then (x, v, e.2.2) else e) = r := by
              conv => rhs; rw [← List.map_id r]
              refine List.map_congr_left fun e' he' => ?_
              rw [if_neg]
              · rfl
              · rintro rfl; exact hxr (List.mem_map.2 ⟨e', he', rfl⟩)
            rw [this]
      · simp only [he, if_false]
        have hxr : x ∈ r.map (·.1) := by
          simp only [List.map_cons, List.mem_cons] at hx
          rcases hx with h | h
          · exact absurd h.symm he
          · exact h
        have ih' := ih hxr
        unfold get? at ih'
        by_cases hey : e.1 = y
        · have : y ≠ x := by rintro rfl; exact he hey
          simp [hey, this]
        · simp only [hey, decide_false]
          exact ih'
  · rename_i hx
    unfold get?
    rw [List.find?_append]
    by_cases hy : y = x
    · subst hy
      have := get?_none hx
      unfold get? at this
      simp only [Option.map_eq_none_iff] at this
      simp [this]
    · have : ¬ (x = y) := fun h => hy h.symm
      simp [hy, this]

theorem get?_del (l : List (Ent κ)) (x y : κ) : get? (del l x) y = if y = x then none else get? l y := by
  unfold del get?
  rw [List.find?_filter]
  by_cases hy : y = x
  · subst hy
    rw [if_pos rfl, List.find?_eq_none.2]
    · rfl
    · intro e he; simp
  · rw [if_neg hy]
    congr 2
    funext e
    by_cases h : e.1 = y
    · have : ¬ (e.1 = x) := by rw [h]; exact hy
      simp [h, hy]
    · simp [h]

theorem run_lookup {w : World} {b clock : Nat} {l : List (Ent κ)} (h : MapAt N w b l clock) {x : κ} (hx : N.ok x) {T E : TypeId} (ht : P.underlying T = some (.map K E)) {z : Value} (hz : ∀ w, (zeroValue E).run P w = .ok z w) (ok : Bool) :
    (Instr.lookup T (.map (some b)) (N.enc x) ok).run P w = .ok (if ok then .tuple #[(get? l x).getD z, .bool (get? l x).isSome] else (get? l x).getD z) w := by
  obtain ⟨lx, hlx⟩ := N.reads x hx
  unfold Instr.lookup
  simp only [Sem.run_bind, run_underlying ht, Result.andThen, getObj, Sem.run, h.blk, N.law.check w _ hlx, Sem.run_pure]
  rcases find_cases N h (w' := w) hx with ⟨h1, h2⟩ | ⟨j, v, bn, h1, h2⟩
  · simp only [h1, Sem.run_bind, Result.andThen, hz, Sem.run_pure, get?_none h2]
    cases ok <;> rfl
  · have hm : (x, v, bn) ∈ l := List.mem_of_getElem? h2
    have := get?_mem h.nodup hm
    simp only [h1, this]
    cases ok <;> rfl

theorem setBlock_heap (w : World) (b : Nat) (o : Obj) (hb : b < w.heap.size) : (setBlock w b o).heap[b]? = some o := by
  simp [setBlock, hb]

theorem ents_put_old (enc : κ → Value) (_inj : ∀ a b, enc a = enc b → a = b) {l : List (Ent κ)} (hn : (l.map (·.1)).Nodup) {j : Nat} {x : κ} {u v : Value} {bn : Nat} (hj : l[j]? = some (x, u, bn)) :
    (ents enc l).toArray.modify j (fun e => { e with key := enc x, val := v }) = (ents enc (l.map fun e => if e.1 = x then (x, v, e.2.2) else e)).toArray := by
  apply Array.ext_getElem?
  intro i
  simp only [Array.getElem?_modify, List.getElem?_toArray, ents, List.getElem?_map]
  by_cases hij : j = i
  · subst hij
    simp [hj]
  · rw [if_neg hij]
    cases hi : l[i]? with
    | none => rfl
    | some e =>
      have hne : ¬ (e.1 = x) := by
        rintro rfl
        have hi' := List.getElem?_eq_some_iff.1 hi
        have hj' := List.getElem?_eq_some_iff.1 hj
        obtain ⟨a1, a2⟩ := hi'
        obtain ⟨b1, b2⟩ := hj'
        have h1 : (l.map (·.1))[i]'(by simpa using a1) = (l.map (·.1))[j]'(by simpa using b1) := by simp [a2, b2]
        exact hij ((List.getElem_inj hn).1 h1.symm)
      simp [hne]

theorem mapAt_put {w' : World} {b clock : Nat} {l : List (Ent κ)} {w : World} (h : MapAt N w b l clock) {x : κ} (hx : N.ok x) (v : Value) (hw : w'.heap[b]? = some (.map (ents N.enc (put l x v clock)).toArray (clock' l x clock))) : MapAt N w' b (put l x v clock) (clock' l x clock) := by
  refine ⟨hw, ?_, ?_, ?_, ?_⟩
  all_goals unfold put
  all_goals try unfold clock'
  all_goals split
  · intro e he
    obtain ⟨y, hy, rfl⟩ := List.mem_map.1 he
    split
    · exact hx
    · exact h.ok y hy
  · intro e he
    rcases List.mem_append.1 he with he | he
    · exact h.ok e he
    · simp at he; subst he; exact hx
  · have : (l.map fun e => if e.1 = x then (x, v, e.2.2) else e).map (·.1) = l.map (·.1) := by
      rw [List.map_map]
      refine List.map_congr_left fun e _ => ?_
      simp only [Function.comp]
      split
      · rename_i h'; exact h'.symm
      · rfl
    rw [this]; exact h.nodup
  · rename_i hni
    rw [List.map_append, List.nodup_append]
    refine ⟨h.nodup, by simp, ?_⟩
    intro a ha c hc
    simp at hc
    subst hc
    rintro rfl
    exact hni ha
  · intro e he
    obtain ⟨y, hy, rfl⟩ := List.mem_map.1 he
    have := h.born y hy
    split <;> exact this
  · intro e he
    rcases List.mem_append.1 he with he | he
    · have := h.born e he; omega
    · simp at he; subst he; simp
  · have : (l.map fun e => if e.1 = x then (x, v, e.2.2) else e).map (·.2.2) = l.map (·.2.2) := by
      rw [List.map_map]
      refine List.map_congr_left fun e _ => ?_
      simp only [Function.comp]
      split <;> rfl
    rw [this]; exact h.bnodup
  · rw [List.map_append, List.nodup_append]
    refine ⟨h.bnodup, by simp, ?_⟩
    intro a ha c hc
    simp at hc
    subst hc
    obtain ⟨y, hy, rfl⟩ := List.mem_map.1 ha
    have := h.born y hy
    omega

theorem run_update {w : World} {b clock : Nat} {l : List (Ent κ)} (h : MapAt N w b l clock) {x : κ} (hx : N.ok x) {T E : TypeId} (ht : P.underlying T = some (.map K E)) (v : Value) :
    (Instr.mapUpdate T (.map (some b)) (N.enc x) v).run P w = .ok () (setBlock w b (.map (ents N.enc (put l x v clock)).toArray (clock' l x clock))) ∧
    MapAt N (setBlock w b (.map (ents N.enc (put l x v clock)).toArray (clock' l x clock))) b (put l x v clock) (clock' l x clock) := by
  have hlt : b < w.heap.size := by
    rcases Nat.lt_or_ge b w.heap.size with h' | h'
    · exact h'
    · have := h.blk; rw [Array.getElem?_eq_none h'] at this; cases this
  refine ⟨?_, mapAt_put N h hx v (setBlock_heap _ _ _ hlt)⟩
  obtain ⟨lx, hlx⟩ := N.reads x hx
  unfold Instr.mapUpdate
  simp only [Sem.run_bind, run_underlying ht, Result.andThen, getObj, Sem.run, h.blk, N.law.check w _ hlx]
  have hset : ∀ o : Obj, (setObj b o).run P w = .ok () (setBlock w b o) := by
    intro o; simp [setObj, Sem.run, h.blk, setBlock]
  rcases find_cases N h (w' := w) hx with ⟨h1, h2⟩ | ⟨j, u, bn, h1, h2⟩
  · simp only [h1, hset]
    unfold put clock'
    rw [if_neg h2, if_neg h2]
    simp [ents]
  · have hm : x ∈ l.map (·.1) := List.mem_map.2 ⟨_, List.mem_of_getElem? h2, rfl⟩
    have hk : ((((ents N.enc l).toArray[j]?).map (·.key)).getD (N.enc x)) = N.enc x := by simp [ents, h2]
    simp only [h1, Sem.run_bind, hk, N.law.stays w hlx, Result.andThen, hset]
    unfold put clock'
    rw [if_pos hm, if_pos hm, ents_put_old N.enc N.inj h.nodup h2]

theorem ents_del (_enc : κ → Value) {l : List (Ent κ)} (hn : (l.map (·.1)).Nodup) {j : Nat} {x : κ} {u : Value} {bn : Nat} (hj : l[j]? = some (x, u, bn)) :
    l.eraseIdx j = del l x := by
  induction l generalizing j with
  | nil => simp at hj
  | cons y r ih =>
    simp only [List.map_cons, List.nodup_cons] at hn
    cases j with
    | zero =>
      simp at hj
      subst hj
      simp only [List.eraseIdx_zero, List.tail_cons, del, List.filter_cons]
      simp only [ne_eq, not_true_eq_false, decide_false, Bool.false_eq_true, if_false]
      symm
      rw [List.filter_eq_self]
      intro e he
      simp only [decide_eq_true_eq]
      rintro rfl
      exact hn.1 (List.mem_map.2 ⟨e, he, rfl⟩)
    | succ j =>
      simp at hj
      have hne : y.1 ≠ x := by
        rintro rfl
        exact hn.1 (List.mem_map.2 ⟨_, List.mem_of_getElem? hj, rfl⟩)
      simp only [List.eraseIdx_cons_succ, del, List.filter_cons]
      simp only [ne_eq, hne, not_false_eq_true, decide_true, if_true]
      rw [ih hn.2 hj]
      rfl

theorem mapAt_del {w w' : World} {b clock : Nat} {l : List (Ent κ)} (h : MapAt N w b l clock) (x : κ) (hw : w'.heap[b]? = some (.map (ents N.enc (del l x)).toArray clock)) : MapAt N w' b (del l x) clock :=
  ⟨hw, fun e he => h.ok e (List.mem_filter.1 he).1, (List.filter_sublist.map _).nodup h.nodup, fun e he => h.born e (List.mem_filter.1 he).1, (List.filter_sublist.map _).nodup h.bnodup⟩

theorem del_none {l : List (Ent κ)} {x : κ} (h : x ∉ l.map (·.1)) : del l x = l := by
  unfold del
  rw [List.filter_eq_self]
  intro e he
  simp only [decide_eq_true_eq]
  rintro rfl
  exact h (List.mem_map.2 ⟨e, he, rfl⟩)

theorem run_delete {w : World} {b clock : Nat} {l : List (Ent κ)} (h : MapAt N w b l clock) {x : κ} (hx : N.ok x) {T E K' : TypeId} (ht : P.underlying T = some (.map K E)) (ty : TypeId) :
    (Builtin.delete_ #[T, K'] ty #[.map (some b), N.enc x]).run P w = .ok (.tuple #[]) (setBlock w b (.map (ents N.enc (del l x)).toArray clock)) ∧
    MapAt N (setBlock w b (.map (ents N.enc (del l x)).toArray clock)) b (del l x) clock := by
  have hlt : b < w.heap.size := by
    rcases Nat.lt_or_ge b w.heap.size with h' | h'
    · exact h'
    · have := h.blk; rw [Array.getElem?_eq_none h'] at this; cases this
  refine ⟨?_, mapAt_del N h x (setBlock_heap _ _ _ hlt)⟩
  obtain ⟨lx, hlx⟩ := N.reads x hx
  have hset : ∀ o : Obj, (setObj b o).run P w = .ok () (setBlock w b o) := by
    intro o; simp [setObj, Sem.run, h.blk, setBlock]
  unfold Builtin.delete_
  simp only [Sem.run_bind, run_underlying ht, Result.andThen, getObj, Sem.run, h.blk, N.law.check w _ hlx, List.getElem?_toArray, List.getElem?_cons_zero, List.getElem?_cons_succ]
  rcases find_cases N h (w' := w) hx with ⟨h1, h2⟩ | ⟨j, u, bn, h1, h2⟩
  · simp only [h1, Sem.run_bind, Result.andThen, hset, del_none h2, Sem.run_pure]
  · have := ents_del N.enc h.nodup h2
    simp only [h1, Sem.run_bind, Result.andThen, hset, Sem.run_pure]
    rw [show (ents N.enc l).toArray.eraseIdxIfInBounds j = (ents N.enc (del l x)).toArray by
      rw [← this]; simp [ents, ChangeMaps.map_eraseIdx]]

end
end
end Go.Proofs.Ytfmehahjjgalfaa.MR
