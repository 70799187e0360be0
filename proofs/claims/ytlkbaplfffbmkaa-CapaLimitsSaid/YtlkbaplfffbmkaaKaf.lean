/- A region that draws its order, in which things are read ahead of one operation t that writes what was read. -/
import Derived.Test.YtlkbaplfffbmkaaKaa
import Derived.Test.YtlkbaplfffbmkaaKae
namespace Go.Proofs.Ytlkbaplfffbmkaa
open Go Go.RowKit

section
variable {P : Program} {ops : Array Oper} {md : Region.Mode} {S : World → Prop}

/-- whatever order is picked: S holds behind every operation but t -/
def wpAnyT (P : Program) (md : Region.Mode) (ops : Array Oper) (Q : Exit → Act → World → Prop) (t : Nat) (S : World → Prop) : Nat → Array Bool → Act → World → Prop
  | 0, l0, a, w => Region.ready md ops l0 = [] ∧ Q .normal a w
  | f + 1, l0, a, w => (Region.ready md ops l0 = [] → Q .normal a w) ∧ ∀ j ∈ Region.ready md ops l0, wpOp P ops Q j (fun a' w' => (j ≠ t → S w') ∧ wpAnyT P md ops Q t S f (l0.setIfInBounds j true) a' w') a w
theorem any_of_T {Q : Exit → Act → World → Prop} {t : Nat} : ∀ (f : Nat) (l0 : Array Bool) (a : Act) (w : World), wpAnyT P md ops Q t S f l0 a w → wpAny P md ops Q f l0 a w
  | 0, _, _, _, h => h
  | f + 1, _, _, _, h => ⟨h.1, fun j hj => wpOp_mono (fun a' w' h' => any_of_T f _ a' w' h'.2) (h.2 j hj)⟩
theorem T_first {Q : Exit → Act → World → Prop} {t i : Nat} {oi : Oper} {v : Value} {l0 : Array Bool} (hi : ops[i]? = some oi) (hsel : ∀ (j : Nat) (o : Oper) cs b, ops[j]? = some o → o.op ≠ .select cs b) (hQ : ∀ c (a : Act) w, Q (.panic c) (a.put oi.dst v) w → Q (.panic c) a w) (hit : i ∈ ancs md ops t) (f : Nat) :
    ∀ (listed : Array Bool) (a : Act) (w : World), SInv md ops l0 listed →
      (∀ j oj, ops[j]? = some oj → j ≠ i → listed.getD j true = false → (∀ e ∈ oj.after, Region.binds md e = true → e.on ≠ i) → oi.apart ops oj = true) →
      i ∈ Region.ready md ops listed → YieldsIf P ops S oi v a → S w → wpAnyT P md ops Q t S f (listed.setIfInBounds i true) (a.put oi.dst v) w → wpAnyT P md ops Q t S (f + 1) listed a w := by
  induction f with
  | zero =>
    intro listed a w inv _ hr hy hS H
    refine ⟨fun h => (by rw [h] at hr; cases hr), fun j hj => ?_⟩
    by_cases hji : j = i
    · subst hji; exact hy.wpOp hi hS ⟨fun _ => hS, H⟩
    · have h1 := ready_mono hj hji
      rw [H.1] at h1; cases h1
  | succ f ih =>
    intro listed a w inv hfree hr hy hS H
    refine ⟨fun h => (by rw [h] at hr; cases hr), fun j hj => ?_⟩
    have hun := (mem_ready.1 hr).1
    by_cases hji : j = i
    · subst hji; exact hy.wpOp hi hS ⟨fun _ => hS, H⟩
    obtain ⟨hjun, oj, hoj, hall⟩ := mem_ready.1 hj
    have hjt : j ≠ t := by
      rintro rfl
      have := inv.ancs hj i hit
      rw [getD_both hun] at this; cases this
    have hnot : ∀ e ∈ oj.after, Region.binds md e = true → e.on ≠ i := by
      intro e he hb heq
      have h1 := hall e he hb
      rw [heq, getD_both hun] at h1
      cases h1
    have h2 := wpOp_putIf hoj (hfree j oj hoj hji hjun hnot) (fun cs b => hsel i oi cs b hi) (fun cs b => hsel j oj cs b hoj) hQ hy (H.2 j (ready_mono hj hji))
    refine wpOp_mono (fun a' w' h3 => ⟨h3.2.1, ih (listed.setIfInBounds j true) a' w' (inv.set hj) ?_ (ready_mono hr (Ne.symm hji)) h3.1 (h3.2.1 hjt) ?_⟩) h2
    · intro k ok hk hki hun' hno
      refine hfree k ok hk hki ?_ hno
      by_cases hjk : j = k
      · subst hjk; exact hjun
      · rw [getD_set_ne true hjk] at hun'; exact hun'
    · rw [Array.setIfInBounds_comm _ _ hji]; exact h3.2.2
def readsB (md : Region.Mode) (ops : Array Oper) (t : Nat) (hd : List Nat) (l0 : Array Bool) : Bool := Region.noSelect ops && closedB md ops l0 && hd.all (fun i => (ancs md ops t).contains i) && pureS md ops hd l0
theorem readsT_go {Q : Exit → Act → World → Prop} {t g : Nat} {w : World} (hsel : Region.noSelect ops = true) (hS : S w) (hQ : ∀ c (a : Act) d v w, Q (.panic c) (a.put d v) w → Q (.panic c) a w) {l1 : Array Bool} : ∀ (hd : List Nat) (l0 : Array Bool) (a : Act), SInv md ops l1 l0 → (∀ i ∈ hd, i ∈ ancs md ops t) → pureS md ops hd l0 = true → wpRead P ops S (fun a' => wpAnyT P md ops Q t S g (setAll hd l0) a' w) (pick ops.toList hd) a → wpAnyT P md ops Q t S (hd.length + g) l0 a w
  | [], l0, a, _, _, _, h => by rw [List.length_nil, Nat.zero_add]; exact h
  | i :: r, l0, a, inv, ht, hB, h => by
    simp only [pureS, Bool.and_eq_true] at hB
    obtain ⟨⟨hr, hf⟩, hB'⟩ := hB
    have hr' : i ∈ Region.ready md ops l0 := by simpa using hr
    obtain ⟨o, ho⟩ := ready_lt (md := md) (ops := ops) (listed := l0) (i := i) hr'
    have hp : pick ops.toList (i :: r) = o :: pick ops.toList r := by simp [pick, List.getD_eq_getElem?_getD, ho]
    rw [hp] at h
    rw [List.length_cons, Nat.succ_add]
    unfold wpRead at h
    by_cases hw : Region.wanted o (yielded ops a.tmps) = true
    · rw [if_pos hw] at h
      obtain ⟨v, hv, hrest⟩ := h
      exact T_first ho (Region.noSelect_spec hsel) (fun c a w => hQ c a _ _ w) (ht i (by simp)) _ l0 a w inv (Region.free_spec ho hf) hr' (.inl ⟨hw, hv⟩) hS (readsT_go hsel hS hQ r _ _ (inv.set hr') (fun j hj => ht j (by simp [hj])) hB' hrest)
    · rw [if_neg hw] at h
      exact T_first ho (Region.noSelect_spec hsel) (fun c a w => hQ c a _ _ w) (ht i (by simp)) _ l0 a w inv (Region.free_spec ho hf) hr' (.inr ⟨by simpa using hw, rfl⟩) hS (readsT_go hsel hS hQ r _ _ (inv.set hr') (fun j hj => ht j (by simp [hj])) hB' h)
/-- those that only read what S says may be taken first, if t waits for them -/
theorem T_reads {Q : Exit → Act → World → Prop} {t g n : Nat} (hd : List Nat) (hn : hd.length + g = n) {l0 : Array Bool} {a : Act} {w : World} (hB : readsB md ops t hd l0 = true) (hS : S w) (hQ : ∀ c (a : Act) d v w, Q (.panic c) (a.put d v) w → Q (.panic c) a w)
    (h : wpRead P ops S (fun a' => wpAnyT P md ops Q t S g (setAll hd l0) a' w) (pick ops.toList hd) a) : wpAnyT P md ops Q t S n l0 a w := by
  subst hn
  simp only [readsB, Bool.and_eq_true] at hB
  exact readsT_go hB.1.1.1 hS hQ hd l0 a (sinv_of hB.1.1.2) (fun i hi => by simpa using List.all_eq_true.1 hB.1.2 i hi) hB.2 h
/-- one that comes up alone -/
theorem T_one {Q : Exit → Act → World → Prop} {t g : Nat} (i : Nat) {l0 : Array Bool} {a : Act} {w : World} (hB : decide (Region.ready md ops l0 = [i]) = true)
    (h : wpList P ops (Exit.then (fun a' w' => (i ≠ t → S w') ∧ wpAnyT P md ops Q t S g (l0.setIfInBounds i true) a' w') Q) (pick ops.toList [i]) a w) : wpAnyT P md ops Q t S (g + 1) l0 a w := by
  have hr : Region.ready md ops l0 = [i] := by simpa using hB
  obtain ⟨o, ho⟩ := ready_lt (md := md) (ops := ops) (listed := l0) (i := i) (by rw [hr]; simp)
  refine ⟨fun h0 => (by rw [h0] at hr; cases hr), ?_⟩
  rw [hr]
  intro j hj
  obtain rfl : j = i := by simpa using hj
  have hp : pick ops.toList [j] = [o] := by simp [pick, List.getD_eq_getElem?_getD, ho]
  rw [hp] at h
  unfold wpOp
  simp only [ho]
  unfold wpList at h
  by_cases hw : Region.wanted o (yielded ops a.tmps) = true
  · rw [if_pos hw] at h ⊢
    refine h.imp (fun h => wp_then (Oper.wp_mono (fun a' w' h' => h') h)) (fun h => ⟨h.1, let ⟨a, w, h⟩ := h.2; ⟨a, w, h⟩⟩)
  · rw [if_neg hw] at h ⊢
    exact h
theorem T_done {Q : Exit → Act → World → Prop} {t : Nat} {l0 : Array Bool} {a : Act} {w : World} (hr : Region.ready md ops l0 = []) (h : Q .normal a w) : ∀ f, wpAnyT P md ops Q t S f l0 a w
  | 0 => ⟨hr, h⟩
  | _ + 1 => ⟨fun _ => h, by rw [hr]; simp⟩
theorem wp_region_T {id : Nat} {Q : Exit → Act → World → Prop} {a : Act} {w : World} {l : List Oper} (t : Nat) (S : World → Prop) (hm : P.follows .mixedOrders = true)
    (h : wpAnyT P .any l.toArray Q t S l.length (Array.replicate l.length false) a w.drew) : (Code.region id l.toArray true).wp P Q a w := by
  refine wp_region_any hm ?_
  simpa using any_of_T _ _ _ _ h
end
end Go.Proofs.Ytlkbaplfffbmkaa
/- The reference's capa in memory; its New. -/
namespace Go.Proofs.Ytlkbaplfffbmkaa
open Go.RowKit

def RCy : Rep Cy := ⟨69, 3, by decide, fun x => [.int .i64 x.id, .int .i64 x.cp, .bool x.dr], fun _ => rfl, fun _ => rfl⟩
theorem T64 : Rep.Ty Try.prog 53 RCy 24 := Rep.Ty.mk' (z := .agg #[.int .i64 0, .int .i64 0, .bool false]) Try.underlying53 (by kernel_rfl) rfl
def cy0 (x : If) : Cy := ⟨x.id, x.cp, false⟩
/-- its block -/
structure RefX (w : World) (base x : Nat) (v : Value) : Prop where
  lt : x < base
  out : ∃ cs, w.heap[x]? = some (.cells cs 67 (0, 0)) ∧ cs.size = 33 ∧ cs[0]? = some v ∧ (∀ j, 1 ≤ j → j < 33 → ∃ s, cs[j]? = some (.int .i64 s))
theorem RefX.on {w w' : World} {base x : Nat} {v : Value} (H : RefX w base x v) (h : w'.heap[x]? = w.heap[x]?) : RefX w' base x v := by
  obtain ⟨cs, h1, h2⟩ := H.out
  exact ⟨H.lt, cs, h.trans h1, h2⟩
/-- the reference's capa -/
structure RefB (w : World) (base x : Nat) (L : List Cy) : Prop where
  lt : x < base
  out : ∃ cs v, w.heap[x]? = some (.cells cs 67 (0, 0)) ∧ cs.size = 33 ∧ cs[0]? = some v ∧ (∀ j, 1 ≤ j → j < 33 → ∃ s, cs[j]? = some (.int .i64 s)) ∧ RCy.Own w base v L
theorem RefB.keep {w w' : World} {base x : Nat} {L : List Cy} (H : RefB w base x L) (hb : Below w.heap.size w w') : RefB w' base x L := by
  obtain ⟨cs, v, h1, h2, h3, h4, h5⟩ := H.out
  exact ⟨H.lt, cs, v, (hb.block _ (lt_of_blk h1)).trans h1, h2, h3, h4, h5.below hb⟩
theorem RefB.setInt {w w' : World} {base x : Nat} {L : List Cy} (H : RefB w base x L) {j : Nat} (h1 : 1 ≤ j) {s : Int} (hw : w' = w.setCell ⟨x, j, none⟩ (.int .i64 s)) : RefB w' base x L ∧ But w w' [x] := by
  subst hw
  obtain ⟨cs, v, c1, c2, c3, c4, c5⟩ := H.out
  have hs := (SetB.self c1).store (o := j) (lt_of_blk c1) (.int .i64 s)
  refine ⟨⟨H.lt, cs.setIfInBounds j (.int .i64 s), v, hs.at (lt_of_blk c1), by simpa using c2, ?_, fun k h3 h4 => ?_, ?_⟩, But.of_set hs (by simp)⟩
  · rw [Array.getElem?_setIfInBounds, if_neg (by omega)]; exact c3
  · rw [Array.getElem?_setIfInBounds]
    by_cases e : j = k
    · subst e; rw [if_pos rfl, if_pos (by omega)]; exact ⟨s, rfl⟩
    · rw [if_neg e]; exact c4 k h3 h4
  · refine c5.keep fun b hb => hs.other fun e => ?_
    subst e
    rcases c5.cases with ⟨rfl, -⟩ | ⟨g, cap, rfl, hg, -⟩
    · cases hb
    · injection hb with hb; have := H.lt; dsimp only at hb; omega
theorem RefX.setL {w w' : World} {base x : Nat} {M : List Cy} {v0 : Value} (H : RefX w base x v0) {v : Value} (hv : RCy.Own w base v M) (hw : w' = w.setCell ⟨x, 0, none⟩ v) : RefB w' base x M ∧ But w w' [x] := by
  subst hw
  obtain ⟨cs, c1, c2, c3, c4⟩ := H.out
  have hs := (SetB.self c1).store (o := 0) (lt_of_blk c1) v
  refine ⟨⟨H.lt, cs.setIfInBounds 0 v, v, hs.at (lt_of_blk c1), by simpa using c2, ?_, fun k h3 h4 => ?_, ?_⟩, But.of_set hs (by simp)⟩
  · rw [Array.getElem?_setIfInBounds, if_pos rfl, if_pos (by omega)]
  · rw [Array.getElem?_setIfInBounds, if_neg (by omega)]
    exact c4 k h3 h4
  · refine hv.keep fun b hb => hs.other fun e => ?_
    subst e
    rcases hv.cases with ⟨rfl, -⟩ | ⟨g, cap, rfl, hg, -⟩
    · cases hb
    · injection hb with hb; have := H.lt; dsimp only at hb; omega
def RnS (x : Nat) (v : Value) (b o : Nat) (y : If) (w : World) : Prop := w.cell? ⟨x, 0, none⟩ = some v ∧ w.frozen? ⟨x, 0, none⟩ = false ∧ w.cell? ⟨b, o, none⟩ = some (.int .i64 y.id) ∧ w.cell? ⟨b, o + 4, none⟩ = some (.int .i64 y.cp)
theorem RnS.on {x : Nat} {v : Value} {b o : Nat} {y : If} {w w' : World} (H : RnS x v b o y w) (h1 : w'.heap[x]? = w.heap[x]?) (h2 : w'.heap[b]? = w.heap[b]?) : RnS x v b o y w' :=
  ⟨(cell_same h1).trans H.1, (World.frozen?_of_block (a := ⟨x, 0, none⟩) h1).trans H.2.1, (cell_same h2).trans H.2.2.1, (cell_same h2).trans H.2.2.2⟩
set_option maxRecDepth 100000 in
set_option maxHeartbeats 2000000 in
theorem rcnew_any {w : World} {oa : Option Addr} {n c : Nat} {l : List If} (h : Ifs w oa n c l) (hn : n ≤ 4294967296) : Calls Try.prog 24 #[.slice oa n c] w fun e w' => ∃ x base, e = .returned (.pointer (some ⟨x, 0, none⟩)) ∧ RefB w' base x ((sortI l).map cy0) ∧ Below w.heap.size w w' ∧ w.heap.size ≤ x := by
  have HL := Lib.hid h.sl.len
  have hal := (Below.refl w.heap.size w).alloc (Nat.le_refl _) (.cells #[.slice none 0 0, .int .i64 0, .int .i64 0, .int .i64 0, .int .i64 0, .int .i64 0, .int .i64 0, .int .i64 0, .int .i64 0, .int .i64 0, .int .i64 0, .int .i64 0, .int .i64 0, .int .i64 0, .int .i64 0, .int .i64 0, .int .i64 0, .int .i64 0, .int .i64 0, .int .i64 0, .int .i64 0, .int .i64 0, .int .i64 0, .int .i64 0, .int .i64 0, .int .i64 0, .int .i64 0, .int .i64 0, .int .i64 0, .int .i64 0, .int .i64 0, .int .i64 0, .int .i64 0] 67)
  have HS := Lib.hid (rsort_any (h.keep hal) hn)
  have h0 : (w.alloc (.cells #[.slice none 0 0, .int .i64 0, .int .i64 0, .int .i64 0, .int .i64 0, .int .i64 0, .int .i64 0, .int .i64 0, .int .i64 0, .int .i64 0, .int .i64 0, .int .i64 0, .int .i64 0, .int .i64 0, .int .i64 0, .int .i64 0, .int .i64 0, .int .i64 0, .int .i64 0, .int .i64 0, .int .i64 0, .int .i64 0, .int .i64 0, .int .i64 0, .int .i64 0, .int .i64 0, .int .i64 0, .int .i64 0, .int .i64 0, .int .i64 0, .int .i64 0, .int .i64 0, .int .i64 0] 67)).heap[w.heap.size]? = some (.cells #[.slice none 0 0, .int .i64 0, .int .i64 0, .int .i64 0, .int .i64 0, .int .i64 0, .int .i64 0, .int .i64 0, .int .i64 0, .int .i64 0, .int .i64 0, .int .i64 0, .int .i64 0, .int .i64 0, .int .i64 0, .int .i64 0, .int .i64 0, .int .i64 0, .int .i64 0, .int .i64 0, .int .i64 0, .int .i64 0, .int .i64 0, .int .i64 0, .int .i64 0, .int .i64 0, .int .i64 0, .int .i64 0, .int .i64 0, .int .i64 0, .int .i64 0, .int .i64 0, .int .i64 0] 67) := hnew _ _
  have F := Lib.hid (And.intro hal h0)
  clear h hal h0
  go_enter Try.func24, Try.ntmps24
  go_wp2_with fail
  refine (HS.out).mono ?_
  rintro e W ⟨v4, rfl, hown4, hb4⟩
  have hML : (sortI l).length = n := by rw [sortI_length]; exact HL.out.symm
  obtain ⟨a4, c4, rfl, hsl4, -⟩ := hown4.sl0
  rw [hML] at hsl4 ⊢
  have hbW := F.out.1.trans (hb4.mono (by simp))
  have hx1 : W.heap[w.heap.size]? = some (.cells #[.slice none 0 0, .int .i64 0, .int .i64 0, .int .i64 0, .int .i64 0, .int .i64 0, .int .i64 0, .int .i64 0, .int .i64 0, .int .i64 0, .int .i64 0, .int .i64 0, .int .i64 0, .int .i64 0, .int .i64 0, .int .i64 0, .int .i64 0, .int .i64 0, .int .i64 0, .int .i64 0, .int .i64 0, .int .i64 0, .int .i64 0, .int .i64 0, .int .i64 0, .int .i64 0, .int .i64 0, .int .i64 0, .int .i64 0, .int .i64 0, .int .i64 0, .int .i64 0, .int .i64 0] 67) := (hb4.block _ (lt_of_blk F.out.2)).trans F.out.2
  have hxW : w.heap.size < W.heap.size := lt_of_blk hx1
  have hblk : ∀ b o, a4 = some ⟨b, o, none⟩ → b ≠ w.heap.size := by
    intro b o e
    rcases hown4.cases with ⟨h1, -⟩ | ⟨g, cap, h1, hg, -⟩
    · injection h1 with h1; rw [h1] at e; cases e
    · injection h1 with h1; rw [h1] at e; injection e with e; injection e with e1 e2 e3; subst e1
      rw [show ∀ o, (w.alloc o).heap.size = w.heap.size + 1 from fun o => by simp] at hg
      omega
  have hR : RefB W W.heap.size w.heap.size (((sortI l).take 0).map cy0) := ⟨hxW, _, _, hx1, rfl, rfl, fun j h1 h2 => by
    have : j = 1 ∨ j = 2 ∨ j = 3 ∨ j = 4 ∨ j = 5 ∨ j = 6 ∨ j = 7 ∨ j = 8 ∨ j = 9 ∨ j = 10 ∨ j = 11 ∨ j = 12 ∨ j = 13 ∨ j = 14 ∨ j = 15 ∨ j = 16 ∨ j = 17 ∨ j = 18 ∨ j = 19 ∨ j = 20 ∨ j = 21 ∨ j = 22 ∨ j = 23 ∨ j = 24 ∨ j = 25 ∨ j = 26 ∨ j = 27 ∨ j = 28 ∨ j = 29 ∨ j = 30 ∨ j = 31 ∨ j = 32 := by omega
    rcases this with rfl | rfl | rfl | rfl | rfl | rfl | rfl | rfl | rfl | rfl | rfl | rfl | rfl | rfl | rfl | rfl | rfl | rfl | rfl | rfl | rfl | rfl | rfl | rfl | rfl | rfl | rfl | rfl | rfl | rfl | rfl | rfl <;> exact ⟨0, rfl⟩, Rep.Own.nil _ _⟩
  have HB := Lib.hid (And.intro hbW (And.intro hsl4 (And.intro hblk hR)))
  obtain ⟨M, hM⟩ : ∃ M, M = sortI l := ⟨_, rfl⟩
  rw [← hM] at HB hML
  have HM := Lib.hid hM
  clear hM
  clear hown4 hb4 hx1 hblk hR hbW hsl4 F HS
  have hmax : n ≤ maxLen := by unfold maxLen; omega
  go_wp2_with fail
  go_loopw [5] (fun iv wr => ∃ i : Nat, i ≤ n ∧ iv = .int .i64 i ∧ RefB wr W.heap.size w.heap.size ((M.take i).map cy0) ∧ But W wr [w.heap.size]) (fun iv _ => n - (intOf iv).toNat)
  case atStart => exact ⟨0, Nat.zero_le _, rfl, HB.out.2.2.2, But.refl _ _⟩
  case round =>
    obtain ⟨i, hi, rfl, hr, hbt⟩ := hrel
    obtain ⟨w2, rfl⟩ : ∃ w2 : World, w2 = wr := ⟨_, rfl⟩
    by_cases hlt : i < n
    · have hil : ((i : Int) < (n : Int)) = True := by simp; omega
      have hw3 := wrapS hlt hmax
      have hwsz : W.heap.size ≤ w2.heap.size := hbt.size
      obtain ⟨cs, v, k1, k2, k3, k4, k5⟩ := hr.out
      obtain ⟨b, o, hbb, hrow⟩ := HB.out.2.1.row (by omega)
      subst hbb
      have hbx := HB.out.2.2.1 b o rfl
      have hbW := hrow.lt
      have hrow2 : RIf.Row w2 b o M := hrow.keep (hbt.block b hrow.lt (by simp; exact hbx))
      have hat := hrow2.get i (by omega)
      have y0 := hat 0 (by decide)
      have y3 := hat 4 (by decide)
      simp only [RIf, Nat.add_zero, List.getElem?_cons_zero, List.getElem?_cons_succ] at y0 y3
      have t1 := take_map_succ cy0 M (i := i) (by omega)
      generalize M.getD i default = y at *
      have hS : RnS w.heap.size v b (o + i * 5) y w2 := ⟨cell_of k1 k3, free_of k1, y0, y3⟩
      have hd := (Below.refl w2.heap.size w2).drew
      have G := Lib.hid (And.intro (show RefX w2.drew W.heap.size w.heap.size v from ⟨hr.lt, cs, k1, k2, k3, k4⟩) (And.intro (hbt.drew) (And.intro (show RnS w.heap.size v b (o + i * 5) y w2.drew from hS) (And.intro (show RCy.Own w2.drew W.heap.size v ((M.take i).map cy0) from k5) (And.intro hbx hbW)))))
      have hml : ((M.take i).map cy0).length = i := by rw [List.length_map, List.length_take]; omega
      clear hr hbt k1 k2 k3 k4 k5 hrow hrow2 hat y0 y3 hS hd hbx hbW
      go_wp2_with fail
      refine wp_region_T 20 (RnS w.heap.size v b (o + i * 5) y) (by kernel_rfl) ?_
      generalize w2.drew = w3 at *
      have hwsz : W.heap.size ≤ w3.heap.size := G.out.2.1.size
      refine T_reads [0, 1, 2, 3, 4, 5, 6, 7, 8, 9, 10, 11, 12, 13, 14, 15] (g := 5) rfl (by kernel_rfl) G.out.2.2.1 (fun _ _ d _ _ h => by cases d <;> exact h) ?_
      simp only [pick, List.getD_cons_zero, List.getD_cons_succ]
      iterate 16 ((with_reducible refine wpRead_step (fun K hK => ?_)); go_simp; first | ((with_reducible refine hK _ ?_); clear hK K) | (apply Exists.intro; (with_reducible refine ⟨fun w' hw' => ?_, hK _ ?_⟩); (obtain ⟨f0, f1, f2, f3⟩ := hw'; go_simp; first | exact rfl | exact ⟨rfl, rfl⟩); clear hK K))
      with_reducible refine wpRead_nil ?_
      refine T_one 16 (by kernel_rfl) ?_
      simp only [pick, List.getD_cons_zero, List.getD_cons_succ]
      go_wp2_with fail
      have hal := (Below.refl w3.heap.size w3).alloc (Nat.le_refl _) (.cells #[.int .i64 y.id, .int .i64 y.cp, .bool false] 69)
      have hone : RCy.Sl (w3.alloc (.cells #[.int .i64 y.id, .int .i64 y.cp, .bool false] 69)) (some ⟨w3.heap.size, 0, none⟩) 1 1 [cy0 y] := Rep.sl_one (R := RCy) (y := cy0 y) (hnew _ _)
      have hx3 : w.heap.size < w3.heap.size := by omega
      have hb3 : b < w3.heap.size := by have := G.out.2.2.2.2.2; omega
      have G := Lib.hid (And.intro (G.out.1.on (hal.block _ hx3)) (And.intro (G.out.2.1.alloc (.cells #[.int .i64 y.id, .int .i64 y.cp, .bool false] 69)) (And.intro (G.out.2.2.1.on (hal.block _ hx3) (hal.block _ hb3)) (And.intro (G.out.2.2.2.1.below hal) (And.intro G.out.2.2.2.2.1 (And.intro G.out.2.2.2.2.2 hone))))))
      clear hal hone hx3 hb3
      generalize w3.alloc (.cells #[.int .i64 y.id, .int .i64 y.cp, .bool false] 69) = w4 at *
      generalize w3.heap.size = q3 at *
      have hwsz : W.heap.size ≤ w4.heap.size := G.out.2.1.size
      refine ⟨fun _ => G.out.2.2.1, ?_⟩
      refine T_one 17 (by kernel_rfl) ?_
      simp only [pick, List.getD_cons_zero, List.getD_cons_succ]
      go_wp2_with (at_builtin; refine halt ?_)
      refine Halted.go ?_
      refine Rep.append_list T64 rfl _ _ rfl rfl G.out.2.2.2.1 rfl G.out.2.2.2.2.2.2 (fun e => by cases e) (by rw [hml]; unfold maxLen; omega) (by rw [hml]; omega) hwsz ?_
      intro v5 w5 hown5 hb5 _
      rw [← t1] at hown5
      obtain ⟨a5, c5, rfl, -⟩ := hown5.sl0
      have hl1 : ((M.take (i + 1)).map cy0).length = i + 1 := by rw [List.length_map, List.length_take]; omega
      rw [hl1] at hown5 ⊢
      have hbt5 : But W w5 [w.heap.size] := Rep.But.step G.out.2.1 hb5 (Nat.le_refl _)
      have G := Lib.hid (And.intro (G.out.1.on (hb5.block _ hxW)) (And.intro hbt5 (And.intro (G.out.2.2.1.on (hb5.block _ hxW) (hb5.block _ G.out.2.2.2.2.2.1)) hown5)))
      clear hown5 hb5 hbt5
      go_wp2_with fail
      refine ⟨fun _ => G.out.2.2.1, ?_⟩
      refine T_one 18 (by kernel_rfl) ?_
      simp only [pick, List.getD_cons_zero, List.getD_cons_succ]
      go_wp2_with fail
      refine ⟨fun _ => G.out.2.2.1, ?_⟩
      refine T_one 19 (by kernel_rfl) ?_
      simp only [pick, List.getD_cons_zero, List.getD_cons_succ]
      go_wp2_with fail
      refine ⟨fun _ => G.out.2.2.1, ?_⟩
      refine T_one 20 (by kernel_rfl) ?_
      simp only [pick, List.getD_cons_zero, List.getD_cons_succ]
      obtain ⟨f0, f1, f2, f3⟩ := G.out.2.2.1
      have hset := G.out.1.setL G.out.2.2.2 rfl
      have G := Lib.hid (And.intro hset.1 (G.out.2.1.trans hset.2))
      clear hset
      go_wp2_with fail
      refine ⟨fun h => absurd rfl h, ?_⟩
      refine T_done (by kernel_rfl) ?_ _
      go_wp2_with fail
      exact ⟨⟨i + 1, hlt, by first | rw [hw3] | rw [Int.natCast_succ], G.out.1, G.out.2⟩, by first | (rw [hw3]; exact mSucc hlt) | (rw [← Int.natCast_succ]; exact mSucc hlt)⟩
    · obtain rfl : n = i := by omega
      have hil : ((n : Int) < (n : Int)) = False := by simp
      rw [List.take_of_length_le (by rw [hML]; exact Nat.le_refl _)] at hr
      have G := Lib.hid (And.intro hr hbt)
      have HBW := Lib.hid HB.out.1
      clear hr hbt HB
      go_wp2_with fail
      go_loopw [6] (fun kv wr => ∃ k : Nat, k ≤ 16 ∧ kv = .int .i64 k ∧ RefB wr W.heap.size w.heap.size (M.map cy0) ∧ But W wr [w.heap.size]) (fun kv _ => 16 - (intOf kv).toNat)
      case atStart => exact ⟨0, Nat.zero_le _, rfl, G.out⟩
      case round =>
        obtain ⟨k, hk, rfl, hr, hbt⟩ := hrel
        by_cases hkt : k < 16
        · have hkl : ((k : Int) < 16) = True := by simp; omega
          have hk0 : ((0 : Int) ≤ (k : Int)) = True := by simp
          have hwk := wrapS hkt (by decide)
          obtain ⟨cs, v, k1, k2, k3, k4, k5⟩ := hr.out
          obtain ⟨s, hs⟩ := k4 (1 + k) (by omega) (by omega)
          have e0 : wr.cell? ⟨w.heap.size, 1 + k, none⟩ = some (.int .i64 s) := cell_of k1 hs
          have f0 : wr.frozen? ⟨w.heap.size, 1 + k, none⟩ = false := free_of k1
          have hset := hr.setInt (j := 1 + k) (by omega) (s := -1) rfl
          have G2 := Lib.hid (And.intro hset.1 (hbt.trans hset.2))
          clear hr hbt k1 k2 k3 k4 k5 hs hset G
          go_wp2_with fail
          exact ⟨⟨k + 1, hkt, by first | rw [hwk] | rw [Int.natCast_succ], G2.out.1, G2.out.2⟩, by first | (rw [hwk]; exact mSucc hkt) | (rw [← Int.natCast_succ]; exact mSucc hkt)⟩
        · obtain rfl : k = 16 := by omega
          have G2 := Lib.hid (And.intro hr (HBW.out.trans (hbt.below (Nat.le_of_lt hxW) (by simp))))
          clear hr hbt G
          go_wp2_with fail
          go_ret
          exact ⟨_, _, rfl, HM.out ▸ G2.out.1, G2.out.2, Nat.le_refl _⟩
end Go.Proofs.Ytlkbaplfffbmkaa
/- What a source says: which may be; within; none is odd. -/
namespace Go.Proofs.Ytlkbaplfffbmkaa
open Go.RowKit

def okC (y : Cy) : Bool := (decide (0 ≤ y.id) && decide (y.id ≤ 4294967295)) && (decide (0 ≤ y.cp) && decide (y.cp ≤ 9007199254740991))
def okCs (src seq : Int) (L : List Cy) : Bool := (decide (0 ≤ src) && decide (src ≤ 15)) && (decide (0 ≤ seq) && decide (seq ≤ 9007199254740991)) && decide (L.length ≤ 256) && decide ((L.map Cy.id).Nodup) && L.all okC
def addId (S : List Int) (x : Int) : List Int := if x ∈ S then S else S ++ [x]
def idsOf (L : List Int) : List Int := L.foldl addId []
theorem idsOf_snoc (L : List Int) (x : Int) : idsOf (L ++ [x]) = addId (idsOf L) x := by unfold idsOf; rw [List.foldl_append]; rfl
theorem idsOf_succ {L : List Cy} {i : Nat} (h : i < L.length) : idsOf ((L.take (i + 1)).map Cy.id) = addId (idsOf ((L.take i).map Cy.id)) (L.getD i default).id := by
  rw [take_map_succ Cy.id L h, idsOf_snoc]
theorem snoc_ind {P : List Int → Prop} (h0 : P []) (h1 : ∀ L x, P L → P (L ++ [x])) : ∀ L, P L := by
  intro L
  have : ∀ n (L : List Int), L.length = n → P L := by
    intro n
    induction n with
    | zero => intro L h; rw [List.length_eq_zero_iff.1 h]; exact h0
    | succ n ih =>
      intro L h
      have hne : L ≠ [] := by rintro rfl; simp at h
      rw [← List.dropLast_concat_getLast hne]
      exact h1 _ _ (ih _ (by simp; omega))
  exact this _ _ rfl
theorem idsOf_mem : ∀ (L : List Int) (y : Int), y ∈ idsOf L ↔ y ∈ L := by
  refine snoc_ind (fun y => Iff.rfl) fun L x ih y => ?_
  rw [idsOf_snoc]
  unfold addId
  split
  · rename_i h
    rw [ih, List.mem_append, List.mem_singleton]
    refine ⟨.inl, ?_⟩
    rintro (h1 | rfl)
    · exact h1
    · exact (ih _).1 h
  · rw [List.mem_append, List.mem_append, ih]
theorem idsOf_len : ∀ L : List Int, (L.Nodup → (idsOf L).length = L.length) ∧ (¬ L.Nodup → (idsOf L).length < L.length) ∧ (idsOf L).length ≤ L.length := by
  refine snoc_ind ⟨fun _ => rfl, fun h => absurd List.nodup_nil h, Nat.le_refl _⟩ fun L x ih => ?_
  obtain ⟨h1, h2, h3⟩ := ih
  rw [idsOf_snoc]
  unfold addId
  by_cases hx : x ∈ idsOf L
  · rw [if_pos hx]
    have hm := (idsOf_mem L x).1 hx
    refine ⟨fun h => ?_, fun _ => by simp; omega, by simp; omega⟩
    rw [List.nodup_append] at h
    exact absurd rfl (h.2.2 x hm x (by simp))
  · rw [if_neg hx]
    have hm : x ∉ L := fun h => hx ((idsOf_mem L x).2 h)
    refine ⟨fun h => ?_, fun h => ?_, by simp; omega⟩
    · rw [List.nodup_append] at h
      simp [h1 h.1]
    · have : ¬ L.Nodup := fun hn => h (by rw [List.nodup_append]; exact ⟨hn, by simp, fun a ha b hb => by simp at hb; subst hb; rintro rfl; exact hm ha⟩)
      simp
      exact h2 this
theorem put_ids {l : List (MR.Ent Int)} {x : Int} (v : Value) (c : Nat) : (MR.put l x v c).map (·.1) = addId (l.map (·.1)) x := by
  unfold MR.put addId
  split
  · rw [List.map_map]
    refine List.map_congr_left fun e _ => ?_
    simp only [Function.comp]
    split
    · rename_i h; exact h.symm
    · rfl
  · simp
/-- what a source says, in a slice -/
structure Cys (w : World) (oa : Option Addr) (n c : Nat) (L : List Cy) : Prop where
  sl : RCy.Sl w oa n c L
  ok : ∀ y ∈ L, IN.ok y.id
theorem Cys.keep {w w' : World} {oa : Option Addr} {n c : Nat} {L : List Cy} (h : Cys w oa n c L) (hb : Below w.heap.size w w') : Cys w' oa n c L := ⟨h.sl.keep hb, h.ok⟩
def CyS (b : Nat) (y : Cy) (w : World) : Prop := w.heap[b]? = some (.cells #[.int .i64 y.id, .int .i64 y.cp, .bool y.dr] 69)
theorem CyS.cells {b : Nat} {y : Cy} {w : World} (h : CyS b y w) : w.cell? ⟨b, 0, none⟩ = some (.int .i64 y.id) ∧ w.cell? ⟨b, 1, none⟩ = some (.int .i64 y.cp) ∧ w.cell? ⟨b, 2, none⟩ = some (.bool y.dr) := ⟨cell_of h rfl, cell_of h rfl, cell_of h rfl⟩
theorem CyS.on {b : Nat} {y : Cy} {w w' : World} (h : CyS b y w) (hb : Below w.heap.size w w') : CyS b y w' := (hb.block _ (lt_of_blk h)).trans h
theorem cwithin_any (n a b : Int) (w : World) : Calls Try.prog 49 #[.int .i64 n, .int .i64 a, .int .i64 b] w fun e w' => e = .returned (.bool (decide (a ≤ n) && decide (n ≤ b))) ∧ w' = w := by
  by_cases h1 : a ≤ n
  · by_cases h2 : n ≤ b
    · go_enter Try.func49, Try.ntmps49
      go_wp2_with fail
      go_ret
      exact ⟨by simp [h1, h2], rfl⟩
    · go_enter Try.func49, Try.ntmps49
      go_wp2_with fail
      go_ret
      exact ⟨by simp [h2], rfl⟩
  · go_enter Try.func49, Try.ntmps49
    go_wp2_with fail
    go_ret
    exact ⟨by rw [decide_eq_false (Int.not_le.2 h1)]; rfl, rfl⟩
set_option maxRecDepth 100000 in
theorem codd_any (y : Cy) (w : World) : Calls Try.prog 48 #[y.v] w fun e w' => e = .returned (.bool (!okC y)) ∧ Below w.heap.size w w' := by
  have hal := (Below.refl w.heap.size w).alloc (Nat.le_refl _) (.cells #[.int .i64 y.id, .int .i64 y.cp, .bool y.dr] 69)
  have hxs : CyS w.heap.size y (w.alloc (.cells #[.int .i64 y.id, .int .i64 y.cp, .bool y.dr] 69)) := hnew _ _
  have W1 := fun W => cwithin_any y.id 0 4294967295 W
  have W2 := fun W => cwithin_any y.cp 0 9007199254740991 W
  obtain ⟨b, hbk⟩ : ∃ b, okC y = b := ⟨_, rfl⟩
  rw [hbk]
  unfold okC at hbk
  generalize (decide (0 ≤ y.id) && decide (y.id ≤ 4294967295)) = b1 at *
  generalize (decide (0 ≤ y.cp) && decide (y.cp ≤ 9007199254740991)) = b2 at *
  subst hbk
  have H1 := Lib.hid W1
  have H2 := Lib.hid W2
  have F := Lib.hid (And.intro hal hxs)
  obtain ⟨z0, z1, z2⟩ := hxs.cells
  unfold Cy.v
  clear W1 W2 hal hxs
  go_enter Try.func48, Try.ntmps48
  go_wp2_with fail
  refine (H1.out _).mono ?_
  rintro e W1 ⟨rfl, hw1⟩
  generalize w.alloc (.cells #[.int .i64 y.id, .int .i64 y.cp, .bool y.dr] 69) = W at *
  subst W1
  cases b1 with
  | false =>
    go_wp2_with fail
    go_ret
    exact ⟨rfl, F.out.1⟩
  | true =>
    go_wp2_with fail
    refine (H2.out _).mono ?_
    rintro e W1 ⟨rfl, hw1⟩
    subst W1
    go_wp2_with fail
    go_ret
    exact ⟨by rw [Bool.true_and]; rfl, F.out.1⟩
theorem all_take_s {α : Type} [Inhabited α] (M : List α) (p : α → Bool) (k : Nat) (h : k < M.length) : (M.take (k + 1)).all p = ((M.take k).all p && p (M.getD k default)) := by
  rw [List.take_succ_eq_append_getElem h, List.all_append]
  simp [List.getD_eq_getElem?_getD, h]
set_option maxRecDepth 100000 in
set_option maxHeartbeats 1000000 in
theorem cindex_any {w : World} {oa : Option Addr} {n c : Nat} {L : List Cy} (h : RCy.Sl w oa n c L) : Calls Try.prog 64 #[.slice oa n c, .func (.func 48) #[] #[]] w fun e w' => (∃ k : Int, e = .returned (.int .i64 k) ∧ decide (0 ≤ k) = !(L.all okC)) ∧ Below w.heap.size w w' := by
  have HL := Lib.hid h.len
  have F := Lib.hid h
  have hmax := h.max
  clear h
  go_enter Try.func64, Try.ntmps64
  go_wp2_with fail
  go_loopw [8] (fun iv wr => ∃ i : Nat, i ≤ n ∧ iv = .int .i64 i ∧ (L.take i).all okC = true ∧ Below w.heap.size w wr) (fun iv _ => n - (intOf iv).toNat)
  case atStart => exact ⟨0, Nat.zero_le _, rfl, rfl, Below.refl _ _⟩
  case round =>
    obtain ⟨i, hi, rfl, hall, hb⟩ := hrel
    obtain ⟨w2, rfl⟩ : ∃ w2 : World, w2 = wr := ⟨_, rfl⟩
    by_cases hlt : i < n
    · have hil : ((i : Int) < (n : Int)) = True := by simp; omega
      have hw3 := wrapS hlt hmax
      have hlen : L.length = n := HL.out.symm
      obtain ⟨b0, o0, rfl, hbb, hat⟩ := (F.out.keep hb).at hlt
      have c0 := hat 0 (by decide)
      have c1 := hat 1 (by decide)
      have c2 := hat 2 (by decide)
      simp only [RCy, Nat.add_zero, List.getElem?_cons_zero, List.getElem?_cons_succ] at c0 c1 c2
      have t1 := all_take_s L okC i (by omega)
      rw [hall, Bool.true_and] at t1
      have hmem : L.getD i default ∈ L := getD_mem (by omega)
      have hox := codd_any (L.getD i default) w2
      generalize L.getD i default = y at *
      obtain ⟨bo, hbo⟩ : ∃ bo, okC y = bo := ⟨_, rfl⟩
      rw [hbo] at hox t1
      have HX := Lib.hid hox
      have HB := Lib.hid hb
      have HT := Lib.hid (And.intro t1 (And.intro hmem hbo))
      clear hox hb hat hlen t1 hmem hall hbo
      go_wp2_with fail
      refine (HX.out).mono ?_
      rintro e W3 ⟨rfl, hb3⟩
      have HB3 := Lib.hid (bcall HB.out (Nat.le_refl _) hb3)
      clear hb3 HB c0 c1 c2 HX
      cases bo with
      | true =>
        rw [Bool.not_true]
        go_wp2_with fail
        exact ⟨⟨i + 1, hlt, by first | rw [hw3] | rw [Int.natCast_succ], HT.out.1, HB3.out⟩, by first | (rw [hw3]; exact mSucc hlt) | (rw [← Int.natCast_succ]; exact mSucc hlt)⟩
      | false =>
        rw [Bool.not_false]
        go_wp2_with fail
        go_ret
        have hno : L.all okC = false := by
          rw [List.all_eq_false]
          exact ⟨_, HT.out.2.1, by simp [HT.out.2.2]⟩
        exact ⟨⟨_, rfl, by rw [hno]; simp⟩, HB3.out⟩
    · obtain rfl : n = i := by omega
      have hil : ((n : Int) < (n : Int)) = False := by simp
      have HB := Lib.hid hb
      rw [List.take_of_length_le (by rw [HL.out]; exact Nat.le_refl _)] at hall
      have HA := Lib.hid hall
      clear hb hall
      go_wp2_with fail
      go_ret
      exact ⟨⟨_, rfl, by rw [HA.out]; rfl⟩, HB.out⟩
set_option maxRecDepth 100000 in
theorem ccontains_any {w : World} {oa : Option Addr} {n c : Nat} {L : List Cy} (h : RCy.Sl w oa n c L) : Calls Try.prog 50 #[.slice oa n c, .func (.func 48) #[] #[]] w fun e w' => e = .returned (.bool (!(L.all okC))) ∧ Below w.heap.size w w' := by
  have HK := Lib.hid (cindex_any h)
  clear h
  go_enter Try.func50, Try.ntmps50
  go_wp2_with fail
  refine (HK.out).mono ?_
  rintro e w1 ⟨⟨k, rfl, hk⟩, hb⟩
  have HB := Lib.hid (And.intro hk hb)
  clear hk hb
  go_wp2_with fail
  go_ret
  exact ⟨ret_bool (by rw [← HB.out.1]), HB.out.2⟩
end Go.Proofs.Ytlkbaplfffbmkaa
/- capa.Check. -/
namespace Go.Proofs.Ytlkbaplfffbmkaa
open Go.RowKit
open Go.ChangeMaps (setBlock)

def CsS (b : Nat) (src seq : Int) (oa : Option Addr) (n c : Nat) (w : World) : Prop := w.heap[b]? = some (.cells #[.int .i64 src, .int .i64 seq, .slice oa n c] 55)
theorem CsS.cells {b : Nat} {src seq : Int} {oa : Option Addr} {n c : Nat} {w : World} (h : CsS b src seq oa n c w) : w.cell? ⟨b, 0, none⟩ = some (.int .i64 src) ∧ w.cell? ⟨b, 1, none⟩ = some (.int .i64 seq) ∧ w.cell? ⟨b, 2, none⟩ = some (.slice oa n c) := ⟨cell_of h rfl, cell_of h rfl, cell_of h rfl⟩
theorem CsS.on {b : Nat} {src seq : Int} {oa : Option Addr} {n c : Nat} {w w' : World} (h : CsS b src seq oa n c w) (hb : Below w.heap.size w w') : CsS b src seq oa n c w' := (hb.block _ (lt_of_blk h)).trans h
set_option maxRecDepth 100000 in
set_option maxHeartbeats 2000000 in
theorem ccheck_any {w : World} {src seq : Int} {oa : Option Addr} {n c : Nat} {L : List Cy} (h : Cys w oa n c L) (b : Bool) (hbk : okCs src seq L = b) : Calls Try.prog 25 #[.agg #[.int .i64 src, .int .i64 seq, .slice oa n c]] w fun e w' => e = .returned (.int .i64 (bif b then 0 else 1)) ∧ Below w.heap.size w w' := by
  have HL := Lib.hid h.sl.len
  have F := Lib.hid h
  have hmax := h.sl.max
  have hal := ((Below.refl w.heap.size w).alloc (Nat.le_refl _) (.cells #[.int .i64 src, .int .i64 seq, .slice oa n c] 55)).alloc (by simp) (.map #[] 0)
  have hx0 : CsS w.heap.size src seq oa n c ((w.alloc (.cells #[.int .i64 src, .int .i64 seq, .slice oa n c] 55)).alloc (.map #[] 0)) := hold (hnew _ _)
  have m3 : MR.MapAt IN ((w.alloc (.cells #[.int .i64 src, .int .i64 seq, .slice oa n c] 55)).alloc (.map #[] 0)) (w.heap.size + 1) [] 0 := MR.mapAt_made IN (hnewAt (by simp))
  have G := Lib.hid (And.intro m3 (And.intro hx0 hal))
  unfold okCs at hbk
  have W1 := fun W => cwithin_any src 0 15 W
  have W2 := fun W => cwithin_any seq 0 9007199254740991 W
  generalize (decide (0 ≤ src) && decide (src ≤ 15)) = b1 at *
  generalize (decide (0 ≤ seq) && decide (seq ≤ 9007199254740991)) = b2 at *
  have HW1 := Lib.hid W1
  have HW2 := Lib.hid W2
  have HBK := Lib.hid hbk
  obtain ⟨z0, z1, z2⟩ := hx0.cells
  clear h hal hx0 m3 hbk W1 W2
  have hmm := @run_makeMap Try.prog
  go_enter Try.func25, Try.ntmps25
  go_wp2_with fail
  clear hmm z0 z1 z2
  generalize ((w.alloc (.cells #[.int .i64 src, .int .i64 seq, .slice oa n c] 55)).alloc (.map #[] 0)) = W at *
  go_loopw [12] (fun iv wr => ∃ (i : Nat) (es : List (MR.Ent Int)) (c3 : Nat), i ≤ n ∧ iv = .int .i64 i ∧ es.map (·.1) = idsOf ((L.take i).map Cy.id) ∧ MR.MapAt IN wr (w.heap.size + 1) es c3 ∧ CsS w.heap.size src seq oa n c wr ∧ Below w.heap.size w wr) (fun iv _ => n - (intOf iv).toNat)
  case atStart => exact ⟨0, [], 0, Nat.zero_le _, rfl, rfl, G.out.1, G.out.2.1, G.out.2.2⟩
  case round =>
    obtain ⟨i, es, c3, hi, rfl, hes, hm3, hx0, hb⟩ := hrel
    obtain ⟨w2, rfl⟩ : ∃ w2 : World, w2 = wr := ⟨_, rfl⟩
    by_cases hlt : i < n
    · have hil : ((i : Int) < (n : Int)) = True := by simp; omega
      have hw3 := wrapS hlt hmax
      have hlen : L.length = n := HL.out.symm
      obtain ⟨b0, o0, rfl, hbb, hat⟩ := (F.out.keep hb).sl.at hlt
      have c0 := hat 0 (by decide)
      have c1 := hat 1 (by decide)
      have c2 := hat 2 (by decide)
      simp only [RCy, Nat.add_zero, List.getElem?_cons_zero, List.getElem?_cons_succ] at c0 c1 c2
      have hbd := F.out.ok _ (getD_mem (i := i) (by omega))
      have t1 := idsOf_succ (L := L) (i := i) (by omega)
      rw [← hes] at t1
      generalize L.getD i default = y at *
      have hal := (Below.refl w2.heap.size w2).alloc (Nat.le_refl _) (.cells #[.int .i64 y.id, .int .i64 y.cp, .bool y.dr] 69)
      have hxs : CyS w2.heap.size y (w2.alloc (.cells #[.int .i64 y.id, .int .i64 y.cp, .bool y.dr] 69)) := hnew _ _
      have l3 : w.heap.size + 1 < w2.heap.size := lt_of_blk hm3.blk
      have hm3a : MR.MapAt IN (w2.alloc (.cells #[.int .i64 y.id, .int .i64 y.cp, .bool y.dr] 69)) (w.heap.size + 1) es c3 := hm3.blk_iff IN (hal.block _ l3)
      obtain ⟨O1, hO1⟩ : ∃ O, O = Obj.map (MR.ents IN.enc (MR.put es y.id (.bool true) c3)).toArray (MR.clock' es y.id c3) := ⟨_, rfl⟩
      have hu1 : (Instr.mapUpdate 84 (.map (some (w.heap.size + 1))) (.int .i64 y.id) (.bool true)).run Try.prog (w2.alloc (.cells #[.int .i64 y.id, .int .i64 y.cp, .bool y.dr] 69)) = .ok () (setBlock (w2.alloc (.cells #[.int .i64 y.id, .int .i64 y.cp, .bool y.dr] 69)) (w.heap.size + 1) O1) := by rw [hO1]; exact (MR.run_update IN hm3a hbd Try.underlying84 (.bool true)).1
      have hm3b : MR.MapAt IN (setBlock (w2.alloc (.cells #[.int .i64 y.id, .int .i64 y.cp, .bool y.dr] 69)) (w.heap.size + 1) O1) (w.heap.size + 1) (MR.put es y.id (.bool true) c3) (MR.clock' es y.id c3) := by rw [hO1]; exact (MR.run_update IN hm3a hbd Try.underlying84 (.bool true)).2
      have hx1 : CsS w.heap.size src seq (some ⟨b0, o0, none⟩) n c (setBlock (w2.alloc (.cells #[.int .i64 y.id, .int .i64 y.cp, .bool y.dr] 69)) (w.heap.size + 1) O1) := (setBlock_other (by omega)).trans (hx0.on hal)
      have hbc : Below w.heap.size w (setBlock (w2.alloc (.cells #[.int .i64 y.id, .int .i64 y.cp, .bool y.dr] 69)) (w.heap.size + 1) O1) := below_setBlock (bcall hb (Nat.le_refl _) hal) (by omega)
      have H := Lib.hid (And.intro ((put_ids (.bool true) c3).trans t1.symm) (And.intro hm3b (And.intro hx1 hbc)))
      obtain ⟨z0, z1, z2⟩ := hxs.cells
      clear hO1 hm3a hm3b hbc hxs hal hm3 hb hbd t1 hat hes hlen hx0 hx1
      go_wp2_with fail
      exact ⟨⟨i + 1, _, _, hlt, by first | rw [hw3] | rw [Int.natCast_succ], H.out.1, H.out.2.1, H.out.2.2.1, H.out.2.2.2⟩, by first | (rw [hw3]; exact mSucc hlt) | (rw [← Int.natCast_succ]; exact mSucc hlt)⟩
    · obtain rfl : n = i := by omega
      have hil : ((n : Int) < (n : Int)) = False := by simp
      have hl3 := fun ty => MR.run_len IN hm3 Try.underlying84 ty
      have hlen := HL.out
      rw [List.take_of_length_le (by omega)] at hes
      have e3 : es.length = (idsOf (L.map Cy.id)).length := by have := congrArg List.length hes; rwa [List.length_map] at this
      have hid := idsOf_len (L.map Cy.id)
      rw [List.length_map, ← hlen, ← e3] at hid
      generalize es.length = m at *
      obtain ⟨z0, z1, z2⟩ := hx0.cells
      have HB := Lib.hid hb
      have HX := Lib.hid hx0
      have HI := Lib.hid hid
      have HK := Lib.hid (ccontains_any (F.out.keep hb).sl)
      rw [← hlen] at HBK
      generalize L.all okC = bo at *
      have hmn := hid.2.2
      clear hb hm3 hes e3 hx0 hlen hid
      go_wp2_with fail
      refine (HW1.out _).mono ?_
      rintro e W3 ⟨rfl, hw3⟩
      subst W3
      cases b1 with
      | false =>
        have hr := HBK.out
        rw [Bool.false_and, Bool.false_and, Bool.false_and, Bool.false_and] at hr
        subst hr
        go_wp2_with fail
        go_ret
        exact ⟨rfl, HB.out⟩
      | true =>
        go_wp2_with fail
        refine (HW2.out _).mono ?_
        rintro e W3 ⟨rfl, hw3⟩
        subst W3
        cases b2 with
        | false =>
          have hr := HBK.out
          rw [Bool.true_and, Bool.false_and, Bool.false_and, Bool.false_and] at hr
          subst hr
          go_wp2_with fail
          go_ret
          exact ⟨rfl, HB.out⟩
        | true =>
          by_cases h256 : n ≤ 256
          · have h25 : ((256 : Int) < (n : Int)) = False := by simp; omega
            by_cases hnd : (L.map Cy.id).Nodup
            · have hmm : m = n := HI.out.1 hnd
              have hlt1 : (m < n) = False := by simp; omega
              have HND := Lib.hid hnd
              have H256 := Lib.hid h256
              clear hnd h256 hmm
              go_wp2_with fail
              refine (HK.out).mono ?_
              rintro e W3 ⟨rfl, hb3⟩
              have HB3 := Lib.hid (bcall HB.out (Nat.le_refl _) hb3)
              have hr := HBK.out
              rw [decide_eq_true H256.out, decide_eq_true HND.out, Bool.true_and, Bool.true_and, Bool.true_and, Bool.true_and] at hr
              subst hr
              clear hb3 z0 z1 z2 hl3
              cases bo with
              | false =>
                go_wp2_with fail
                go_ret
                exact ⟨rfl, HB3.out⟩
              | true =>
                go_wp2_with fail
                go_ret
                exact ⟨rfl, HB3.out⟩
            · have hlt1 : (m < n) = True := by have := HI.out.2.1 hnd; simp; omega
              have hr := HBK.out
              rw [decide_eq_false hnd, Bool.and_false, Bool.false_and] at hr
              subst hr
              clear hnd h256
              go_wp2_with fail
              go_ret
              exact ⟨rfl, HB.out⟩
          · have h25 : ((256 : Int) < (n : Int)) = True := by simp; omega
            have hr := HBK.out
            rw [decide_eq_false h256, Bool.and_false, Bool.false_and, Bool.false_and] at hr
            subst hr
            clear h256
            go_wp2_with fail
            go_ret
            exact ⟨rfl, HB.out⟩
end Go.Proofs.Ytlkbaplfffbmkaa
/- The reference's Check of what a source says. -/
namespace Go.Proofs.Ytlkbaplfffbmkaa
open Go.RowKit

theorem okCs_false {src seq : Int} {L : List Cy} (h : ¬ ((0 ≤ src ∧ src ≤ 15) ∧ (0 ≤ seq ∧ seq ≤ 9007199254740991) ∧ L.length ≤ 256)) : okCs src seq L = false := by
  rw [Bool.eq_false_iff]
  intro h1
  unfold okCs at h1
  simp only [Bool.and_eq_true, decide_eq_true_eq] at h1
  exact h ⟨h1.1.1.1.1, h1.1.1.1.2, h1.1.1.2⟩
theorem okCs_odd {src seq : Int} {L : List Cy} {y : Cy} (hy : y ∈ L) (h : okC y = false) : okCs src seq L = false := by
  unfold okCs
  rw [show L.all okC = false from by rw [List.all_eq_false]; exact ⟨y, hy, by simp [h]⟩, Bool.and_false]
theorem okCs_dup {src seq : Int} {L : List Cy} {i k : Nat} (hk : k < i) (hi : i < L.length) (h : (L.getD k default).id = (L.getD i default).id) : okCs src seq L = false := by
  unfold okCs
  have : ¬ (L.map Cy.id).Nodup := by
    intro hn
    rw [List.nodup_iff_pairwise_ne, List.pairwise_iff_getElem] at hn
    refine hn k i (by simp; omega) (by simpa using hi) hk ?_
    simp only [List.getElem_map]
    simp only [List.getD_eq_getElem?_getD, List.getElem?_eq_getElem (show k < L.length by omega), List.getElem?_eq_getElem hi, Option.getD_some] at h
    exact h
  rw [decide_eq_false this, Bool.and_false, Bool.false_and]
theorem okCs_true {src seq : Int} {L : List Cy} (h : (0 ≤ src ∧ src ≤ 15) ∧ (0 ≤ seq ∧ seq ≤ 9007199254740991) ∧ L.length ≤ 256) (ha : L.all okC = true) (hn : (L.map Cy.id).Nodup) : okCs src seq L = true := by
  unfold okCs
  rw [ha]
  simp [h.1.1, h.1.2, h.2.1.1, h.2.1.2, h.2.2, hn]
theorem okC_false {y : Cy} (h : ¬ ((0 ≤ y.id ∧ y.id ≤ 4294967295) ∧ (0 ≤ y.cp ∧ y.cp ≤ 9007199254740991))) : okC y = false := by
  rw [Bool.eq_false_iff]
  intro h1
  unfold okC at h1
  simp only [Bool.and_eq_true, decide_eq_true_eq] at h1
  exact h h1
theorem okC_true {y : Cy} (h : (0 ≤ y.id ∧ y.id ≤ 4294967295) ∧ (0 ≤ y.cp ∧ y.cp ≤ 9007199254740991)) : okC y = true := by
  unfold okC
  simp [h.1.1, h.1.2, h.2.1, h.2.2]
theorem nodup_snoc {L : List Cy} {i : Nat} (hi : i < L.length) (hn : ((L.take i).map Cy.id).Nodup) (h : ∀ k, k < i → (L.getD k default).id ≠ (L.getD i default).id) : ((L.take (i + 1)).map Cy.id).Nodup := by
  rw [take_map_succ Cy.id L hi, List.nodup_append]
  refine ⟨hn, by simp, fun a ha b hb => ?_⟩
  simp only [List.mem_singleton] at hb
  subst hb
  obtain ⟨x, hx, rfl⟩ := List.mem_map.1 ha
  obtain ⟨k, hk, rfl⟩ := List.mem_iff_getElem.1 hx
  simp only [List.length_take] at hk
  have := h k (by omega)
  simp only [List.getD_eq_getElem?_getD, List.getElem?_eq_getElem (show k < L.length by omega), Option.getD_some] at this
  rw [List.getElem_take]
  simpa [List.getD_eq_getElem?_getD] using this
set_option maxRecDepth 100000 in
set_option maxHeartbeats 2000000 in
theorem rccheck_any {w : World} {src seq : Int} {oa : Option Addr} {n c : Nat} {L : List Cy} (h : RCy.Sl w oa n c L) : Calls Try.prog 26 #[.agg #[.int .i64 src, .int .i64 seq, .slice oa n c]] w fun e w' => e = .returned (.bool (okCs src seq L)) ∧ Below w.heap.size w w' := by
  have HL := Lib.hid h.len
  have F := Lib.hid h
  have hmax := h.max
  have hal := (Below.refl w.heap.size w).alloc (Nat.le_refl _) (.cells #[.int .i64 src, .int .i64 seq, .slice oa n c] 55)
  have hx0 : CsS w.heap.size src seq oa n c (w.alloc (.cells #[.int .i64 src, .int .i64 seq, .slice oa n c] 55)) := hnew _ _
  have G := Lib.hid (And.intro hx0 hal)
  obtain ⟨z0, z1, z2⟩ := hx0.cells
  clear h hal hx0
  have hll1 : n ≤ L.length := Nat.le_of_eq HL.out
  have hll2 : L.length ≤ n := Nat.le_of_eq HL.out.symm
  by_cases g1 : src < 0
  · have g1t : (src < 0) = True := by simp; omega
    go_enter Try.func26, Try.ntmps26
    go_wp2_with fail
    go_ret
    exact ⟨ret_bool (okCs_false (by omega)).symm, G.out.2⟩
  have g1f : (src < 0) = False := by simp; omega
  by_cases g2 : 15 < src
  · have g2t : (15 < src) = True := by simp; omega
    go_enter Try.func26, Try.ntmps26
    go_wp2_with fail
    go_ret
    exact ⟨ret_bool (okCs_false (by omega)).symm, G.out.2⟩
  have g2f : (15 < src) = False := by simp; omega
  by_cases g3 : seq < 0
  · have g3t : (seq < 0) = True := by simp; omega
    go_enter Try.func26, Try.ntmps26
    go_wp2_with fail
    go_ret
    exact ⟨ret_bool (okCs_false (by omega)).symm, G.out.2⟩
  have g3f : (seq < 0) = False := by simp; omega
  by_cases g4 : 9007199254740991 < seq
  · have g4t : (9007199254740991 < seq) = True := by simp; omega
    go_enter Try.func26, Try.ntmps26
    go_wp2_with fail
    go_ret
    exact ⟨ret_bool (okCs_false (by omega)).symm, G.out.2⟩
  have g4f : (9007199254740991 < seq) = False := by simp; omega
  by_cases g5 : (256 : Int) < (n : Int)
  · have g5t : ((256 : Int) < (n : Int)) = True := by simp; omega
    go_enter Try.func26, Try.ntmps26
    go_wp2_with fail
    go_ret
    exact ⟨ret_bool (okCs_false (by omega)).symm, G.out.2⟩
  have g5f : ((256 : Int) < (n : Int)) = False := by simp; omega
  go_enter Try.func26, Try.ntmps26
  go_wp2_with fail
  generalize (w.alloc (.cells #[.int .i64 src, .int .i64 seq, .slice oa n c] 55)) = W at *
  have HOK := Lib.hid (show (0 ≤ src ∧ src ≤ 15) ∧ (0 ≤ seq ∧ seq ≤ 9007199254740991) ∧ L.length ≤ 256 from ⟨⟨by omega, by omega⟩, ⟨by omega, by omega⟩, by omega⟩)
  clear hll1 hll2 g1 g2 g3 g4 g5 g1f g2f g3f g4f g5f z0 z1 z2
  go_loopw [3] (fun iv wr => ∃ i : Nat, i ≤ n ∧ iv = .int .i64 i ∧ (L.take i).all okC = true ∧ ((L.take i).map Cy.id).Nodup ∧ CsS w.heap.size src seq oa n c wr ∧ Below w.heap.size w wr) (fun iv _ => n - (intOf iv).toNat)
  case atStart => exact ⟨0, Nat.zero_le _, rfl, rfl, List.nodup_nil, G.out.1, G.out.2⟩
  case round =>
    obtain ⟨i, hi, rfl, hall, hnd, hx0, hb⟩ := hrel
    obtain ⟨w2, rfl⟩ : ∃ w2 : World, w2 = wr := ⟨_, rfl⟩
    by_cases hlt : i < n
    · have hil : ((i : Int) < (n : Int)) = True := by simp; omega
      have hw3 := wrapS hlt hmax
      have hlen : L.length = n := HL.out.symm
      obtain ⟨b0, o0, rfl, hbb, hat⟩ := (F.out.keep hb).at hlt
      have c0 := hat 0 (by decide)
      have c1 := hat 1 (by decide)
      have c2 := hat 2 (by decide)
      simp only [RCy, Nat.add_zero, List.getElem?_cons_zero, List.getElem?_cons_succ] at c0 c1 c2
      have t1 := all_take_s L okC i (by omega)
      rw [hall, Bool.true_and] at t1
      have hmem : L.getD i default ∈ L := getD_mem (by omega)
      obtain ⟨y, hy⟩ : ∃ y, L.getD i default = y := ⟨_, rfl⟩
      rw [hy] at t1 hmem c0 c1 c2
      have hal := (Below.refl w2.heap.size w2).alloc (Nat.le_refl _) (.cells #[.int .i64 y.id, .int .i64 y.cp, .bool y.dr] 69)
      have hxs : CyS w2.heap.size y (w2.alloc (.cells #[.int .i64 y.id, .int .i64 y.cp, .bool y.dr] 69)) := hnew _ _
      have HB := Lib.hid (And.intro (bcall hb (Nat.le_refl _) hal) (And.intro (hx0.on hal) hxs))
      have HT := Lib.hid (And.intro t1 (And.intro hmem (And.intro hy hnd)))
      obtain ⟨z0, z1, z2⟩ := hx0.cells
      obtain ⟨y0, y1, y2⟩ := hxs.cells
      obtain ⟨x0, x1, x2⟩ := (hx0.on hal).cells
      clear hal hb hxs hat hall hnd t1 hmem hy hx0 hlen
      by_cases e1 : y.id < 0
      · have e1t : (y.id < 0) = True := by simp; omega
        go_wp2_with fail
        go_ret
        exact ⟨ret_bool (okCs_odd HT.out.2.1 (okC_false (by omega))).symm, HB.out.1⟩
      have e1f : (y.id < 0) = False := by simp; omega
      by_cases e2 : 4294967295 < y.id
      · have e2t : (4294967295 < y.id) = True := by simp; omega
        go_wp2_with fail
        go_ret
        exact ⟨ret_bool (okCs_odd HT.out.2.1 (okC_false (by omega))).symm, HB.out.1⟩
      have e2f : (4294967295 < y.id) = False := by simp; omega
      by_cases e3 : y.cp < 0
      · have e3t : (y.cp < 0) = True := by simp; omega
        go_wp2_with fail
        go_ret
        exact ⟨ret_bool (okCs_odd HT.out.2.1 (okC_false (by omega))).symm, HB.out.1⟩
      have e3f : (y.cp < 0) = False := by simp; omega
      by_cases e4 : 9007199254740991 < y.cp
      · have e4t : (9007199254740991 < y.cp) = True := by simp; omega
        go_wp2_with fail
        go_ret
        exact ⟨ret_bool (okCs_odd HT.out.2.1 (okC_false (by omega))).symm, HB.out.1⟩
      have e4f : (9007199254740991 < y.cp) = False := by simp; omega
      go_wp2_with fail
      have hok : okC y = true := okC_true ⟨⟨by omega, by omega⟩, by omega, by omega⟩
      have HOK2 := Lib.hid hok
      generalize w2.alloc (.cells #[.int .i64 y.id, .int .i64 y.cp, .bool y.dr] 69) = W2 at *
      generalize w2.heap.size = q2 at *
      clear hok e1 e2 e3 e4 e1f e2f e3f e4f z0 z1 z2 y0 y1 y2 x0 x1 x2 c0 c1 c2
      go_loopw [5] (fun kv wr => ∃ k : Nat, k ≤ i ∧ kv = .int .i64 k ∧ (∀ j, j < k → (L.getD j default).id ≠ y.id) ∧ Below w.heap.size w wr ∧ CsS w.heap.size src seq (some ⟨b0, o0, none⟩) n c wr ∧ CyS q2 y wr) (fun kv _ => i - (intOf kv).toNat)
      case atStart => exact ⟨0, Nat.zero_le _, rfl, fun j hj => by omega, HB.out⟩
      case round =>
        obtain ⟨k, hk, rfl, hne, hb, hx0, hxs⟩ := hrel
        obtain ⟨w3, rfl⟩ : ∃ w3 : World, w3 = wr := ⟨_, rfl⟩
        have HN := Lib.hid hne
        clear hne
        by_cases hkt : k < i
        · have hki : ((k : Int) < (i : Int)) = True := by simp; omega
          have hkn : ((k : Int) < (n : Int)) = True := by simp; omega
          have hk0 : ((0 : Int) ≤ (k : Int)) = True := by simp
          have hd := (Below.refl w3.heap.size w3).drew
          have hwk := wrapS hkt (by omega)
          have hkn' : k < n := by omega
          obtain ⟨b1, o1, e1, hbb1, hat⟩ := (F.out.keep (bcall hb (Nat.le_refl _) hd)).at hkn'
          obtain ⟨rfl, rfl⟩ : b0 = b1 ∧ o0 = o1 := by simp only [Option.some.injEq, Addr.mk.injEq] at e1; exact ⟨e1.1, e1.2.1⟩
          have c0 := hat 0 (by decide)
          simp only [RCy, Nat.add_zero, List.getElem?_cons_zero] at c0
          obtain ⟨u, hu⟩ : ∃ u, (L.getD k default).id = u := ⟨_, rfl⟩
          rw [hu] at c0
          have F3 := Lib.hid (And.intro (bcall hb (Nat.le_refl _) hd) (And.intro (hx0.on hd) (And.intro (hxs.on hd) hu)))
          obtain ⟨z0, z1, z2⟩ := (hx0.on hd).cells
          obtain ⟨y0, y1, y2⟩ := (hxs.on hd).cells
          clear hd hb hx0 hxs hat hbb1 hu
          obtain ⟨be, hbe⟩ : ∃ be, (u == y.id) = be := ⟨_, rfl⟩
          have HE := Lib.hid hbe
          go_wp2_with fail
          refine wp_region_quiet_tail (fun w' => w' = w3.drew) 8 (by kernel_rfl) (by kernel_rfl) rfl ?_
          simp only [List.take_succ_cons, List.take_zero, List.drop_succ_cons, List.drop_zero]
          iterate 8 ((with_reducible refine wpQuiet_step (fun K hK => ?_)); go_simp; first | ((with_reducible refine hK _ ?_); clear hK K) | (apply Exists.intro; (with_reducible refine ⟨fun w' hw' => ?_, hK _ ?_⟩); (subst hw'; go_simp; first | exact rfl | exact ⟨rfl, rfl⟩); clear hK K))
          refine wpQuiet_nil ?_
          rintro _ rfl
          clear c0 z0 z1 z2 y0 y1 y2 hk0 hkn
          cases be with
          | true =>
            go_wp2_with fail
            go_ret
            have := okCs_dup (src := src) (seq := seq) (L := L) hkt (by rw [← HL.out]; exact hlt) (by rw [F3.out.2.2.2, HT.out.2.2.1]; simpa using HE.out)
            exact ⟨ret_bool this.symm, F3.out.1⟩
          | false =>
            go_wp2_with fail
            exact ⟨⟨k + 1, hkt, by first | rw [hwk] | rw [Int.natCast_succ], fun j hj => by
              rcases Nat.lt_succ_iff_lt_or_eq.1 hj with h | rfl
              · exact HN.out j h
              · rw [F3.out.2.2.2]; simpa using HE.out, F3.out.1, F3.out.2.1, F3.out.2.2.1⟩, by first | (rw [hwk]; exact mSucc hkt) | (rw [← Int.natCast_succ]; exact mSucc hkt)⟩
        · obtain rfl : i = k := by omega
          have hki : ((i : Int) < (i : Int)) = False := by simp
          have F3 := Lib.hid (And.intro hb hx0)
          have hnn := nodup_snoc (L := L) (i := i) (by rw [← HL.out]; exact hlt) HT.out.2.2.2 (fun j hj => by rw [HT.out.2.2.1]; exact HN.out j hj)
          have HNN := Lib.hid hnn
          clear hb hx0 hxs hnn
          go_wp2_with fail
          exact ⟨⟨i + 1, hlt, by first | rw [hw3] | rw [Int.natCast_succ], by rw [HT.out.1]; exact HOK2.out, HNN.out, F3.out.2, F3.out.1⟩, by first | (rw [hw3]; exact mSucc hlt) | (rw [← Int.natCast_succ]; exact mSucc hlt)⟩
    · obtain rfl : n = i := by omega
      have hil : ((n : Int) < (n : Int)) = False := by simp
      rw [List.take_of_length_le (by rw [HL.out]; exact Nat.le_refl _)] at hall hnd
      have HB := Lib.hid hb
      have HR := Lib.hid (okCs_true HOK.out hall hnd)
      obtain ⟨z0, z1, z2⟩ := hx0.cells
      clear hb hall hnd hx0
      go_wp2_with fail
      go_ret
      exact ⟨ret_bool HR.out.symm, HB.out⟩
end Go.Proofs.Ytlkbaplfffbmkaa
