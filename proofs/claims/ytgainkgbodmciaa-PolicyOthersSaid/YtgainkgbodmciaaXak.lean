/- Routes that lives makes. -/
import Derived.Test.YtgainkgbodmciaaXaj
import Derived.Test.YtgainkgbodmciaaXaa
import Derived.OrdersHeld
import Derived.Test.YtgainkgbodmciaaXab
import Derived.Test.YtgainkgbodmciaaXah
import Derived.DeepKeys4
namespace Go.Proofs.Ytgainkgbodmciaa
open Go.RowKit

theorem bcell_of {W w1 : World} {B : Nat} (hb : Below B W w1) : (∀ b o, b < B → w1.cell? ⟨b, o, none⟩ = W.cell? ⟨b, o, none⟩) ∧ (∀ b o, b < B → w1.frozen? ⟨b, o, none⟩ = W.frozen? ⟨b, o, none⟩) :=
  ⟨fun b o h => hb.cell (p := ⟨b, o, none⟩) h, fun b o h => hb.frozen (p := ⟨b, o, none⟩) h⟩
theorem said_any (n nx : Int) (w : World) : Calls Try.prog 37 #[.int .i64 n, .int .u32 nx] w fun e w' => e = .returned (.agg #[.int .i64 0, .slice (some ⟨w.heap.size + 2, 0, none⟩) 1 1, .int .u32 nx, .int .i64 (-1), .int .i64 (-1), .slice none 0 0]) ∧ PathAt w' w'.heap.size (some ⟨w.heap.size + 2, 0, none⟩) 1 [⟨false, some ⟨w.heap.size + 1, 0, none⟩, 1, 1, [n]⟩] ∧ Below w.heap.size w w' := by
  go_enter Try.func37, Try.ntmps37
  go_wp2_with fail
  refine bodyPost_ret (v := .agg #[.int .i64 0, .slice (some ⟨w.heap.size + 2, 0, none⟩) 1 1, .int .u32 nx, .int .i64 (-1), .int .i64 (-1), .slice none 0 0]) (by simp [results, Try.results37, go_sem]) rfl ⟨rfl, ?_, ?_⟩
  · refine ⟨rfl, by unfold maxLen; omega, fun _ => ⟨w.heap.size + 2, 0, rfl, by simp, fun i hi => ?_⟩, fun s hs => ?_⟩
    · obtain rfl : i = 0 := by omega
      exact ⟨by go_simp; try rfl, by go_simp; try rfl⟩
    · simp at hs
      subst hs
      exact ⟨rfl, by show 1 ≤ maxLen; unfold maxLen; omega, fun _ => ⟨w.heap.size + 1, 0, rfl, by simp; try omega, fun i hi => by
        have hi' : i < 1 := hi
        obtain rfl : i = 0 := by omega
        go_simp; try rfl⟩⟩
  · exact (((Below.refl _ _).alloc (Nat.le_refl _) _).alloc (by simp) _).alloc (by simp; omega) _

/-- what route gives -/
structure Made (w : World) (x : Rt) (r p m n : Int) : Prop where
  ok : RtOk w w.heap.size x
  small : Small x
  look : lookOf x = ⟨prefOf x, 1, 0, n, max m 0, r, 0⟩
  pf : x.pf = p
  hr : x.r = r
theorem Made.below {w w' : World} {x : Rt} {r p m n : Int} (h : Made w x r p m n) (hb : Below w.heap.size w w') : Made w' x r p m n :=
  ⟨by
    have := h.ok.below hb
    exact ⟨⟨this.path.1, this.path.2.1, fun h0 => let ⟨b, o, e, hl, hc⟩ := this.path.2.2.1 h0; ⟨b, o, e, Nat.lt_of_lt_of_le hl hb.size, hc⟩, fun s hs => ⟨(this.path.2.2.2 s hs).1, (this.path.2.2.2 s hs).2.1, fun h0 => let ⟨b, o, e, hl, hc⟩ := (this.path.2.2.2 s hs).2.2 h0; ⟨b, o, e, Nat.lt_of_lt_of_le hl hb.size, hc⟩⟩⟩,
      ⟨this.comms.1, this.comms.2.1, fun h0 => let ⟨b, o, e, hl, hc⟩ := this.comms.2.2 h0; ⟨b, o, e, Nat.lt_of_lt_of_le hl hb.size, hc⟩⟩, this.pf1, this.fr⟩, h.small, h.look, h.pf, h.hr⟩
end Go.Proofs.Ytgainkgbodmciaa
/- lives. -/
namespace Go.Proofs.Ytgainkgbodmciaa
open Go.RowKit

theorem cut_congr {α : Type} {f g : α → Look} {l : List α} (h : ∀ x ∈ l, f x = g x) : ∀ n, cut f n l = cut g n l
  | 0 => rfl
  | n + 1 => by
    rw [cut_succ, cut_succ, cut_congr h n]
    unfold keep
    apply List.filter_congr
    intro c hc
    have hm : ∀ x ∈ cut g n l, f x = g x := fun x hx => h x ((cut_sub (f := g) l n).subset hx)
    rw [hm c hc, Bool.eq_iff_iff]
    simp only [List.all_eq_true]
    exact ⟨fun h' k hk => by rw [← hm k hk]; exact h' k hk, fun h' k hk => by rw [hm k hk]; exact h' k hk⟩
theorem cutI_looks {L : List Rt} {ks : List Look} (h : L.map lookOf = ks) (s : Nat) : cutI L s = cut (fun i => ks.getD i default) s (List.range ks.length) := by
  subst h
  unfold cutI
  rw [List.length_map]
  apply cut_congr
  intro i hi
  simp at hi
  unfold lookI
  simp [List.getD_eq_getElem?_getD, hi]
theorem bestN_looks {L : List Rt} {ks : List Look} (h : L.map lookOf = ks) (hne : L ≠ []) : bestN L = (cut (fun i => ks.getD i default) 6 (List.range ks.length)).getD 0 default := by
  rw [← cutI_head L hne, cutI_looks h]
theorem lives_pure {x1 x2 x3 x4 : Rt} (h : [x1, x2, x3, x4].map lookOf = [⟨100, 1, 0, 7, 5, 3, 0⟩, ⟨100, 1, 0, 7, 9, 2, 0⟩, ⟨100, 1, 0, 8, 50, 4, 0⟩, ⟨90, 1, 0, 7, 0, 1, 0⟩]) : bestN [x1, x2, x3, x4] = 0 ∧ rankOf [x1, x2, x3, x4] = [x1, x2, x3, x4] ∧ (leftR [x1, x2, x3, x4]).length = 2 := by
  simp only [List.map_cons, List.map_nil, List.cons.injEq, and_true] at h
  obtain ⟨h1, h2, h3, h4⟩ := h
  have b1 : bestN [x1, x2, x3, x4] = 0 := by rw [bestN_looks (ks := [⟨100, 1, 0, 7, 5, 3, 0⟩, ⟨100, 1, 0, 7, 9, 2, 0⟩, ⟨100, 1, 0, 8, 50, 4, 0⟩, ⟨90, 1, 0, 7, 0, 1, 0⟩]) (by simp [h1, h2, h3, h4]) (by simp)]; decide
  have b2 : bestN [x2, x3, x4] = 0 := by rw [bestN_looks (ks := [⟨100, 1, 0, 7, 9, 2, 0⟩, ⟨100, 1, 0, 8, 50, 4, 0⟩, ⟨90, 1, 0, 7, 0, 1, 0⟩]) (by simp [h2, h3, h4]) (by simp)]; decide
  have b3 : bestN [x3, x4] = 0 := by rw [bestN_looks (ks := [⟨100, 1, 0, 8, 50, 4, 0⟩, ⟨90, 1, 0, 7, 0, 1, 0⟩]) (by simp [h3, h4]) (by simp)]; decide
  have b4 : bestN [x4] = 0 := by rw [bestN_looks (ks := [⟨90, 1, 0, 7, 0, 1, 0⟩]) (by simp [h4]) (by simp)]; decide
  refine ⟨b1, ?_, ?_⟩
  · simp [rankOf, rank, b1, b2, b3, b4]
  · rw [leftR_eq, List.length_map, cutI_looks (ks := [⟨100, 1, 0, 7, 5, 3, 0⟩, ⟨100, 1, 0, 7, 9, 2, 0⟩, ⟨100, 1, 0, 8, 50, 4, 0⟩, ⟨90, 1, 0, 7, 0, 1, 0⟩]) (by simp [h1, h2, h3, h4])]; decide

end Go.Proofs.Ytgainkgbodmciaa
/- BestRoutes: the law's walk. -/
namespace Go.Proofs.Ytgainkgbodmciaa
open Go.RowKit

/-- what came in -/
structure Came (w : World) (oa : Option Addr) (n c : Nat) (L : List Rt) : Prop where
  sl : R40.Sl w oa n c L
  nil : oa = none → c = 0
  ok : ∀ x ∈ L, RtOk w w.heap.size x
theorem Came.low {w : World} {oa : Option Addr} {n c : Nat} {L : List Rt} (h : Came w oa n c L) : n ≤ 9223372036854775807 := by have := h.sl.max; unfold maxLen at this; omega

theorem rank_mem (n : Nat) : ∀ (L : List Rt) (x : Rt), n ≤ L.length → x ∈ rank n L → x ∈ L := by
  induction n with
  | zero => intro L x _ h; cases h
  | succ n ih =>
    intro L x hl h
    have hne : L ≠ [] := by intro e; rw [e] at hl; simp at hl
    obtain ⟨hb, -⟩ := best_head L hne
    rcases List.mem_cons.1 h with rfl | h
    · exact getD_mem hb
    · exact List.mem_of_mem_eraseIdx (ih _ _ (by rw [List.length_eraseIdx]; split <;> omega) h)

end Go.Proofs.Ytgainkgbodmciaa
/- A region that draws its order, in pieces: those of a set in whatever order, each of which reads, or calls what leaves the world in a class; one that comes up alone; and so on. -/
namespace Go.Proofs.Ytgainkgbodmciaa
open Go Go.RowKit

section
variable {P : Program} {ops : Array Oper} {md : Region.Mode} {C : World → Prop}

def depsB (md : Region.Mode) (ops : Array Oper) (t : Nat) : List Nat := match ops[t]? with | some o => (o.after.toList.filter (fun e => Region.binds md e)).map (fun e => e.on) | none => []
def ancs (md : Region.Mode) (ops : Array Oper) (t : Nat) : List Nat := (List.range ops.size).reverse.foldl (fun S j => if S.contains j then depsB md ops j ++ S else S) (depsB md ops t)
def closedB (md : Region.Mode) (ops : Array Oper) (listed : Array Bool) : Bool := decide (listed.size = ops.size) && (List.range ops.size).all fun j => !(listed.getD j false) || (depsB md ops j).all fun i => listed.getD i false
structure SInv (md : Region.Mode) (ops : Array Oper) (l0 listed : Array Bool) : Prop where
  size : listed.size = ops.size
  closed : ∀ j, listed.getD j false = true → ∀ i ∈ depsB md ops j, listed.getD i false = true
  mono : ∀ j, l0.getD j false = true → listed.getD j false = true
theorem depsB_mem {j : Nat} {oj : Oper} (h : ops[j]? = some oj) {e : Edge} (he : e ∈ oj.after) (hb : Region.binds md e = true) : e.on ∈ depsB md ops j := by
  unfold depsB
  rw [h]
  exact List.mem_map.2 ⟨e, List.mem_filter.2 ⟨by simpa using he, hb⟩, rfl⟩
theorem ready_deps {j : Nat} {listed : Array Bool} (h : j ∈ Region.ready md ops listed) : ∀ i ∈ depsB md ops j, listed.getD i false = true := by
  obtain ⟨_, o, ho, hall⟩ := mem_ready.1 h
  intro i hi
  unfold depsB at hi
  rw [ho] at hi
  obtain ⟨e, he, rfl⟩ := List.mem_map.1 hi
  obtain ⟨he, hb⟩ := List.mem_filter.1 he
  exact hall e (by simpa using he) hb
theorem SInv.set {l0 listed : Array Bool} (inv : SInv md ops l0 listed) {i : Nat} (hi : i ∈ Region.ready md ops listed) : SInv md ops l0 (listed.setIfInBounds i true) := by
  have hd := ready_deps hi
  refine ⟨by simp [inv.size], fun j hj k hk => ?_, fun j hj => getD_set_true (inv.mono j hj)⟩
  by_cases hij : i = j
  · subst hij; exact getD_set_true (hd k hk)
  · rw [getD_set_ne false hij] at hj
    exact getD_set_true (inv.closed j hj k hk)
theorem SInv.ancs {l0 listed : Array Bool} (inv : SInv md ops l0 listed) {t : Nat} (ht : t ∈ Region.ready md ops listed) : ∀ i ∈ ancs md ops t, listed.getD i false = true := by
  unfold Ytgainkgbodmciaa.ancs
  have : ∀ (l S : List Nat), (∀ i ∈ S, listed.getD i false = true) → ∀ i ∈ l.foldl (fun S j => if S.contains j then depsB md ops j ++ S else S) S, listed.getD i false = true := by
    intro l
    induction l with
    | nil => intro S h; exact h
    | cons j l ih =>
      intro S h
      refine ih _ ?_
      dsimp only
      split
      · rename_i hc
        have hj := h j (by simpa using hc)
        intro i hi
        rcases List.mem_append.1 hi with hi | hi
        · exact inv.closed j hj i hi
        · exact h i hi
      · exact h
  exact this _ _ (ready_deps ht)
theorem sinv_of {listed : Array Bool} (h : closedB md ops listed = true) : SInv md ops listed listed := by
  simp only [closedB, Bool.and_eq_true, decide_eq_true_eq] at h
  refine ⟨h.1, fun j hj i hi => ?_, fun _ h => h⟩
  have h1 := List.all_eq_true.1 h.2 j
  by_cases hlt : j < ops.size
  · have h2 := h1 (List.mem_range.2 hlt)
    rw [hj, Bool.not_true, Bool.false_or] at h2
    exact List.all_eq_true.1 h2 i hi
  · unfold depsB at hi; rw [Array.getElem?_eq_none (by omega)] at hi; cases hi

/-- so many more operations come up, all of hd, each quiet; then L -/
def headS (P : Program) (md : Region.Mode) (ops : Array Oper) (C : World → Prop) (hd : List Nat) (L : Array Bool → Act → Prop) : Nat → Array Bool → Act → Prop
  | 0, listed, a => L listed a
  | f + 1, listed, a => Region.ready md ops listed ≠ [] ∧ ∀ i ∈ Region.ready md ops listed, i ∈ hd ∧ qOp P ops C i (headS P md ops C hd L f (listed.setIfInBounds i true)) a
theorem any_of_headS {hd : List Nat} {g : Nat} {L : Array Bool → Act → Prop} {Q' : Exit → Act → World → Prop} (hL : ∀ listed a w, C w → L listed a → wpAny P md ops Q' g listed a w) (f : Nat) :
    ∀ (listed : Array Bool) (a : Act) (w : World), C w → headS P md ops C hd L f listed a → wpAny P md ops Q' (f + g) listed a w := by
  induction f with
  | zero => intro listed a w hw h; rw [Nat.zero_add]; exact hL _ _ _ hw h
  | succ f ih =>
    intro listed a w hw h
    rw [Nat.succ_add]
    exact ⟨fun h0 => absurd h0 h.1, fun i hi => wpOp_of_qOp hw (fun a' w' hw' h' => ih _ a' w' hw' h') (h.2 i hi).2⟩
theorem headS_first {hd : List Nat} {l0 : Array Bool} {i : Nat} {oi : Oper} {v : Value} {L : Array Bool → Act → Prop} (hi : ops[i]? = some oi) (hsel : ∀ (j : Nat) (o : Oper) cs b, ops[j]? = some o → o.op ≠ .select cs b)
    (htw : ∀ listed, SInv md ops l0 listed → ∀ t ∈ Region.ready md ops listed, t ∉ hd → ∀ i ∈ hd, listed.getD i false = true) (hin : i ∈ hd) (hdone : ∀ listed a, L listed a → ∀ j ∈ Region.ready md ops listed, j ∉ hd) (f : Nat) :
    ∀ (listed : Array Bool) (a : Act), SInv md ops l0 listed →
      (∀ j oj, ops[j]? = some oj → j ≠ i → listed.getD j true = false → (∀ e ∈ oj.after, Region.binds md e = true → e.on ≠ i) → oi.apart ops oj = true) →
      i ∈ Region.ready md ops listed → YieldsIn P ops C oi v a → headS P md ops C hd L f (listed.setIfInBounds i true) (a.put oi.dst v) → headS P md ops C hd L (f + 1) listed a := by
  induction f with
  | zero =>
    intro listed a inv _ hr hy H
    have hun := (mem_ready.1 hr).1
    refine ⟨fun h => (by rw [h] at hr; cases hr), fun j hj => ?_⟩
    have hjn : j ∈ hd := Classical.byContradiction fun h => by have := htw _ inv j hj h i hin; rw [getD_both hun] at this; cases this
    refine ⟨hjn, ?_⟩
    by_cases hji : j = i
    · subst hji; exact hy.qOp hi H
    · exact absurd hjn (hdone _ _ H j (ready_mono hj hji))
  | succ f ih =>
    intro listed a inv hfree hr hy H
    have hun := (mem_ready.1 hr).1
    refine ⟨fun h => (by rw [h] at hr; cases hr), fun j hj => ?_⟩
    have hjn : j ∈ hd := Classical.byContradiction fun h => by have := htw _ inv j hj h i hin; rw [getD_both hun] at this; cases this
    refine ⟨hjn, ?_⟩
    by_cases hji : j = i
    · subst hji; exact hy.qOp hi H
    obtain ⟨hjun, oj, hoj, hall⟩ := mem_ready.1 hj
    have hnot : ∀ e ∈ oj.after, Region.binds md e = true → e.on ≠ i := by
      intro e he hb heq
      have h1 := hall e he hb
      rw [heq, getD_both hun] at h1
      cases h1
    have h2 := qOp_put hoj (hfree j oj hoj hji hjun hnot) (fun cs b => hsel i oi cs b hi) (fun cs b => hsel j oj cs b hoj) hy (H.2 j (ready_mono hj hji)).2
    refine qOp_mono (fun a' h3 => ih (listed.setIfInBounds j true) a' (inv.set hj) ?_ (ready_mono hr (Ne.symm hji)) h3.1 ?_) h2
    · intro k ok hk hki hun' hno
      refine hfree k ok hk hki ?_ hno
      by_cases hjk : j = k
      · subst hjk; exact hjun
      · rw [getD_set_ne true hjk] at hun'; exact hun'
    · rw [Array.setIfInBounds_comm _ _ hji]; exact h3.2
/-- in this order they come up, each apart from what is not there yet -/
def lexS (md : Region.Mode) (ops : Array Oper) (hd : List Nat) : List Nat → Array Bool → Bool
  | [], listed => (Region.ready md ops listed).all (fun j => !hd.contains j)
  | k :: r, listed => (Region.ready md ops listed).contains k && hd.contains k && Region.free md ops listed k && lexS md ops hd r (listed.setIfInBounds k true)
def setAll (l : List Nat) (listed : Array Bool) : Array Bool := l.foldl (fun s i => s.setIfInBounds i true) listed
theorem headS_lex {hd : List Nat} {l0 : Array Bool} {Lq : Act → Prop} (hsel : Region.noSelect ops = true)
    (htw : ∀ listed, SInv md ops l0 listed → ∀ t ∈ Region.ready md ops listed, t ∉ hd → ∀ i ∈ hd, listed.getD i false = true) (l : List Nat) :
    ∀ (listed : Array Bool) (a : Act), SInv md ops l0 listed → lexS md ops hd l listed = true → wpQuiet P ops C Lq (pick ops.toList l) a →
    headS P md ops C hd (fun listed' a' => (listed' = setAll l listed ∧ ((Region.ready md ops listed').all (fun j => !hd.contains j)) = true) ∧ Lq a') l.length listed a := by
  induction l with
  | nil => intro listed a _ hB h; exact ⟨⟨rfl, by simpa [lexS] using hB⟩, h⟩
  | cons k l ih =>
    intro listed a inv hB h
    simp only [lexS, Bool.and_eq_true] at hB
    obtain ⟨⟨⟨hr, hin⟩, hf⟩, hB'⟩ := hB
    have hr' : k ∈ Region.ready md ops listed := by simpa using hr
    obtain ⟨o, h0⟩ := ready_lt hr'
    have hp : pick ops.toList (k :: l) = o :: pick ops.toList l := by simp [pick, List.getD_eq_getElem?_getD, h0]
    rw [hp] at h
    have hq : qOp P ops C k (wpQuiet P ops C Lq (pick ops.toList l)) a := by unfold qOp; simp only [h0]; exact h
    obtain ⟨v, hy, hK⟩ := yieldsIn_of_qOp h0 hq
    refine headS_first h0 (Region.noSelect_spec hsel) htw (by simpa using hin) (fun listed' a' hL j hj => ?_) l.length listed a inv (Region.free_spec h0 hf) hr' hy ?_
    · have := List.all_eq_true.1 hL.1.2 j hj
      simpa using this
    · exact ih _ _ (inv.set hr') hB' hK
/-- may a piece be taken so -/
def segB (md : Region.Mode) (ops : Array Oper) (hd : List Nat) (l0 : Array Bool) : Bool :=
  Region.noSelect ops && closedB md ops l0 && lexS md ops hd hd l0 && (List.range ops.size).all fun t => hd.contains t || l0.getD t false || hd.all fun i => (ancs md ops t).contains i
theorem wpAny_seg {Q : Exit → Act → World → Prop} {g : Nat} (C : World → Prop) (hd : List Nat) {n : Nat} (hn : hd.length + g = n) {l0 : Array Bool} {a : Act} {w : World} (hB : segB md ops hd l0 = true) (hw : C w)
    (h : wpQuiet P ops C (fun a' => ∀ w', C w' → wpAny P md ops Q g (setAll hd l0) a' w') (pick ops.toList hd) a) : wpAny P md ops Q n l0 a w := by
  subst hn
  simp only [segB, Bool.and_eq_true] at hB
  obtain ⟨⟨⟨h1, h2⟩, h3⟩, h4⟩ := hB
  have inv := sinv_of h2
  have htw : ∀ listed, SInv md ops l0 listed → ∀ t ∈ Region.ready md ops listed, t ∉ hd → ∀ i ∈ hd, listed.getD i false = true := by
    intro listed inv t ht hth i hi
    obtain ⟨hun, o, ho, _⟩ := mem_ready.1 ht
    have h5 := List.all_eq_true.1 h4 t (List.mem_range.2 (Array.getElem?_eq_some_iff.1 ho).1)
    simp only [Bool.or_eq_true] at h5
    rcases h5 with (h5 | h5) | h5
    · exact absurd (by simpa using h5) hth
    · have := inv.mono t h5; rw [getD_both hun] at this; cases this
    · exact inv.ancs ht i (by simpa using List.all_eq_true.1 h5 i hi)
  refine any_of_headS (C := C) (hd := hd) (fun listed' a' w' hw' hL => ?_) hd.length l0 a w hw (headS_lex h1 htw hd l0 a inv h3 h)
  obtain ⟨⟨rfl, _⟩, hL⟩ := hL
  exact hL w' hw'
theorem wp_then {o : Oper} {a : Act} {w : World} {K K0 : Act → World → Prop} {Q : Exit → Act → World → Prop} (h : o.wp P a w K (Exit.then K0 Q)) : o.wp P a w K Q := by
  unfold Oper.wp at *
  generalize (execOp a.eval o).run P w = r at *
  cases r with
  | ok x w' =>
    cases x <;> simp only [Oper.upon] at h ⊢ <;>
      first
        | exact h
        | exact h.mono (fun e w'' he => by cases e <;> first | exact he | exact (let ⟨a, w, h⟩ := he; ⟨a, w, h⟩))
  | halt x w' => cases x <;> simp only [Oper.upon] at h ⊢ <;> exact h
/-- one that comes up alone -/
theorem wpAny_one {Q : Exit → Act → World → Prop} {g : Nat} (i : Nat) {l0 : Array Bool} {a : Act} {w : World} (hB : decide (Region.ready md ops l0 = [i]) = true)
    (h : wpList P ops (Exit.then (wpAny P md ops Q g (l0.setIfInBounds i true)) Q) (pick ops.toList [i]) a w) : wpAny P md ops Q (g + 1) l0 a w := by
  have hr : Region.ready md ops l0 = [i] := by simpa using hB
  obtain ⟨o, ho⟩ := ready_lt (md := md) (ops := ops) (listed := l0) (i := i) (by rw [hr]; simp)
  refine wpAny_all hr (by simp) fun j hj => ?_
  obtain rfl : j = i := by simpa using hj
  have hp : pick ops.toList [j] = [o] := by simp [pick, List.getD_eq_getElem?_getD, ho]
  rw [hp] at h
  unfold wpOp
  simp only [ho]
  unfold wpList at h
  by_cases hw : Region.wanted o (yielded ops a.tmps) = true
  · rw [if_pos hw] at h ⊢
    refine h.imp (fun h => wp_then (Oper.wp_mono (fun a' w' h' => h') h)) (fun h => ⟨h.1, let ⟨a, w, h⟩ := h.2; ⟨a, w, h⟩⟩)
  · rw [if_neg hw] at h ⊢
    exact h
def pureS (md : Region.Mode) (ops : Array Oper) : List Nat → Array Bool → Bool
  | [], _ => true
  | i :: r, listed => (Region.ready md ops listed).contains i && Region.free md ops listed i && pureS md ops r (listed.setIfInBounds i true)
theorem pureS_go {Q : Exit → Act → World → Prop} {g : Nat} {w : World} (hsel : Region.noSelect ops = true) (hQ : ∀ c (a : Act) d v w, Q (.panic c) (a.put d v) w → Q (.panic c) a w) : ∀ (hd : List Nat) (l0 : Array Bool) (a : Act), pureS md ops hd l0 = true → wpPure P ops (fun a' => wpAny P md ops Q g (setAll hd l0) a' w) (pick ops.toList hd) a → wpAny P md ops Q (hd.length + g) l0 a w
  | [], l0, a, _, h => by rw [List.length_nil, Nat.zero_add]; exact h
  | i :: r, l0, a, hB, h => by
    simp only [pureS, Bool.and_eq_true] at hB
    obtain ⟨⟨hr, hf⟩, hB'⟩ := hB
    obtain ⟨o, ho⟩ := ready_lt (md := md) (ops := ops) (listed := l0) (i := i) (by simpa using hr)
    have hp : pick ops.toList (i :: r) = o :: pick ops.toList r := by simp [pick, List.getD_eq_getElem?_getD, ho]
    rw [hp] at h
    rw [List.length_cons, Nat.succ_add]
    unfold wpPure at h
    by_cases hw : Region.wanted o (yielded ops a.tmps) = true
    · rw [if_pos hw] at h
      obtain ⟨v, hv, hrest⟩ := h
      exact wpAny_take ho hsel hf hr (fun c a w => hQ c a _ _ w) (.inl ⟨hw, hv⟩) (pureS_go hsel hQ r _ _ hB' hrest)
    · rw [if_neg hw] at h
      exact wpAny_take ho hsel hf hr (fun c a w => hQ c a _ _ w) (.inr ⟨by simpa using hw, rfl⟩) (pureS_go hsel hQ r _ _ hB' h)
/-- those that only compute may be taken first -/
theorem wpAny_pure {Q : Exit → Act → World → Prop} {g n : Nat} (hd : List Nat) (hn : hd.length + g = n) {l0 : Array Bool} {a : Act} {w : World} (hB : (Region.noSelect ops && pureS md ops hd l0) = true) (hQ : ∀ c (a : Act) d v w, Q (.panic c) (a.put d v) w → Q (.panic c) a w)
    (h : wpPure P ops (fun a' => wpAny P md ops Q g (setAll hd l0) a' w) (pick ops.toList hd) a) : wpAny P md ops Q n l0 a w := by
  subst hn
  simp only [Bool.and_eq_true] at hB
  exact pureS_go hB.1 hQ hd l0 a hB.2 h
theorem wp_region_pieces {id : Nat} {Q : Exit → Act → World → Prop} {a : Act} {w : World} {l : List Oper} (hm : P.follows .mixedOrders = true)
    (h : wpAny P .any l.toArray Q l.length (Array.replicate l.length false) a w.drew) : (Code.region id l.toArray true).wp P Q a w := by
  refine wp_region_any hm ?_
  simpa using h
/-- operations that read, in every world that meets S, the same; then L -/
def wpRead (P : Program) (ops : Array Oper) (S : World → Prop) (L : Act → Prop) : List Oper → Act → Prop
  | [], a => L a
  | o :: rest, a => if Region.wanted o (yielded ops a.tmps) = true then ∃ v, (∀ w, S w → (execOp a.eval o).run P w = .ok (.value v) w) ∧ wpRead P ops S L rest (a.put o.dst v) else wpRead P ops S L rest (a.put o.dst undef)
theorem wpRead_nil {S : World → Prop} {L : Act → Prop} {a : Act} (h : L a) : wpRead P ops S L [] a := h
theorem wpRead_step {S : World → Prop} {L : Act → Prop} {a : Act} {o : Oper} {rest : List Oper}
    (h : ∀ K : Act → Prop, (∀ a, wpRead P ops S L rest a → K a) → if Region.wanted o (yielded ops a.tmps) = true then ∃ v, (∀ w, S w → (execOp a.eval o).run P w = .ok (.value v) w) ∧ K (a.put o.dst v) else K (a.put o.dst undef)) : wpRead P ops S L (o :: rest) a :=
  h _ (fun _ h => h)
theorem reads_go {S : World → Prop} {Q : Exit → Act → World → Prop} {g : Nat} {w : World} (hsel : Region.noSelect ops = true) (hS : S w) (hQ : ∀ c (a : Act) d v w, Q (.panic c) (a.put d v) w → Q (.panic c) a w) : ∀ (hd : List Nat) (l0 : Array Bool) (a : Act), pureS md ops hd l0 = true → wpRead P ops S (fun a' => wpAnyH P md ops Q S g (setAll hd l0) a' w) (pick ops.toList hd) a → wpAnyH P md ops Q S (hd.length + g) l0 a w
  | [], l0, a, _, h => by rw [List.length_nil, Nat.zero_add]; exact h
  | i :: r, l0, a, hB, h => by
    simp only [pureS, Bool.and_eq_true] at hB
    obtain ⟨⟨hr, hf⟩, hB'⟩ := hB
    obtain ⟨o, ho⟩ := ready_lt (md := md) (ops := ops) (listed := l0) (i := i) (by simpa using hr)
    have hp : pick ops.toList (i :: r) = o :: pick ops.toList r := by simp [pick, List.getD_eq_getElem?_getD, ho]
    rw [hp] at h
    rw [List.length_cons, Nat.succ_add]
    unfold wpRead at h
    by_cases hw : Region.wanted o (yielded ops a.tmps) = true
    · rw [if_pos hw] at h
      obtain ⟨v, hv, hrest⟩ := h
      exact wpAnyH_take ho hsel hf hr (fun c a w => hQ c a _ _ w) (.inl ⟨hw, hv⟩) hS (reads_go hsel hS hQ r _ _ hB' hrest)
    · rw [if_neg hw] at h
      exact wpAnyH_take ho hsel hf hr (fun c a w => hQ c a _ _ w) (.inr ⟨by simpa using hw, rfl⟩) hS (reads_go hsel hS hQ r _ _ hB' h)
/-- those that only read what S says may be taken first -/
theorem held_reads {S : World → Prop} {Q : Exit → Act → World → Prop} {g n : Nat} (hd : List Nat) (hn : hd.length + g = n) {l0 : Array Bool} {a : Act} {w : World} (hB : (Region.noSelect ops && pureS md ops hd l0) = true) (hS : S w) (hQ : ∀ c (a : Act) d v w, Q (.panic c) (a.put d v) w → Q (.panic c) a w)
    (h : wpRead P ops S (fun a' => wpAnyH P md ops Q S g (setAll hd l0) a' w) (pick ops.toList hd) a) : wpAnyH P md ops Q S n l0 a w := by
  subst hn
  simp only [Bool.and_eq_true] at hB
  exact reads_go hB.1 hS hQ hd l0 a hB.2 h
/-- one that comes up alone: behind it S holds -/
theorem held_one {S : World → Prop} {Q : Exit → Act → World → Prop} {g : Nat} (i : Nat) {l0 : Array Bool} {a : Act} {w : World} (hB : decide (Region.ready md ops l0 = [i]) = true)
    (h : wpList P ops (Exit.then (fun a' w' => S w' ∧ wpAnyH P md ops Q S g (l0.setIfInBounds i true) a' w') Q) (pick ops.toList [i]) a w) : wpAnyH P md ops Q S (g + 1) l0 a w := by
  have hr : Region.ready md ops l0 = [i] := by simpa using hB
  obtain ⟨o, ho⟩ := ready_lt (md := md) (ops := ops) (listed := l0) (i := i) (by rw [hr]; simp)
  refine wpAnyH_all hr (by simp) fun j hj => ?_
  obtain rfl : j = i := by simpa using hj
  have hp : pick ops.toList [j] = [o] := by simp [pick, List.getD_eq_getElem?_getD, ho]
  rw [hp] at h
  unfold wpOp
  simp only [ho]
  unfold wpList at h
  by_cases hw : Region.wanted o (yielded ops a.tmps) = true
  · rw [if_pos hw] at h ⊢
    refine h.imp (fun h => wp_then (Oper.wp_mono (fun a' w' h' => h') h)) (fun h => ⟨h.1, let ⟨a, w, h⟩ := h.2; ⟨a, w, h⟩⟩)
  · rw [if_neg hw] at h ⊢
    exact h
theorem wp_region_heldP {id : Nat} {Q : Exit → Act → World → Prop} {a : Act} {w : World} {l : List Oper} (S : World → Prop) (hm : P.follows .mixedOrders = true)
    (h : wpAnyH P .any l.toArray Q S l.length (Array.replicate l.length false) a w.drew) : (Code.region id l.toArray true).wp P Q a w := by
  refine wp_region_held (S := S) hm ?_
  simpa using h
end
end Go.Proofs.Ytgainkgbodmciaa
/- Interfaces; the reference's Check. -/
namespace Go.Proofs.Ytgainkgbodmciaa
open Go.RowKit

structure If where
  id : Int
  r : Int
  ad : Nat
  ln : Int
  cp : Int
deriving Inhabited
def If.v (x : If) : Value := .agg #[.int .i64 x.id, .int .i64 x.r, .int .u32 x.ad, .int .i64 x.ln, .int .i64 x.cp]
def RIf : Rep If := ⟨83, 5, by decide, fun x => [.int .i64 x.id, .int .i64 x.r, .int .u32 (x.ad : Int), .int .i64 x.ln, .int .i64 x.cp], fun _ => rfl, fun _ => rfl⟩
def okI (x : If) : Bool := decide (0 ≤ x.id) && decide (x.id ≤ 4294967295) && decide (0 ≤ x.r) && decide (x.r ≤ 15) && okP x.ad x.ln && decide (0 ≤ x.cp) && decide (x.cp ≤ 9007199254740991)
/-- interfaces that may be -/
structure Good (l : List If) : Prop where
  ok : ∀ x ∈ l, okI x = true
  ids : ∀ k i, k < i → i < l.length → (l.getD k default).id ≠ (l.getD i default).id
  nets : ∀ k i, k < i → i < l.length → (l.getD k default).r = (l.getD i default).r → (l.getD k default).ad = (l.getD i default).ad → (l.getD k default).ln = (l.getD i default).ln → False
  len : l.length ≤ 256
/-- true is told only where p holds -/
def Tells (e : Ending) (p : Prop) : Prop := ∃ b : Bool, e = .returned (.bool b) ∧ (b = true → p)
theorem Tells.no {p : Prop} : Tells (.returned (.bool false)) p := ⟨false, rfl, fun h => by cases h⟩
theorem Tells.yes {p : Prop} (h : p) : Tells (.returned (.bool true)) p := ⟨true, rfl, fun _ => h⟩
/-- interfaces in a slice -/
structure Ifs (w : World) (oa : Option Addr) (n c : Nat) (l : List If) : Prop where
  sl : RIf.Sl w oa n c l
  ad : ∀ x ∈ l, x.ad < 4294967296
theorem Ifs.keep {w w' : World} {oa : Option Addr} {n c : Nat} {l : List If} (h : Ifs w oa n c l) (hb : Below w.heap.size w w') : Ifs w' oa n c l := ⟨h.sl.keep hb, h.ad⟩
def IfS (b : Nat) (x : If) (w : World) : Prop := w.heap[b]? = some (.cells #[.int .i64 x.id, .int .i64 x.r, .int .u32 (x.ad : Int), .int .i64 x.ln, .int .i64 x.cp] 83)
theorem IfS.cells {b : Nat} {x : If} {w : World} (h : IfS b x w) : w.cell? ⟨b, 0, none⟩ = some (.int .i64 x.id) ∧ w.cell? ⟨b, 1, none⟩ = some (.int .i64 x.r) ∧ w.cell? ⟨b, 2, none⟩ = some (.int .u32 (x.ad : Int)) ∧ w.cell? ⟨b, 3, none⟩ = some (.int .i64 x.ln) ∧ w.cell? ⟨b, 4, none⟩ = some (.int .i64 x.cp) := ⟨cell_of h rfl, cell_of h rfl, cell_of h rfl, cell_of h rfl, cell_of h rfl⟩
theorem IfS.on {b : Nat} {x : If} {w w' : World} (h : IfS b x w) (hb : Below w.heap.size w w') : IfS b x w' := (hb.block _ (lt_of_blk h)).trans h
theorem bcall {B : Nat} {w w2 w3 : World} (h : Below B w w2) (hB : B ≤ w.heap.size) (h3 : Below w2.heap.size w2 w3) : Below B w w3 := h.trans (h3.mono (Nat.le_trans hB h.size))
theorem wrapS {i n : Nat} (h : i < n) (hn : n ≤ maxLen) : wrap64 ((i : Int) + 1) = ((i + 1 : Nat) : Int) := by unfold maxLen at hn; unfold wrap64; omega
theorem mSucc {i n : Nat} (h : i < n) : n - (intOf (.int .i64 ((i + 1 : Nat) : Int))).toNat < n - (intOf (.int .i64 (i : Int))).toNat := by show n - ((i + 1 : Nat) : Int).toNat < n - (i : Int).toNat; omega
theorem okI_iff {x : If} : okI x = true ↔ 0 ≤ x.id ∧ x.id ≤ 4294967295 ∧ 0 ≤ x.r ∧ x.r ≤ 15 ∧ okP x.ad x.ln = true ∧ 0 ≤ x.cp ∧ x.cp ≤ 9007199254740991 := by simp [okI, and_assoc]
/-- so many of them are good -/
structure GoodTo (l : List If) (i : Nat) : Prop where
  ok : ∀ j, j < i → okI (l.getD j default) = true
  ids : ∀ k j, k < j → j < i → (l.getD k default).id ≠ (l.getD j default).id
  nets : ∀ k j, k < j → j < i → (l.getD k default).r = (l.getD j default).r → (l.getD k default).ad = (l.getD j default).ad → (l.getD k default).ln = (l.getD j default).ln → False
theorem GoodTo.good {l : List If} (h : GoodTo l l.length) (hl : l.length ≤ 256) : Good l :=
  ⟨fun x hx => by
    obtain ⟨j, hj, rfl⟩ := List.mem_iff_getElem.1 hx
    have := h.ok j hj
    rw [List.getD_eq_getElem?_getD, List.getElem?_eq_getElem hj] at this
    exact this, h.ids, h.nets, hl⟩
set_option maxRecDepth 100000 in
set_option maxHeartbeats 2000000 in
theorem rchk_any {w : World} {oa : Option Addr} {n c : Nat} {l : List If} (h : Ifs w oa n c l) : Calls Try.prog 16 #[.slice oa n c] w fun e w' => Tells e (Good l) ∧ Below w.heap.size w w' := by
  have HL := Lib.hid h.sl.len
  have F := Lib.hid h
  have hmax := h.sl.max
  clear h
  go_enter Try.func16, Try.ntmps16
  go_wp2_with fail
  go_loopw [3] (fun iv wr => ∃ i : Nat, i ≤ n ∧ iv = .int .i64 i ∧ GoodTo l i ∧ Below w.heap.size w wr) (fun iv _ => n - (intOf iv).toNat)
  case atStart => exact ⟨0, Nat.zero_le _, rfl, ⟨fun j hj => by omega, fun k j _ hj => by omega, fun k j _ hj => by omega⟩, Below.refl _ _⟩
  case round =>
    obtain ⟨i, hi, rfl, hg, hb⟩ := hrel
    obtain ⟨w2, rfl⟩ : ∃ w2 : World, w2 = wr := ⟨_, rfl⟩
    have HG := Lib.hid hg
    clear hg
    by_cases hlt : i < n
    · have hil : ((i : Int) < (n : Int)) = True := by simp; omega
      have hlen : l.length = n := HL.out.symm
      obtain ⟨b0, o0, rfl, hbb, hat⟩ := (F.out.keep hb).sl.at hlt
      have c0 := hat 0 (by decide)
      have c1 := hat 1 (by decide)
      have c2 := hat 2 (by decide)
      have c3 := hat 3 (by decide)
      have c4 := hat 4 (by decide)
      simp only [RIf, Nat.add_zero, List.getElem?_cons_zero, List.getElem?_cons_succ] at c0 c1 c2 c3 c4
      have hadx : (l.getD i default).ad < 4294967296 := F.out.ad _ (getD_mem (by omega))
      obtain ⟨x, hx⟩ : ∃ x, l.getD i default = x := ⟨_, rfl⟩
      rw [hx] at c0 c1 c2 c3 c4 hadx
      have HX := Lib.hid hx
      have hal := (Below.refl w2.heap.size w2).alloc (Nat.le_refl _) (.cells #[.int .i64 x.id, .int .i64 x.r, .int .u32 (x.ad : Int), .int .i64 x.ln, .int .i64 x.cp] 83)
      have hxs : IfS w2.heap.size x (w2.alloc (.cells #[.int .i64 x.id, .int .i64 x.r, .int .u32 (x.ad : Int), .int .i64 x.ln, .int .i64 x.cp] 83)) := hnew _ _
      have F1 := Lib.hid (And.intro (bcall hb (Nat.le_refl _) hal) (And.intro hxs hadx))
      obtain ⟨z0, z1, z2, z3, z4⟩ := hxs.cells
      clear hal hxs hat hx hadx hb hlen
      have hw3 := wrapS hlt hmax
      by_cases h1 : x.id < 0
      · have h1t : (x.id < 0) = True := by simp; omega
        go_wp2_with fail
        go_ret
        exact ⟨Tells.no, F1.out.1⟩
      have h1f : (x.id < 0) = False := by simp; omega
      by_cases h2 : 4294967295 < x.id
      · have h2t : (4294967295 < x.id) = True := by simp; omega
        go_wp2_with fail
        go_ret
        exact ⟨Tells.no, F1.out.1⟩
      have h2f : (4294967295 < x.id) = False := by simp; omega
      by_cases h3 : x.r < 0
      · have h3t : (x.r < 0) = True := by simp; omega
        go_wp2_with fail
        go_ret
        exact ⟨Tells.no, F1.out.1⟩
      have h3f : (x.r < 0) = False := by simp; omega
      by_cases h4 : 15 < x.r
      · have h4t : (15 < x.r) = True := by simp; omega
        go_wp2_with fail
        go_ret
        exact ⟨Tells.no, F1.out.1⟩
      have h4f : (15 < x.r) = False := by simp; omega
      go_wp2_with fail
      generalize w2.alloc (.cells #[.int .i64 x.id, .int .i64 x.r, .int .u32 (x.ad : Int), .int .i64 x.ln, .int .i64 x.cp] 83) = W1 at *
      generalize w2.heap.size = q1 at *
      refine (rcheck_any x.ad x.ln F1.out.2.2 W1).mono ?_
      rintro e W2 ⟨rfl, hb2⟩
      have F2 := Lib.hid (And.intro (bcall F1.out.1 (Nat.le_refl _) hb2) (F1.out.2.1.on hb2))
      clear F1 hb2 z0 z1 z2 z3 z4
      obtain ⟨z0, z1, z2, z3, z4⟩ := F2.out.2.cells
      cases hok : okP x.ad x.ln with
      | false =>
        go_wp2_with fail
        go_ret
        exact ⟨Tells.no, F2.out.1⟩
      | true =>
        by_cases h5 : x.cp < 0
        · have h5t : (x.cp < 0) = True := by simp; omega
          go_wp2_with fail
          go_ret
          exact ⟨Tells.no, F2.out.1⟩
        have h5f : (x.cp < 0) = False := by simp; omega
        by_cases h6 : 9007199254740991 < x.cp
        · have h6t : (9007199254740991 < x.cp) = True := by simp; omega
          go_wp2_with fail
          go_ret
          exact ⟨Tells.no, F2.out.1⟩
        have h6f : (9007199254740991 < x.cp) = False := by simp; omega
        go_wp2_with fail
        have hokx : okI x = true := okI_iff.2 ⟨by omega, by omega, by omega, by omega, hok, by omega, by omega⟩
        have HO := Lib.hid hokx
        clear hokx z0 z1 z2 z3 z4 h1 h2 h3 h4 h5 h6 h1f h2f h3f h4f h5f h6f hok c0 c1 c2 c3 c4
        go_loopw [5] (fun kv wr => ∃ k : Nat, k ≤ i ∧ kv = .int .i64 k ∧ (∀ j, j < k → (l.getD j default).id ≠ x.id ∧ ((l.getD j default).r = x.r → (l.getD j default).ad = x.ad → (l.getD j default).ln = x.ln → False)) ∧ Below w.heap.size w wr ∧ IfS q1 x wr) (fun kv _ => i - (intOf kv).toNat)
        case atStart => exact ⟨0, Nat.zero_le _, rfl, fun j hj => by omega, F2.out⟩
        case round =>
          obtain ⟨k, hk, rfl, hne, hb, hxs⟩ := hrel
          obtain ⟨w3, rfl⟩ : ∃ w3 : World, w3 = wr := ⟨_, rfl⟩
          have HN := Lib.hid hne
          clear hne
          by_cases hkt : k < i
          · have hki : ((k : Int) < (i : Int)) = True := by simp; omega
            have hd := (Below.refl w3.heap.size w3).drew
            have hwk := wrapS hkt (by omega)
            have hkn : k < n := by omega
            have hlenl : l.length = n := HL.out.symm
            obtain ⟨b1, o1, e1, hbb1, hat⟩ := (F.out.keep (bcall hb (Nat.le_refl _) hd)).sl.at hkn
            obtain ⟨rfl, rfl⟩ : b0 = b1 ∧ o0 = o1 := by simp only [Option.some.injEq, Addr.mk.injEq] at e1; exact ⟨e1.1, e1.2.1⟩
            have c0 := hat 0 (by decide)
            have c1 := hat 1 (by decide)
            have c2 := hat 2 (by decide)
            have c3 := hat 3 (by decide)
            simp only [RIf, Nat.add_zero, List.getElem?_cons_zero, List.getElem?_cons_succ] at c0 c1 c2 c3
            obtain ⟨y, hy⟩ : ∃ y, l.getD k default = y := ⟨_, rfl⟩
            rw [hy] at c0 c1 c2 c3
            have F3 := Lib.hid (And.intro (bcall hb (Nat.le_refl _) hd) (And.intro (hxs.on hd) hy))
            clear hd hb hxs hat hbb1 hy hlenl
            go_wp2_with fail
            refine wp_region_heldP (fun w' => w' = w3.drew) (by kernel_rfl) ?_
            obtain ⟨z0, z1, z2, z3, z4⟩ := F3.out.2.1.cells
            generalize w3.drew = Wd at *
            have hcase : ((y.id = x.id) = True ∧ True) ∨ ((y.id = x.id) = False ∧ (y.r = x.r) = False ∧ (y.id ≠ x.id ∧ (y.r = x.r → y.ad = x.ad → y.ln = x.ln → False))) ∨ ((y.id = x.id) = False ∧ (y.r = x.r) = True ∧ ((y.ad : Int) = (x.ad : Int)) = True ∧ (y.ln = x.ln) = True) ∨ ((y.id = x.id) = False ∧ (y.r = x.r) = True ∧ ((y.ad : Int) = (x.ad : Int)) = False ∧ (y.id ≠ x.id ∧ (y.r = x.r → y.ad = x.ad → y.ln = x.ln → False))) ∨ ((y.id = x.id) = False ∧ (y.r = x.r) = True ∧ ((y.ad : Int) = (x.ad : Int)) = True ∧ (y.ln = x.ln) = False ∧ (y.id ≠ x.id ∧ (y.r = x.r → y.ad = x.ad → y.ln = x.ln → False))) := by
              by_cases g1 : y.id = x.id
              · exact .inl ⟨by simp [g1], trivial⟩
              · by_cases g2 : y.r = x.r
                · by_cases g3 : y.ad = x.ad
                  · by_cases g4 : y.ln = x.ln
                    · exact .inr (.inr (.inl ⟨by simp [g1], by simp [g2], by simp [g3], by simp [g4]⟩))
                    · exact .inr (.inr (.inr (.inr ⟨by simp [g1], by simp [g2], by simp [g3], by simp [g4], g1, fun _ _ h => g4 h⟩)))
                  · exact .inr (.inr (.inr (.inl ⟨by simp [g1], by simp [g2], by simp; omega, g1, fun _ h _ => g3 h⟩)))
                · exact .inr (.inl ⟨by simp [g1], by simp [g2], g1, fun h => absurd h g2⟩)
            rcases hcase with ⟨g1, -⟩ | ⟨g1, g2, hnn⟩ | ⟨g1, g2, g3, g4⟩ | ⟨g1, g2, g3, hnn⟩ | ⟨g1, g2, g3, g4, hnn⟩
            · refine held_reads [0, 1, 2, 3, 4, 5, 6, 7, 8, 9, 10, 11, 12, 13, 14, 15, 16, 17, 18, 19, 20, 21, 22, 23, 24, 25, 26, 27] (g := 0) rfl (by kernel_rfl) rfl (fun _ _ d _ _ h => by cases d <;> exact h) ?_
              simp only [pick, List.getD_cons_zero, List.getD_cons_succ]
              iterate 28 ((with_reducible refine wpRead_step (fun K hK => ?_)); go_simp; first | (rw [if_neg (by decide)]; (with_reducible refine hK _ ?_); clear hK K) | ((with_reducible refine hK _ ?_); clear hK K) | (apply Exists.intro; (with_reducible refine ⟨fun w' hw' => ?_, hK _ ?_⟩); (subst hw'; go_simp; first | exact rfl | exact ⟨rfl, rfl⟩); clear hK K))
              with_reducible refine wpRead_nil ?_
              refine wpAnyH_done (by kernel_rfl) ?_ _
              have g1b : (y.id == x.id) = true := by simpa using g1
              simp only [g1b]
              go_wp2_with fail
              go_ret
              exact ⟨Tells.no, F3.out.1⟩
            · have HNN := Lib.hid hnn
              clear hnn
              refine held_reads [0, 1, 2, 3, 4, 5, 6, 7, 8, 9, 10, 11, 12, 13, 14, 15, 16, 17, 18, 19, 20, 21, 22, 23, 24, 25, 26, 27] (g := 0) rfl (by kernel_rfl) rfl (fun _ _ d _ _ h => by cases d <;> exact h) ?_
              simp only [pick, List.getD_cons_zero, List.getD_cons_succ]
              iterate 28 ((with_reducible refine wpRead_step (fun K hK => ?_)); go_simp; first | (rw [if_neg (by decide)]; (with_reducible refine hK _ ?_); clear hK K) | ((with_reducible refine hK _ ?_); clear hK K) | (apply Exists.intro; (with_reducible refine ⟨fun w' hw' => ?_, hK _ ?_⟩); (subst hw'; go_simp; first | exact rfl | exact ⟨rfl, rfl⟩); clear hK K))
              with_reducible refine wpRead_nil ?_
              refine wpAnyH_done (by kernel_rfl) ?_ _
              have g1b : (y.id == x.id) = false := by simpa using g1
              have g2b : (y.r == x.r) = false := by simpa using g2
              simp only [g1b, g2b]
              go_wp2_with fail
              exact ⟨⟨k + 1, hkt, by first | rw [hwk] | rw [Int.natCast_succ], fun j hj => by
                rcases Nat.lt_succ_iff_lt_or_eq.1 hj with h | rfl
                · exact HN.out j h
                · rw [F3.out.2.2]; exact HNN.out, F3.out.1, F3.out.2.1⟩, by first | (rw [hwk]; exact mSucc hkt) | (rw [← Int.natCast_succ]; exact mSucc hkt)⟩
            · refine held_reads [0, 1, 2, 3, 4, 5, 6, 7, 8, 9, 10, 11, 12, 13, 14, 15, 16, 17, 18, 19, 20, 21, 22, 23, 24, 25, 26, 27] (g := 0) rfl (by kernel_rfl) rfl (fun _ _ d _ _ h => by cases d <;> exact h) ?_
              simp only [pick, List.getD_cons_zero, List.getD_cons_succ]
              iterate 28 ((with_reducible refine wpRead_step (fun K hK => ?_)); go_simp; first | (rw [if_neg (by decide)]; (with_reducible refine hK _ ?_); clear hK K) | ((with_reducible refine hK _ ?_); clear hK K) | (apply Exists.intro; (with_reducible refine ⟨fun w' hw' => ?_, hK _ ?_⟩); (subst hw'; go_simp; first | exact rfl | exact ⟨rfl, rfl⟩); clear hK K))
              with_reducible refine wpRead_nil ?_
              refine wpAnyH_done (by kernel_rfl) ?_ _
              have g1b : (y.id == x.id) = false := by simpa using g1
              have g2b : (y.r == x.r) = true := by simpa using g2
              simp only [g1b, g2b, Bool.false_or]
              go_wp2_with fail
              go_ret
              exact ⟨Tells.no, F3.out.1⟩
            · have HNN := Lib.hid hnn
              clear hnn
              refine held_reads [0, 1, 2, 3, 4, 5, 6, 7, 8, 9, 10, 11, 12, 13, 14, 15, 16, 17, 18, 19, 20, 21, 22, 23, 24, 25, 26, 27] (g := 0) rfl (by kernel_rfl) rfl (fun _ _ d _ _ h => by cases d <;> exact h) ?_
              simp only [pick, List.getD_cons_zero, List.getD_cons_succ]
              iterate 28 ((with_reducible refine wpRead_step (fun K hK => ?_)); go_simp; first | (rw [if_neg (by decide)]; (with_reducible refine hK _ ?_); clear hK K) | ((with_reducible refine hK _ ?_); clear hK K) | (apply Exists.intro; (with_reducible refine ⟨fun w' hw' => ?_, hK _ ?_⟩); (subst hw'; go_simp; first | exact rfl | exact ⟨rfl, rfl⟩); clear hK K))
              with_reducible refine wpRead_nil ?_
              refine wpAnyH_done (by kernel_rfl) ?_ _
              have g1b : (y.id == x.id) = false := by simpa using g1
              have g2b : (y.r == x.r) = true := by simpa using g2
              simp only [g1b, g2b]
              go_wp2_with fail
              exact ⟨⟨k + 1, hkt, by first | rw [hwk] | rw [Int.natCast_succ], fun j hj => by
                rcases Nat.lt_succ_iff_lt_or_eq.1 hj with h | rfl
                · exact HN.out j h
                · rw [F3.out.2.2]; exact HNN.out, F3.out.1, F3.out.2.1⟩, by first | (rw [hwk]; exact mSucc hkt) | (rw [← Int.natCast_succ]; exact mSucc hkt)⟩
            · have HNN := Lib.hid hnn
              clear hnn
              refine held_reads [0, 1, 2, 3, 4, 5, 6, 7, 8, 9, 10, 11, 12, 13, 14, 15, 16, 17, 18, 19, 20, 21, 22, 23, 24, 25, 26, 27] (g := 0) rfl (by kernel_rfl) rfl (fun _ _ d _ _ h => by cases d <;> exact h) ?_
              simp only [pick, List.getD_cons_zero, List.getD_cons_succ]
              iterate 28 ((with_reducible refine wpRead_step (fun K hK => ?_)); go_simp; first | (rw [if_neg (by decide)]; (with_reducible refine hK _ ?_); clear hK K) | ((with_reducible refine hK _ ?_); clear hK K) | (apply Exists.intro; (with_reducible refine ⟨fun w' hw' => ?_, hK _ ?_⟩); (subst hw'; go_simp; first | exact rfl | exact ⟨rfl, rfl⟩); clear hK K))
              with_reducible refine wpRead_nil ?_
              refine wpAnyH_done (by kernel_rfl) ?_ _
              have g1b : (y.id == x.id) = false := by simpa using g1
              have g2b : (y.r == x.r) = true := by simpa using g2
              simp only [g1b, g2b]
              go_wp2_with fail
              exact ⟨⟨k + 1, hkt, by first | rw [hwk] | rw [Int.natCast_succ], fun j hj => by
                rcases Nat.lt_succ_iff_lt_or_eq.1 hj with h | rfl
                · exact HN.out j h
                · rw [F3.out.2.2]; exact HNN.out, F3.out.1, F3.out.2.1⟩, by first | (rw [hwk]; exact mSucc hkt) | (rw [← Int.natCast_succ]; exact mSucc hkt)⟩
          · obtain rfl : i = k := by omega
            have hki : ((i : Int) < (i : Int)) = False := by simp
            have F3 := Lib.hid hb
            have hgs : GoodTo l (i + 1) := by
              refine ⟨fun j hj => ?_, fun k j hkj hj => ?_, fun k j hkj hj => ?_⟩
              · rcases Nat.lt_succ_iff_lt_or_eq.1 hj with h | rfl
                · exact HG.out.ok j h
                · rw [HX.out]; exact HO.out
              · rcases Nat.lt_succ_iff_lt_or_eq.1 hj with h | rfl
                · exact HG.out.ids k j hkj h
                · rw [HX.out]; exact (HN.out k hkj).1
              · rcases Nat.lt_succ_iff_lt_or_eq.1 hj with h | rfl
                · exact HG.out.nets k j hkj h
                · rw [HX.out]; exact (HN.out k hkj).2
            have HGS := Lib.hid hgs
            clear hb hxs hgs
            go_wp2_with fail
            exact ⟨⟨i + 1, hlt, by first | rw [hw3] | rw [Int.natCast_succ], HGS.out, F3.out⟩, by first | (rw [hw3]; exact mSucc hlt) | (rw [← Int.natCast_succ]; exact mSucc hlt)⟩
    · obtain rfl : n = i := by omega
      have hil : ((n : Int) < (n : Int)) = False := by simp
      have F1 := Lib.hid hb
      clear hb
      have hgd : n ≤ 256 → Good l := fun h => by have := HG.out; rw [HL.out] at this; exact this.good (by rw [← HL.out]; exact h)
      have HGD := Lib.hid hgd
      clear hgd
      by_cases h256 : n ≤ 256
      · have h2 : ((n : Int) ≤ 256) = True := by simp; omega
        go_wp2_with fail
        go_ret
        exact ⟨Tells.yes (HGD.out h256), F1.out⟩
      · have h2 : ((n : Int) ≤ 256) = False := by simp; omega
        go_wp2_with fail
        go_ret
        exact ⟨Tells.no, F1.out⟩
end Go.Proofs.Ytgainkgbodmciaa
/- within, odd; none of the good ones is odd. -/
namespace Go.Proofs.Ytgainkgbodmciaa
open Go.RowKit

theorem hwithin_any (n a b : Int) (w : World) : Calls Try.prog 59 #[.int .i64 n, .int .i64 a, .int .i64 b] w fun e w' => e = .returned (.bool (decide (a ≤ n) && decide (n ≤ b))) ∧ w' = w := by
  by_cases h1 : a ≤ n
  · by_cases h2 : n ≤ b
    · go_enter Try.func59, Try.ntmps59
      go_wp2_with fail
      go_ret
      exact ⟨by simp [h1, h2], rfl⟩
    · go_enter Try.func59, Try.ntmps59
      go_wp2_with fail
      go_ret
      exact ⟨by simp [h2], rfl⟩
  · go_enter Try.func59, Try.ntmps59
    go_wp2_with fail
    go_ret
    exact ⟨by rw [decide_eq_false (Int.not_le.2 h1)]; rfl, rfl⟩
theorem hwithin_ok {n a b : Int} (h : a ≤ n ∧ n ≤ b) (w : World) : Calls Try.prog 59 #[.int .i64 n, .int .i64 a, .int .i64 b] w fun e w' => e = .returned (.bool true) ∧ w' = w :=
  (hwithin_any n a b w).mono fun e w' ⟨h1, h2⟩ => ⟨by rw [h1]; simp [h.1, h.2], h2⟩
set_option maxRecDepth 100000 in
set_option maxHeartbeats 1000000 in
theorem odd_ok {x : If} (hok : okI x = true) (had : x.ad < 4294967296) (w : World) : Calls Try.prog 63 #[x.v] w fun e w' => e = .returned (.bool false) ∧ Below w.heap.size w w' := by
  obtain ⟨h1, h2, h3, h4, h5, h6, h7⟩ := okI_iff.1 hok
  have hal := (Below.refl w.heap.size w).alloc (Nat.le_refl _) (.cells #[.int .i64 x.id, .int .i64 x.r, .int .u32 (x.ad : Int), .int .i64 x.ln, .int .i64 x.cp] 83)
  have hxs : IfS w.heap.size x (w.alloc (.cells #[.int .i64 x.id, .int .i64 x.r, .int .u32 (x.ad : Int), .int .i64 x.ln, .int .i64 x.cp] 83)) := hnew _ _
  have H1 := Lib.hid (fun W => hwithin_ok (n := x.id) (a := 0) (b := 4294967295) ⟨h1, h2⟩ W)
  have H2 := Lib.hid (fun W => hwithin_ok (n := x.r) (a := 0) (b := 15) ⟨h3, h4⟩ W)
  have H4 := Lib.hid (fun W => hwithin_ok (n := x.cp) (a := 0) (b := 9007199254740991) ⟨h6, h7⟩ W)
  have H3 := Lib.hid (fun W => by have := check_any x.ad x.ln had W; rw [h5, if_pos rfl] at this; exact this)
  have F := Lib.hid (And.intro hal hxs)
  obtain ⟨z0, z1, z2, z3, z4⟩ := hxs.cells
  unfold If.v
  clear h1 h2 h3 h4 h5 h6 h7 hal hxs hok had
  go_enter Try.func63, Try.ntmps63
  go_wp2_with fail
  refine (H1.out _).mono ?_
  rintro e W1 ⟨rfl, hw1⟩
  generalize w.alloc (.cells #[.int .i64 x.id, .int .i64 x.r, .int .u32 (x.ad : Int), .int .i64 x.ln, .int .i64 x.cp] 83) = W at *
  subst W1
  go_wp2_with fail
  refine (H2.out _).mono ?_
  rintro e W1 ⟨rfl, hw1⟩
  subst W1
  go_wp2_with fail
  refine (H3.out _).mono ?_
  rintro e W1 ⟨rfl, hb1⟩
  have F1 := Lib.hid (And.intro (bcall F.out.1 (Nat.le_refl _) hb1) (F.out.2.on hb1))
  clear z0 z1 z2 z3 z4 hb1 F
  obtain ⟨z0, z1, z2, z3, z4⟩ := F1.out.2.cells
  go_wp2_with fail
  refine (H4.out _).mono ?_
  rintro e W2 ⟨rfl, hw1⟩
  subst W2
  go_wp2_with fail
  go_ret
  exact ⟨rfl, F1.out.1⟩
def CalleeF (f : Nat) : Value := .func (.func f) #[] #[]
set_option maxRecDepth 100000 in
set_option maxHeartbeats 1000000 in
theorem index_ok {w : World} {oa : Option Addr} {n c : Nat} {l : List If} (h : Ifs w oa n c l) (hok : ∀ x ∈ l, okI x = true) : Calls Try.prog 87 #[.slice oa n c, CalleeF 63] w fun e w' => e = .returned (.int .i64 (-1)) ∧ Below w.heap.size w w' := by
  have HL := Lib.hid h.sl.len
  have F := Lib.hid h
  have HO := Lib.hid hok
  have hmax := h.sl.max
  clear h hok
  unfold CalleeF
  go_enter Try.func87, Try.ntmps87
  go_wp2_with fail
  go_loopw [8] (fun iv wr => ∃ i : Nat, i ≤ n ∧ iv = .int .i64 i ∧ Below w.heap.size w wr) (fun iv _ => n - (intOf iv).toNat)
  case atStart => exact ⟨0, Nat.zero_le _, rfl, Below.refl _ _⟩
  case round =>
    obtain ⟨i, hi, rfl, hb⟩ := hrel
    obtain ⟨w2, rfl⟩ : ∃ w2 : World, w2 = wr := ⟨_, rfl⟩
    by_cases hlt : i < n
    · have hil : ((i : Int) < (n : Int)) = True := by simp; omega
      have hw3 := wrapS hlt hmax
      have hlen : l.length = n := HL.out.symm
      obtain ⟨b0, o0, rfl, hbb, hat⟩ := (F.out.keep hb).sl.at hlt
      have c0 := hat 0 (by decide)
      have c1 := hat 1 (by decide)
      have c2 := hat 2 (by decide)
      have c3 := hat 3 (by decide)
      have c4 := hat 4 (by decide)
      simp only [RIf, Nat.add_zero, List.getElem?_cons_zero, List.getElem?_cons_succ] at c0 c1 c2 c3 c4
      have hox := odd_ok (HO.out _ (getD_mem (i := i) (by omega))) (F.out.ad _ (getD_mem (by omega))) w2
      generalize l.getD i default = x at *
      have HX := Lib.hid hox
      have HB := Lib.hid hb
      clear hox hb hat hlen
      go_wp2_with fail
      refine (HX.out).mono ?_
      rintro e W3 ⟨rfl, hb3⟩
      have HB3 := Lib.hid (bcall HB.out (Nat.le_refl _) hb3)
      clear hb3 HB c0 c1 c2 c3 c4
      go_wp2_with fail
      exact ⟨⟨i + 1, hlt, by first | rw [hw3] | rw [Int.natCast_succ], HB3.out⟩, by first | (rw [hw3]; exact mSucc hlt) | (rw [← Int.natCast_succ]; exact mSucc hlt)⟩
    · obtain rfl : n = i := by omega
      have hil : ((n : Int) < (n : Int)) = False := by simp
      have HB := Lib.hid hb
      clear hb
      go_wp2_with fail
      go_ret
      exact ⟨rfl, HB.out⟩
set_option maxRecDepth 100000 in
theorem contains_ok {w : World} {oa : Option Addr} {n c : Nat} {l : List If} (h : Ifs w oa n c l) (hok : ∀ x ∈ l, okI x = true) : Calls Try.prog 62 #[.slice oa n c, CalleeF 63] w fun e w' => e = .returned (.bool false) ∧ Below w.heap.size w w' := by
  have H := Lib.hid (index_ok h hok)
  clear h hok
  unfold CalleeF at *
  go_enter Try.func62, Try.ntmps62
  go_wp2_with fail
  refine (H.out).mono ?_
  rintro e W1 ⟨rfl, hb1⟩
  have HB := Lib.hid hb1
  clear hb1
  go_wp2_with fail
  go_ret
  exact ⟨rfl, HB.out⟩
end Go.Proofs.Ytgainkgbodmciaa
/- Maps by numbers, and by nets; hop.Check of good ones. -/
namespace Go.Proofs.Ytgainkgbodmciaa
open Go.RowKit
open Go.ChangeMaps (setBlock)

theorem laidOut : laidOutB Try.prog = true := by kernel_rfl
theorem row133 : (133 : TypeId) < Try.prog.types.size := of_decide_eq_true (by kernel_rfl)
theorem wide133 : (match Try.prog.underlying 133 with | some (.array _ _) | some (.struct _) => true | _ => false) = true := by kernel_rfl
set_option maxRecDepth 100000 in
theorem law133 : WideMaps.KeyLaw Try.prog 133 := deep_law_laid laidOut (m := 3) (by omega) row133 (by kernel_rfl) wide133
theorem key133 : Try.prog.keyType 133 = true := by kernel_rfl
theorem key3 : Try.prog.keyType 3 = true := by kernel_rfl
theorem sizeT : Try.prog.types.size + 1 = 179 + 1 + 1 + 1 := by kernel_rfl
structure NK where
  r : Int
  a : Int
  l : Int
  deriving DecidableEq
def NK.val (k : NK) : Value := .agg #[.int .i64 k.r, .int .u32 k.a, .int .i64 k.l]
def NK.wf (k : NK) : Prop := (Lit.int .i64 k.r).wf = true ∧ (Lit.int .u32 k.a).wf = true ∧ (Lit.int .i64 k.l).wf = true
theorem cells133 : Try.prog.cellsOf 133 = 3 := by kernel_rfl
theorem cells37 : Try.prog.cellsOf 37 = 2 := by kernel_rfl
theorem cells3 : Try.prog.cellsOf 3 = 1 := by kernel_rfl
theorem cells22 : Try.prog.cellsOf 22 = 1 := by kernel_rfl
theorem lits3 (d : Nat) (n : Int) (h : (Lit.int .i64 n).wf = true) : Try.prog.keyLits (d + 1) 3 [.int .i64 n] = some [.int .i64 n] := by
  simp [Program.keyLits, Try.underlying3, h]
theorem NK.reads (k : NK) (h : k.wf) : ∃ l, keyOf Try.prog 133 k.val = some l := by
  obtain ⟨h1, h2, h3⟩ := h
  have hf : (NK.val k).formed Try.prog 133 = true := by simp [Value.formed, Try.underlying133, NK.val, cells133]
  have i2 : ∀ d n, (Lit.int .u32 n).wf = true → Try.prog.keyLits (d + 1) 22 [.int .u32 n] = some [.int .u32 n] := by
    intro d n h; simp [Program.keyLits, Try.underlying22, h]
  have i3 : ∀ d, Try.prog.keyLits (d + 1 + 1) 37 [.int .u32 k.a, .int .i64 k.l] = some [.int .u32 k.a, .int .i64 k.l] := by
    intro d; unfold Program.keyLits; simp [Try.underlying37, cells37, cells3, cells22, lits3 d _ h3, i2 d _ h2]
  have i4 : ∀ d, Try.prog.keyLits (d + 1 + 1 + 1) 133 [.int .i64 k.r, .int .u32 k.a, .int .i64 k.l] = some [.int .i64 k.r, .int .u32 k.a, .int .i64 k.l] := by
    intro d; unfold Program.keyLits; simp [Try.underlying133, cells133, cells37, cells3, lits3 (d + 1) _ h1, i3 d]
  unfold keyOf
  simp only [Try.underlying133]
  rw [key133, hf, sizeT]
  have := i4 179
  simp only [NK.val, Value.cells, this]
  exact ⟨_, rfl⟩
def NN : MR.Enc Try.prog 133 NK where
  enc := NK.val
  ok := NK.wf
  law := Maps.Keyed.of_law law133
  reads := NK.reads
  inj a b h := by
    cases a; cases b
    simp [NK.val] at h
    simp [h]
def IN : MR.Enc Try.prog 3 Int where
  enc := .int .i64
  ok n := (Lit.int .i64 n).wf = true
  law := Maps.int_keyed Try.underlying3
  reads n h := by
    unfold keyOf
    simp only [Try.underlying3]
    exact ⟨.int .i64 n, by simp [mapKey, Try.underlying3, h]⟩
  inj a b h := by simpa using h
theorem below_setBlock {B b : Nat} {w W : World} {o : Obj} (h : Below B w W) (hb : B ≤ b) : Below B w (setBlock W b o) :=
  ⟨h.os, h.tape, h.output, by show w.heap.size ≤ (W.heap.setIfInBounds b o).size; rw [Array.size_setIfInBounds]; exact h.size, fun i hi => by
    show (W.heap.setIfInBounds b o)[i]? = _
    rw [Array.getElem?_setIfInBounds, if_neg (by omega)]
    exact h.block i hi⟩
theorem setBlock_other {b i : Nat} {W : World} {o : Obj} (h : i ≠ b) : (setBlock W b o).heap[i]? = W.heap[i]? := by
  show (W.heap.setIfInBounds b o)[i]? = _
  rw [Array.getElem?_setIfInBounds, if_neg (Ne.symm h)]
theorem wfI {n : Int} (h : -9223372036854775808 ≤ n ∧ n ≤ 9223372036854775807) : (Lit.int .i64 n).wf = true := by
  simp only [Lit.wf, IntKind.min, IntKind.max, IntKind.signed, IntKind.bits, Bool.and_eq_true, decide_eq_true_eq]
  simpa using h
theorem wfU {n : Int} (h : 0 ≤ n ∧ n ≤ 4294967295) : (Lit.int .u32 n).wf = true := by
  simp only [Lit.wf, IntKind.min, IntKind.max, IntKind.signed, IntKind.bits, Bool.and_eq_true]
  simpa using h
def If.net (x : If) : NK := ⟨x.r, x.ad, x.ln⟩
theorem put_new {κ : Type} [DecidableEq κ] {l : List (MR.Ent κ)} {x : κ} (v : Value) (c : Nat) (h : x ∉ l.map (·.1)) : MR.put l x v c = l ++ [(x, v, c)] := by unfold MR.put; rw [if_neg h]
theorem put_keys {κ : Type} [DecidableEq κ] {l : List (MR.Ent κ)} {x : κ} (v : Value) (c : Nat) (h : x ∉ l.map (·.1)) : (MR.put l x v c).map (·.1) = l.map (·.1) ++ [x] := by rw [put_new v c h]; simp
theorem Good.id_new {l : List If} (h : Good l) {i : Nat} (hi : i < l.length) : (l.getD i default).id ∉ (l.take i).map If.id := by
  intro hm
  obtain ⟨y, hy, e⟩ := List.mem_map.1 hm
  obtain ⟨k, hk, rfl⟩ := List.mem_iff_getElem.1 hy
  rw [List.length_take] at hk
  have := h.ids k i (by omega) hi
  rw [List.getElem_take] at e
  rw [← e, List.getD_eq_getElem?_getD, List.getElem?_eq_getElem (by omega)] at this
  exact this rfl
theorem Good.net_new {l : List If} (h : Good l) {i : Nat} (hi : i < l.length) : (l.getD i default).net ∉ (l.take i).map If.net := by
  intro hm
  obtain ⟨y, hy, e⟩ := List.mem_map.1 hm
  obtain ⟨k, hk, rfl⟩ := List.mem_iff_getElem.1 hy
  rw [List.length_take] at hk
  have := h.nets k i (by omega) hi
  rw [List.getElem_take] at e
  simp only [If.net, NK.mk.injEq] at e
  have e2 : l.getD k default = l[k] := by rw [List.getD_eq_getElem?_getD, List.getElem?_eq_getElem (by omega)]; rfl
  rw [e2] at this
  exact this e.1 (by omega) e.2.2
theorem take_map_succ {α β : Type} [Inhabited α] (f : α → β) (l : List α) {i : Nat} (h : i < l.length) : (l.take (i + 1)).map f = (l.take i).map f ++ [f (l.getD i default)] := by
  rw [List.take_succ_eq_append_getElem h, List.map_append]
  simp [List.getD_eq_getElem?_getD, h]
theorem okI_bd {x : If} (h : okI x = true) : IN.ok x.id ∧ (x.ad < 4294967296 → NN.ok x.net) := by
  obtain ⟨h1, h2, h3, h4, h5, h6, h7⟩ := okI_iff.1 h
  obtain ⟨h8, h9, -⟩ := okP_iff.1 h5
  exact ⟨wfI (by omega), fun ha => ⟨wfI (by show -9223372036854775808 ≤ x.r ∧ x.r ≤ 9223372036854775807; omega), wfU (by show 0 ≤ (x.ad : Int) ∧ (x.ad : Int) ≤ 4294967295; omega), wfI (by show -9223372036854775808 ≤ x.ln ∧ x.ln ≤ 9223372036854775807; omega)⟩⟩

end Go.Proofs.Ytgainkgbodmciaa
