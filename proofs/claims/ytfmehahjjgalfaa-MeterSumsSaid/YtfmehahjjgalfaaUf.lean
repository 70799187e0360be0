/- Meter: the plain law of demands; the order of counts. -/
import Derived.Test.YtfmehahjjgalfaaUe
namespace Go.Proofs.Ytfmehahjjgalfaa.Me
open Go.RowKit

def demI (X : Nat → Src) (k : PK) : Nat → Int
  | 0 => 0
  | i + 1 => addI (demI X k i) (rateS (X i) k)
theorem demI_in (X : Nat → Src) (k : PK) : ∀ i, 0 ≤ demI X k i ∧ demI X k i ≤ 9007199254740991
  | 0 => ⟨Int.le_refl _, by show (0 : Int) ≤ _; decide⟩
  | _ + 1 => addI_in _ _
theorem hasC_iff {L : List Ct} (hn : (L.map Ct.p).Nodup) (k : PK) : hasC L k = true ↔ k ∈ L.map Ct.p := by
  unfold hasC look
  constructor
  · intro h
    cases hl : Kl.look Ct.p L k with
    | none => rw [hl] at h; cases h
    | some x => obtain ⟨h1, h2⟩ := Kl.look_mem hl; exact List.mem_map.2 ⟨x, h1, h2⟩
  · intro h
    obtain ⟨x, hx, rfl⟩ := List.mem_map.1 h
    rw [Kl.look_of hn hx]; rfl
theorem rate_no {s : Src} (hok : s.ok) {k : PK} (h : ∀ r, s.last = some r → k ∉ r.cs.map Ct.p) : rateS s k = 0 := by
  unfold rateS
  split
  · rename_i a b ha hb
    have h1 : hasC b.cs k = false := by
      cases hc : hasC b.cs k with
      | false => rfl
      | true => exact absurd ((hasC_iff (chkL_nd (hok.last _ hb).chk) k).1 hc) (h _ hb)
    unfold rateR rateV
    rw [h1, if_pos (.inr (.inl rfl))]
  · rfl
def InL (X : Nat → Src) (i : Nat) (k : PK) : Prop := ∃ j, j < i ∧ ∃ r, (X j).last = some r ∧ k ∈ r.cs.map Ct.p
theorem InL.none {X : Nat → Src} {k : PK} : ¬ InL X 0 k := fun ⟨j, h, _⟩ => by omega
theorem InL.succ {X : Nat → Src} {i : Nat} {k : PK} : InL X (i + 1) k ↔ InL X i k ∨ ∃ r, (X i).last = some r ∧ k ∈ r.cs.map Ct.p := by
  constructor
  · rintro ⟨j, hj, h⟩
    by_cases e : j = i
    · subst e; exact .inr h
    · exact .inl ⟨j, by omega, h⟩
  · rintro (⟨j, hj, h⟩ | h)
    · exact ⟨j, by omega, h⟩
    · exact ⟨i, by omega, h⟩
theorem demI_skip {X : Nat → Src} (hok : ∀ i, i < 16 → (X i).ok) {i : Nat} (hi : i < 16) {k : PK} (h : ∀ r, (X i).last = some r → k ∉ r.cs.map Ct.p) : demI X k (i + 1) = demI X k i := by
  show addI (demI X k i) (rateS (X i) k) = _
  rw [rate_no (hok i hi) h, addI_zero (demI_in X k i)]
theorem demI_no {X : Nat → Src} (hok : ∀ i, i < 16 → (X i).ok) {k : PK} : ∀ {i : Nat}, i ≤ 16 → ¬ InL X i k → demI X k i = 0
  | 0, _, _ => rfl
  | i + 1, hi, h => by
    rw [InL.succ, not_or] at h
    rw [demI_skip hok (by omega) fun r hr hm => h.2 ⟨r, hr, hm⟩]
    exact demI_no hok (by omega) h.1
structure DemMap (X : Nat → Src) (i : Nat) (D : List Ct) : Prop where
  key : ∀ k, k ∈ D.map Ct.p ↔ InL X i k
  val : ∀ x ∈ D, x.n = demI X x.p i
  len : D.length ≤ i * 1024
theorem DemMap.none (X : Nat → Src) : DemMap X 0 [] := ⟨fun k => ⟨fun h => (by cases h), fun h => absurd h InL.none⟩, fun x hx => (by cases hx), by simp⟩
theorem cnt_mem {D : List Ct} (hn : (D.map Ct.p).Nodup) {x : Ct} (hx : x ∈ D) : cnt D x.p = x.n := by unfold cnt look; rw [Kl.look_of hn hx]
theorem cnt_no {D : List Ct} {k : PK} (h : k ∉ D.map Ct.p) : cnt D k = 0 := by
  unfold cnt look
  rw [Kl.look_no fun x hx e => h (List.mem_map.2 ⟨x, hx, e⟩)]
theorem DemMap.skip {X : Nat → Src} (hok : ∀ i, i < 16 → (X i).ok) {i : Nat} (hi : i < 16) {D : List Ct} (h : DemMap X i D) (hl : (X i).last = .none) : DemMap X (i + 1) D := by
  refine ⟨fun k => ?_, fun x hx => ?_, by rw [Nat.succ_mul]; exact Nat.le_trans h.len (Nat.le_add_right _ _)⟩
  · rw [h.key, InL.succ, hl]; simp
  · rw [h.val x hx, demI_skip hok hi (by rw [hl]; intro r hr; cases hr)]
/-- within a source: those of K are done -/
structure DemIn (X : Nat → Src) (i : Nat) (K : List PK) (D : List Ct) : Prop where
  key : ∀ k, k ∈ D.map Ct.p ↔ InL X i k ∨ k ∈ K
  val : ∀ x ∈ D, x.n = if x.p ∈ K then demI X x.p (i + 1) else demI X x.p i
  len : D.length ≤ i * 1024 + K.length
theorem DemMap.enter {X : Nat → Src} {i : Nat} {D : List Ct} (h : DemMap X i D) : DemIn X i [] D := ⟨fun k => by rw [h.key]; simp, fun x hx => by rw [if_neg (by simp)]; exact h.val x hx, by simpa using h.len⟩
theorem DemIn.cnt {X : Nat → Src} (hok : ∀ i, i < 16 → (X i).ok) {i : Nat} (hi : i < 16) {K : List PK} {D : List Ct} (h : DemIn X i K D) (hn : (D.map Ct.p).Nodup) {k : PK} (hk : k ∉ K) : cnt D k = demI X k i := by
  by_cases hm : k ∈ D.map Ct.p
  · obtain ⟨x, hx, rfl⟩ := List.mem_map.1 hm
    rw [cnt_mem hn hx, h.val x hx, if_neg hk]
  · rw [cnt_no hm]
    rw [h.key, not_or] at hm
    rw [demI_no hok (by omega) hm.1]
theorem DemIn.more {X : Nat → Src} (hok : ∀ i, i < 16 → (X i).ok) {i : Nat} (hi : i < 16) {K : List PK} {D : List Ct} (h : DemIn X i K D) (hn : (D.map Ct.p).Nodup) {k : PK} (hk : k ∉ K) : DemIn X i (K ++ [k]) (setC D ⟨k, addI (Me.cnt D k) (rateS (X i) k)⟩) := by
  refine ⟨fun j => ?_, fun x hx => ?_, ?_⟩
  · rw [setC_mem, h.key, List.mem_append, List.mem_singleton]
    show j = k ∨ _ ↔ _
    constructor
    · rintro (e | e | e)
      · exact .inr (.inr e)
      · exact .inl e
      · exact .inr (.inl e)
    · rintro (e | e | e)
      · exact .inr (.inl e)
      · exact .inr (.inr e)
      · exact .inl e
  · unfold setC at hx
    rcases List.mem_append.1 hx with hx | hx
    · obtain ⟨h1, h2⟩ := List.mem_filter.1 hx
      have h3 : x.p ≠ k := by simpa using h2
      rw [h.val x h1]
      by_cases hm : x.p ∈ K
      · rw [if_pos hm, if_pos (List.mem_append.2 (.inl hm))]
      · rw [if_neg hm, if_neg (by simp [hm, h3])]
    · simp at hx
      subst hx
      show addI (Me.cnt D k) (rateS (X i) k) = _
      rw [if_pos (by simp), h.cnt hok hi hn hk]; rfl
  · rw [setC_len hn, List.length_append]
    have := h.len
    split <;> simp <;> omega
theorem DemIn.leave {X : Nat → Src} (hok : ∀ i, i < 16 → (X i).ok) {i : Nat} (hi : i < 16) {K : List PK} {D : List Ct} (h : DemIn X i K D) {r : Rp} (hl : (X i).last = some r) (hK : K.Perm (r.cs.map Ct.p)) : DemMap X (i + 1) D := by
  have hlen : K.length ≤ 1024 := by rw [hK.length_eq, List.length_map]; exact chkL_len ((hok i hi).last r hl).chk
  refine ⟨fun k => ?_, fun x hx => ?_, by rw [Nat.succ_mul]; exact Nat.le_trans h.len (Nat.add_le_add_left hlen _)⟩
  · rw [h.key, InL.succ, hl, hK.mem_iff]
    simp
  · rw [h.val x hx]
    by_cases hm : x.p ∈ K
    · rw [if_pos hm]
    · rw [if_neg hm, demI_skip hok hi (by rw [hl]; rintro r' hr; cases hr; rwa [← hK.mem_iff])]
/-- the demands above 0, in order -/
def ltC (a b : Ct) : Bool := ltK a.p b.p
structure Dem (X : Nat → Src) (L : List Ct) : Prop where
  ord : Kl.Ordered ltC L
  mem : ∀ x, x ∈ L ↔ 0 < x.n ∧ x.n = demI X x.p 16
theorem ltC_asymm (a b : Ct) (h : ltC a b = true) : ltC b a = false := ltK_asymm _ _ h
theorem ord_keys {L : List Ct} (h : Kl.Ordered ltC L) : (L.map Ct.p).Nodup := by
  rw [List.nodup_iff_pairwise_ne, List.pairwise_map]
  refine List.Pairwise.imp (fun {a b} hab e => ?_) h
  unfold ltC at hab
  rw [e, ltK_irr] at hab
  cases hab
theorem Dem.one {X : Nat → Src} {L M : List Ct} (h : Dem X L) (k : Dem X M) : L = M :=
  Kl.ordered_eq ltC_asymm h.ord k.ord ((List.perm_ext_iff_of_nodup (MR.nodup_of_map (ord_keys h.ord)) (MR.nodup_of_map (ord_keys k.ord))).2 fun x => (h.mem x).trans (k.mem x).symm)
def posC (x : Ct) : Bool := decide (0 < x.n)
theorem DemMap.mem {X : Nat → Src} (hok : ∀ i, i < 16 → (X i).ok) {D : List Ct} (h : DemMap X 16 D) (x : Ct) : x ∈ D.filter posC ↔ 0 < x.n ∧ x.n = demI X x.p 16 := by
  rw [List.mem_filter]
  unfold posC
  rw [decide_eq_true_eq]
  constructor
  · rintro ⟨h1, h2⟩; exact ⟨h2, h.val x h1⟩
  · rintro ⟨h1, h2⟩
    refine ⟨?_, h1⟩
    have h3 : InL X 16 x.p := Classical.byContradiction fun hc => by rw [demI_no hok (Nat.le_refl _) hc] at h2; omega
    obtain ⟨y, hy, he⟩ := List.mem_map.1 ((h.key x.p).2 h3)
    have h4 := h.val y hy
    rw [he, ← h2] at h4
    have : y = x := by cases x; cases y; simp_all
    exact this ▸ hy
def cmpC (x y : Ct) : Int := cmpK x.p y.p
theorem swoC : Go.Sort.SWO (Go.Proofs.ltOf cmpC) := by
  have h : ∀ x y : Ct, Go.Proofs.ltOf cmpC x y = ltC x y := by
    intro x y
    unfold Go.Proofs.ltOf cmpC ltC
    have := @cmpK_lt x.p y.p
    cases hh : ltK x.p y.p with
    | true => rw [hh] at this; simpa using this
    | false => rw [hh] at this; simpa using this
  refine ⟨fun x => by rw [h]; exact ltK_irr _, fun x y z h1 h2 => by rw [h] at *; exact ltK_trans h1 h2, fun x y z h1 h2 => ?_⟩
  rw [h] at *
  unfold ltC at *
  rw [Bool.eq_false_iff] at *
  rw [ne_eq, ltK_iff] at *
  omega
theorem sorted_ordC {M : List Ct} (h : Rep.SortedBy cmpC M) (hn : (M.map Ct.p).Nodup) : Kl.Ordered ltC M := by
  unfold Kl.Ordered
  rw [List.pairwise_iff_getElem]
  intro i j hi hj hij
  have h1 := h i j hij hj
  simp only [List.getD_eq_getElem?_getD, List.getElem?_eq_getElem hi, List.getElem?_eq_getElem hj, Option.getD_some] at h1
  unfold cmpC at h1
  rw [cmpK_ge] at h1
  rw [List.nodup_iff_pairwise_ne, List.pairwise_iff_getElem] at hn
  have h2 := hn i j (by simpa using hi) (by simpa using hj) hij
  simp only [List.getElem_map] at h2
  unfold ltC
  rcases ltK_total M[i].p M[j].p with h | h | h
  · exact h
  · exact absurd h h2
  · rw [h] at h1; cases h1
theorem dem_sorted {X : Nat → Src} (hok : ∀ i, i < 16 → (X i).ok) {D M : List Ct} (h : DemMap X 16 D) (hn : (D.map Ct.p).Nodup) (hp : M.Perm (D.filter posC)) (hs : Rep.SortedBy cmpC M) : Dem X M :=
  ⟨sorted_ordC hs ((hp.map Ct.p).symm.nodup (Kl.nodup_filter hn _)), fun x => (hp.mem_iff).trans (h.mem hok x)⟩
theorem T80 : Rep.Ty Try.prog 80 RCt 24 := Rep.Ty.mk' (z := .agg #[.int .u32 0, .int .i64 0, .int .i64 0]) Try.underlying80 (by kernel_rfl) rfl
set_option maxRecDepth 100000 in
set_option maxHeartbeats 1000000 in
theorem cmpC_lays (g n : Nat) (w : World) : Go.Proofs.CmpLays Try.prog 82 #[] RCt.cells RCt.k cmpC g 0 n w := by
  intro m os dk _ x y
  generalize Go.Proofs.sortWorldK RCt.cells RCt.k w g 0 m dk os = W
  show Calls Try.prog 82 #[.agg #[.int .u32 (x.p.1 : Int), .int .i64 x.p.2, .int .i64 x.n], .agg #[.int .u32 (y.p.1 : Int), .int .i64 y.p.2, .int .i64 y.n]] W fun e w' => e = .returned (.int .i64 (cmpC x y)) ∧ Grows W w'
  have hg := ((Grows.refl W).alloc (.cells #[.int .u32 (x.p.1 : Int), .int .i64 x.p.2, .int .i64 x.n] 128)).alloc (.cells #[.int .u32 (y.p.1 : Int), .int .i64 y.p.2, .int .i64 y.n] 128)
  have hx : CtS W.heap.size x ((W.alloc (.cells #[.int .u32 (x.p.1 : Int), .int .i64 x.p.2, .int .i64 x.n] 128)).alloc (.cells #[.int .u32 (y.p.1 : Int), .int .i64 y.p.2, .int .i64 y.n] 128)) := hold (hnew _ _)
  have hy : CtS (W.heap.size + 1) y ((W.alloc (.cells #[.int .u32 (x.p.1 : Int), .int .i64 x.p.2, .int .i64 x.n] 128)).alloc (.cells #[.int .u32 (y.p.1 : Int), .int .i64 y.p.2, .int .i64 y.n] 128)) := hnewAt (by simp)
  obtain ⟨x0, x1, x2⟩ := hx.cells
  obtain ⟨y0, y1, y2⟩ := hy.cells
  have HG := Lib.hid hg
  have HC := Lib.hid (acompare_any x.p y.p)
  unfold cmpC
  generalize cmpK x.p y.p = v at *
  unfold pfx at HC
  clear hg hx hy
  go_enter Try.func82, Try.ntmps82
  go_wp2_with fail
  refine (HC.out _).mono ?_
  rintro e w1 ⟨rfl, hw1⟩
  have HG2 := Lib.hid (HG.out.trans hw1)
  clear hw1 x0 x1 x2 y0 y1 y2
  go_wp2_with fail
  go_ret
  exact ⟨rfl, HG2.out⟩
theorem enters_cl : Go.Proofs.Enters Try.prog 82 := Go.Proofs.enters_of Try.func82 (by decide) rfl
end Go.Proofs.Ytfmehahjjgalfaa.Me
