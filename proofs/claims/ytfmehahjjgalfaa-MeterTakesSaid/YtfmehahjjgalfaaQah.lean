/- Meter: the plain law of demands; the order of counts. -/
import Derived.Test.YtfmehahjjgalfaaQag
import Derived.Test.YtfmehahjjgalfaaQac
namespace Go.Proofs.Ytfmehahjjgalfaa.Me
open Go.RowKit

def demI (X : Nat → Src) (k : PK) : Nat → Int
  | 0 => 0
  | i + 1 => addI (demI X k i) (rateS (X i) k)
theorem demI_in (X : Nat → Src) (k : PK) : ∀ i, 0 ≤ demI X k i ∧ demI X k i ≤ 9007199254740991
  | 0 => ⟨Int.le_refl _, by show (0 : Int) ≤ _; decide⟩
  | _ + 1 => addI_in _ _
theorem hasC_iff {L : List Ct} (hn : (L.map Ct.p).Nodup) (k : PK) : hasC L k = true ↔ k ∈ L.map Ct.p := by
  unfold hasC look
  constructor
  · intro h
    cases hl : Kl.look Ct.p L k with
    | none => rw [hl] at h; cases h
    | some x => obtain ⟨h1, h2⟩ := Kl.look_mem hl; exact List.mem_map.2 ⟨x, h1, h2⟩
  · intro h
    obtain ⟨x, hx, rfl⟩ := List.mem_map.1 h
    rw [Kl.look_of hn hx]; rfl
theorem rate_no {s : Src} (hok : s.ok) {k : PK} (h : ∀ r, s.last = some r → k ∉ r.cs.map Ct.p) : rateS s k = 0 := by
  unfold rateS
  split
  · rename_i a b ha hb
    have h1 : hasC b.cs k = false := by
      cases hc : hasC b.cs k with
      | false => rfl
      | true => exact absurd ((hasC_iff (chkL_nd (hok.last _ hb).chk) k).1 hc) (h _ hb)
    unfold rateR rateV
    rw [h1, if_pos (.inr (.inl rfl))]
  · rfl
def InL (X : Nat → Src) (i : Nat) (k : PK) : Prop := ∃ j, j < i ∧ ∃ r, (X j).last = some r ∧ k ∈ r.cs.map Ct.p
theorem InL.none {X : Nat → Src} {k : PK} : ¬ InL X 0 k := fun ⟨j, h, _⟩ => by omega
theorem InL.succ {X : Nat → Src} {i : Nat} {k : PK} : InL X (i + 1) k ↔ InL X i k ∨ ∃ r, (X i).last = some r ∧ k ∈ r.cs.map Ct.p := by
  constructor
  · rintro ⟨j, hj, h⟩
    by_cases e : j = i
    · subst e; exact .inr h
    · exact .inl ⟨j, by omega, h⟩
  · rintro (⟨j, hj, h⟩ | h)
    · exact ⟨j, by omega, h⟩
    · exact ⟨i, by omega, h⟩
theorem demI_skip {X : Nat → Src} (hok : ∀ i, i < 16 → (X i).ok) {i : Nat} (hi : i < 16) {k : PK} (h : ∀ r, (X i).last = some r → k ∉ r.cs.map Ct.p) : demI X k (i + 1) = demI X k i := by
  show addI (demI X k i) (rateS (X i) k) = _
  rw [rate_no (hok i hi) h, addI_zero (demI_in X k i)]
theorem demI_no {X : Nat → Src} (hok : ∀ i, i < 16 → (X i).ok) {k : PK} : ∀ {i : Nat}, i ≤ 16 → ¬ InL X i k → demI X k i = 0
  | 0, _, _ => rfl
  | i + 1, hi, h => by
    rw [InL.succ, not_or] at h
    rw [demI_skip hok (by omega) fun r hr hm => h.2 ⟨r, hr, hm⟩]
    exact demI_no hok (by omega) h.1
structure DemMap (X : Nat → Src) (i : Nat) (D : List Ct) : Prop where
  key : ∀ k, k ∈ D.map Ct.p ↔ InL X i k
  val : ∀ x ∈ D, x.n = demI X x.p i
  len : D.length ≤ i * 1024
theorem DemMap.none (X : Nat → Src) : DemMap X 0 [] := ⟨fun k => ⟨fun h => (by cases h), fun h => absurd h InL.none⟩, fun x hx => (by cases hx), by simp⟩
theorem cnt_mem {D : List Ct} (hn : (D.map Ct.p).Nodup) {x : Ct} (hx : x ∈ D) : cnt D x.p = x.n := by unfold cnt look; rw [Kl.look_of hn hx]
theorem cnt_no {D : List Ct} {k : PK} (h : k ∉ D.map Ct.p) : cnt D k = 0 := by
  unfold cnt look
  rw [Kl.look_no fun x hx e => h (List.mem_map.2 ⟨x, hx, e⟩)]
theorem DemMap.skip {X : Nat → Src} (hok : ∀ i, i < 16 → (X i).ok) {i : Nat} (hi : i < 16) {D : List Ct} (h : DemMap X i D) (hl : (X i).last = .none) : DemMap X (i + 1) D := by
  refine ⟨fun k => ?_, fun x hx => ?_, by rw [Nat.succ_mul]; exact Nat.le_trans h.len (Nat.le_add_right _ _)⟩
  · rw [h.key, InL.succ, hl]; simp
  · rw [h.val x hx, demI_skip hok hi (by rw [hl]; intro r hr; cases hr)]
/-- within a source: those of K are done -/
structure DemIn (X : Nat → Src) (i : Nat) (K : List PK) (D : List Ct) : Prop where
  key : ∀ k, k ∈ D.map Ct.p ↔ InL X i k ∨ k ∈ K
  val : ∀ x ∈ D, x.n = if x.p ∈ K then demI X x.p (i + 1) else demI X x.p i
  len : D.length ≤ i * 1024 + K.length
theorem DemMap.enter {X : Nat → Src} {i : Nat} {D : List Ct} (h : DemMap X i D) : DemIn X i [] D := ⟨fun k => by rw [h.key]; simp, fun x hx => by rw [if_neg (by simp)]; exact h.val x hx, by simpa using h.len⟩
theorem DemIn.cnt {X : Nat → Src} (hok : ∀ i, i < 16 → (X i).ok) {i : Nat} (hi : i < 16) {K : List PK} {D : List Ct} (h : DemIn X i K D) (hn : (D.map Ct.p).Nodup) {k : PK} (hk : k ∉ K) : cnt D k = demI X k i := by
  by_cases hm : k ∈ D.map Ct.p
  · obtain ⟨x, hx, rfl⟩ := List.mem_map.1 hm
    rw [cnt_mem hn hx, h.val x hx, if_neg hk]
  · rw [cnt_no hm]
    rw [h.key, not_or] at hm
    rw [demI_no hok (by omega) hm.1]
theorem DemIn.more {X : Nat → Src} (hok : ∀ i, i < 16 → (X i).ok) {i : Nat} (hi : i < 16) {K : List PK} {D : List Ct} (h : DemIn X i K D) (hn : (D.map Ct.p).Nodup) {k : PK} (hk : k ∉ K) : DemIn X i (K ++ [k]) (setC D ⟨k, addI (Me.cnt D k) (rateS (X i) k)⟩) := by
  refine ⟨fun j => ?_, fun x hx => ?_, ?_⟩
  · rw [setC_mem, h.key, List.mem_append, List.mem_singleton]
    show j = k ∨ _ ↔ _
    constructor
    · rintro (e | e | e)
      · exact .inr (.inr e)
      · exact .inl e
      · exact .inr (.inl e)
    · rintro (e | e | e)
      · exact .inr (.inl e)
      · exact .inr (.inr e)
      · exact .inl e
  · unfold setC at hx
    rcases List.mem_append.1 hx with hx | hx
    · obtain ⟨h1, h2⟩ := List.mem_filter.1 hx
      have h3 : x.p ≠ k := by simpa using h2
      rw [h.val x h1]
      by_cases hm : x.p ∈ K
      · rw [if_pos hm, if_pos (List.mem_append.2 (.inl hm))]
      · rw [if_neg hm, if_neg (by simp [hm, h3])]
    · simp at hx
      subst hx
      show addI (Me.cnt D k) (rateS (X i) k) = _
      rw [if_pos (by simp), h.cnt hok hi hn hk]; rfl
  · rw [setC_len hn, List.length_append]
    have := h.len
    split <;> simp <;> omega
theorem DemIn.leave {X : Nat → Src} (hok : ∀ i, i < 16 → (X i).ok) {i : Nat} (hi : i < 16) {K : List PK} {D : List Ct} (h : DemIn X i K D) {r : Rp} (hl : (X i).last = some r) (hK : K.Perm (r.cs.map Ct.p)) : DemMap X (i + 1) D := by
  have hlen : K.length ≤ 1024 := by rw [hK.length_eq, List.length_map]; exact chkL_len ((hok i hi).last r hl).chk
  refine ⟨fun k => ?_, fun x hx => ?_, by rw [Nat.succ_mul]; exact Nat.le_trans h.len (Nat.add_le_add_left hlen _)⟩
  · rw [h.key, InL.succ, hl, hK.mem_iff]
    simp
  · rw [h.val x hx]
    by_cases hm : x.p ∈ K
    · rw [if_pos hm]
    · rw [if_neg hm, demI_skip hok hi (by rw [hl]; rintro r' hr; cases hr; rwa [← hK.mem_iff])]
/-- the demands above 0, in order -/
def ltC (a b : Ct) : Bool := ltK a.p b.p
structure Dem (X : Nat → Src) (L : List Ct) : Prop where
  ord : Kl.Ordered ltC L
  mem : ∀ x, x ∈ L ↔ 0 < x.n ∧ x.n = demI X x.p 16
theorem ltC_asymm (a b : Ct) (h : ltC a b = true) : ltC b a = false := ltK_asymm _ _ h
theorem ord_keys {L : List Ct} (h : Kl.Ordered ltC L) : (L.map Ct.p).Nodup := by
  rw [List.nodup_iff_pairwise_ne, List.pairwise_map]
  refine List.Pairwise.imp (fun {a b} hab e => ?_) h
  unfold ltC at hab
  rw [e, ltK_irr] at hab
  cases hab
theorem Dem.one {X : Nat → Src} {L M : List Ct} (h : Dem X L) (k : Dem X M) : L = M :=
  Kl.ordered_eq ltC_asymm h.ord k.ord ((List.perm_ext_iff_of_nodup (MR.nodup_of_map (ord_keys h.ord)) (MR.nodup_of_map (ord_keys k.ord))).2 fun x => (h.mem x).trans (k.mem x).symm)
def posC (x : Ct) : Bool := decide (0 < x.n)
theorem DemMap.mem {X : Nat → Src} (hok : ∀ i, i < 16 → (X i).ok) {D : List Ct} (h : DemMap X 16 D) (x : Ct) : x ∈ D.filter posC ↔ 0 < x.n ∧ x.n = demI X x.p 16 := by
  rw [List.mem_filter]
  unfold posC
  rw [decide_eq_true_eq]
  constructor
  · rintro ⟨h1, h2⟩; exact ⟨h2, h.val x h1⟩
  · rintro ⟨h1, h2⟩
    refine ⟨?_, h1⟩
    have h3 : InL X 16 x.p := Classical.byContradiction fun hc => by rw [demI_no hok (Nat.le_refl _) hc] at h2; omega
    obtain ⟨y, hy, he⟩ := List.mem_map.1 ((h.key x.p).2 h3)
    have h4 := h.val y hy
    rw [he, ← h2] at h4
    have : y = x := by cases x; cases y; simp_all
    exact this ▸ hy
def cmpC (x y : Ct) : Int := cmpK x.p y.p
theorem swoC : Go.Sort.SWO (Go.Proofs.ltOf cmpC) := by
  have h : ∀ x y : Ct, Go.Proofs.ltOf cmpC x y = ltC x y := by
    intro x y
    unfold Go.Proofs.ltOf cmpC ltC
    have := @cmpK_lt x.p y.p
    cases hh : ltK x.p y.p with
    | true => rw [hh] at this; simpa using this
    | false => rw [hh] at this; simpa using this
  refine ⟨fun x => by rw [h]; exact ltK_irr _, fun x y z h1 h2 => by rw [h] at *; exact ltK_trans h1 h2, fun x y z h1 h2 => ?_⟩
  rw [h] at *
  unfold ltC at *
  rw [Bool.eq_false_iff] at *
  rw [ne_eq, ltK_iff] at *
  omega
theorem sorted_ordC {M : List Ct} (h : Rep.SortedBy cmpC M) (hn : (M.map Ct.p).Nodup) : Kl.Ordered ltC M := by
  unfold Kl.Ordered
  rw [List.pairwise_iff_getElem]
  intro i j hi hj hij
  have h1 := h i j hij hj
  simp only [List.getD_eq_getElem?_getD, List.getElem?_eq_getElem hi, List.getElem?_eq_getElem hj, Option.getD_some] at h1
  unfold cmpC at h1
  rw [cmpK_ge] at h1
  rw [List.nodup_iff_pairwise_ne, List.pairwise_iff_getElem] at hn
  have h2 := hn i j (by simpa using hi) (by simpa using hj) hij
  simp only [List.getElem_map] at h2
  unfold ltC
  rcases ltK_total M[i].p M[j].p with h | h | h
  · exact h
  · exact absurd h h2
  · rw [h] at h1; cases h1
theorem dem_sorted {X : Nat → Src} (hok : ∀ i, i < 16 → (X i).ok) {D M : List Ct} (h : DemMap X 16 D) (hn : (D.map Ct.p).Nodup) (hp : M.Perm (D.filter posC)) (hs : Rep.SortedBy cmpC M) : Dem X M :=
  ⟨sorted_ordC hs ((hp.map Ct.p).symm.nodup (Kl.nodup_filter hn _)), fun x => (hp.mem_iff).trans (h.mem hok x)⟩
theorem T80 : Rep.Ty Try.prog 80 RCt 24 := Rep.Ty.mk' (z := .agg #[.int .u32 0, .int .i64 0, .int .i64 0]) Try.underlying80 (by kernel_rfl) rfl
set_option maxRecDepth 100000 in
set_option maxHeartbeats 1000000 in
theorem cmpC_lays (g n : Nat) (w : World) : Go.Proofs.CmpLays Try.prog 82 #[] RCt.cells RCt.k cmpC g 0 n w := by
  intro m os dk _ x y
  generalize Go.Proofs.sortWorldK RCt.cells RCt.k w g 0 m dk os = W
  show Calls Try.prog 82 #[.agg #[.int .u32 (x.p.1 : Int), .int .i64 x.p.2, .int .i64 x.n], .agg #[.int .u32 (y.p.1 : Int), .int .i64 y.p.2, .int .i64 y.n]] W fun e w' => e = .returned (.int .i64 (cmpC x y)) ∧ Grows W w'
  have hg := ((Grows.refl W).alloc (.cells #[.int .u32 (x.p.1 : Int), .int .i64 x.p.2, .int .i64 x.n] 128)).alloc (.cells #[.int .u32 (y.p.1 : Int), .int .i64 y.p.2, .int .i64 y.n] 128)
  have hx : CtS W.heap.size x ((W.alloc (.cells #[.int .u32 (x.p.1 : Int), .int .i64 x.p.2, .int .i64 x.n] 128)).alloc (.cells #[.int .u32 (y.p.1 : Int), .int .i64 y.p.2, .int .i64 y.n] 128)) := hold (hnew _ _)
  have hy : CtS (W.heap.size + 1) y ((W.alloc (.cells #[.int .u32 (x.p.1 : Int), .int .i64 x.p.2, .int .i64 x.n] 128)).alloc (.cells #[.int .u32 (y.p.1 : Int), .int .i64 y.p.2, .int .i64 y.n] 128)) := hnewAt (by simp)
  obtain ⟨x0, x1, x2⟩ := hx.cells
  obtain ⟨y0, y1, y2⟩ := hy.cells
  have HG := Lib.hid hg
  have HC := Lib.hid (acompare_any x.p y.p)
  unfold cmpC
  generalize cmpK x.p y.p = v at *
  unfold pfx at HC
  clear hg hx hy
  go_enter Try.func82, Try.ntmps82
  go_wp2_with fail
  refine (HC.out _).mono ?_
  rintro e w1 ⟨rfl, hw1⟩
  have HG2 := Lib.hid (HG.out.trans hw1)
  clear hw1 x0 x1 x2 y0 y1 y2
  go_wp2_with fail
  go_ret
  exact ⟨rfl, HG2.out⟩
theorem enters_cl : Go.Proofs.Enters Try.prog 82 := Go.Proofs.enters_of Try.func82 (by decide) rfl
end Go.Proofs.Ytfmehahjjgalfaa.Me
/- Meter: Demand. -/
namespace Go.Proofs.Ytfmehahjjgalfaa.Me
open Go.RowKit

theorem demand_nil (k : PK) (w : World) : Calls Try.prog 52 #[.pointer none, .agg #[.int .u32 (k.1 : Int), .int .i64 k.2]] w fun e w' => e = .returned (.int .i64 0) ∧ Below w.heap.size w w' := by
  have F := Lib.hid ((Below.refl w.heap.size w).alloc (Nat.le_refl _) (.cells #[.int .u32 (k.1 : Int), .int .i64 k.2] 58))
  go_enter Try.func52, Try.ntmps52
  go_wp2_with fail
  go_ret
  exact ⟨rfl, F.out⟩
set_option maxRecDepth 100000 in
set_option maxHeartbeats 2000000 in
theorem demand_any {w : World} {m : Nat} {X : Nat → Src} (H : MetAt w m X) {k : PK} (hk : PN.ok k) : Calls Try.prog 52 #[.pointer (some ⟨m, 0, none⟩), .agg #[.int .u32 (k.1 : Int), .int .i64 k.2]] w fun e w' => e = .returned (.int .i64 (demI X k 16)) ∧ Below w.heap.size w w' := by
  have hal := (Below.refl w.heap.size w).alloc (Nat.le_refl _) (.cells #[.int .u32 (k.1 : Int), .int .i64 k.2] 58)
  have hbx : BxP w.heap.size k (w.alloc (.cells #[.int .u32 (k.1 : Int), .int .i64 k.2] 58)) := hnew _ _
  have H1 := H.keep hal
  obtain ⟨A, hA, hra, hall⟩ := H1.all
  have HM := Lib.hid (And.intro H1 (And.intro hall (And.intro hbx hal)))
  have HK := Lib.hid hk
  clear H H1 hall hbx hal hk
  go_enter Try.func52, Try.ntmps52
  go_wp2_with (with_reducible refine halt_load 124 rfl ?_)
  refine Halted.go ?_
  refine load_mid rfl 124 _ rfl m 0 A rfl hra Try.underlying124 rfl (by rw [hA]; exact infoA) ?_
  clear hra hA
  obtain ⟨W1, hW1⟩ : ∃ W, w.alloc (.cells #[.int .u32 (k.1 : Int), .int .i64 k.2] 58) = W := ⟨_, rfl⟩
  obtain ⟨q3, hq3⟩ : ∃ q, w.heap.size = q := ⟨_, rfl⟩
  have HM1 := Lib.hid (show MetAt W1 m X ∧ AllS W1 A X ∧ BxP q3 k W1 ∧ Below w.heap.size w W1 from hq3 ▸ hW1 ▸ HM.out)
  rw [hW1]
  simp only [hq3]
  clear hW1 hq3 HM
  go_wp2_with fail
  go_loopw [5, 14] (fun nv iv wr => ∃ i : Nat, i ≤ 16 ∧ iv = .int .i64 i ∧ nv = .int .i64 (demI X k i) ∧ Below W1.heap.size W1 wr) (fun _ iv _ => 16 - (intOf iv).toNat)
  case atStart => exact ⟨0, Nat.zero_le _, rfl, rfl, Below.refl _ _⟩
  case round =>
    obtain ⟨i, hi, rfl, rfl, hb⟩ := hrel
    obtain ⟨w2, rfl⟩ : ∃ w2 : World, w2 = wr := ⟨_, rfl⟩
    by_cases hlt : i < 16
    · have hil : ((i : Int) < 16) = True := by simp; omega
      have hw3 := wrapS hlt (show 16 ≤ maxLen by unfold maxLen; omega)
      obtain ⟨p, q, hix, hp, hq⟩ := (HM1.out.2.1.keep HM1.out.1 hb).ix i hlt
      have hal := (Below.refl w2.heap.size w2).alloc (Nat.le_refl _) (.cells #[.pointer p, .pointer q] 123)
      have hxs : SrS w2.heap.size p q (w2.alloc (.cells #[.pointer p, .pointer q] 123)) := hnew _ _
      obtain ⟨x0, x1⟩ := hxs.cells
      obtain ⟨z0, z1⟩ := ((HM1.out.2.2.1.keep hb).keep hal).cells
      have HR := Lib.hid (rate_any (hp.keep hal) (hq.keep hal) (HM1.out.1.ok i hlt) HK.out)
      have HD := Lib.hid (show demI X k (i + 1) = addI (demI X k i) (rateS (X i) k) from rfl)
      have HA := Lib.hid (add_any (demI X k i) (rateS (X i) k))
      have F := Lib.hid (bcall hb (Nat.le_refl _) hal)
      clear hal hxs hb hq hp
      generalize rateS (X i) k = rv at *
      generalize demI X k i = dv at *
      generalize addI dv rv = av at *
      go_wp2_with fail
      refine HR.out.mono ?_
      rintro e W4 ⟨rfl, hb⟩
      have F2 := Lib.hid (bcall F.out (Nat.le_refl _) hb)
      clear hb HR x0 x1 z0 z1
      go_wp2_with fail
      refine (HA.out _).mono ?_
      rintro e W5 ⟨rfl, hw5⟩
      subst hw5
      go_wp2_with fail
      exact ⟨⟨i + 1, hlt, by first | rw [hw3] | rw [Int.natCast_succ], by rw [HD.out], F2.out⟩, by first | (rw [hw3]; exact mSucc hlt) | (rw [← Int.natCast_succ]; exact mSucc hlt)⟩
    · obtain rfl : 16 = i := by omega
      have F := Lib.hid (HM1.out.2.2.2.trans (hb.mono HM1.out.2.2.2.size))
      clear hb
      go_wp2_with fail
      go_ret
      exact ⟨rfl, F.out⟩
end Go.Proofs.Ytfmehahjjgalfaa.Me
/- A region that draws its order, in which things are read ahead of one operation t that writes what was read. -/
namespace Go.Proofs.Ytfmehahjjgalfaa
open Go Go.RowKit

section
variable {P : Program} {ops : Array Oper} {md : Region.Mode} {S : World → Prop}

/-- whatever order is picked: S holds behind every operation but t -/
def wpAnyT (P : Program) (md : Region.Mode) (ops : Array Oper) (Q : Exit → Act → World → Prop) (t : Nat) (S : World → Prop) : Nat → Array Bool → Act → World → Prop
  | 0, l0, a, w => Region.ready md ops l0 = [] ∧ Q .normal a w
  | f + 1, l0, a, w => (Region.ready md ops l0 = [] → Q .normal a w) ∧ ∀ j ∈ Region.ready md ops l0, wpOp P ops Q j (fun a' w' => (j ≠ t → S w') ∧ wpAnyT P md ops Q t S f (l0.setIfInBounds j true) a' w') a w
theorem any_of_T {Q : Exit → Act → World → Prop} {t : Nat} : ∀ (f : Nat) (l0 : Array Bool) (a : Act) (w : World), wpAnyT P md ops Q t S f l0 a w → wpAny P md ops Q f l0 a w
  | 0, _, _, _, h => h
  | f + 1, _, _, _, h => ⟨h.1, fun j hj => wpOp_mono (fun a' w' h' => any_of_T f _ a' w' h'.2) (h.2 j hj)⟩
theorem T_first {Q : Exit → Act → World → Prop} {t i : Nat} {oi : Oper} {v : Value} {l0 : Array Bool} (hi : ops[i]? = some oi) (hsel : ∀ (j : Nat) (o : Oper) cs b, ops[j]? = some o → o.op ≠ .select cs b) (hQ : ∀ c (a : Act) w, Q (.panic c) (a.put oi.dst v) w → Q (.panic c) a w) (hit : i ∈ ancs md ops t) (f : Nat) :
    ∀ (listed : Array Bool) (a : Act) (w : World), SInv md ops l0 listed →
      (∀ j oj, ops[j]? = some oj → j ≠ i → listed.getD j true = false → (∀ e ∈ oj.after, Region.binds md e = true → e.on ≠ i) → oi.apart ops oj = true) →
      i ∈ Region.ready md ops listed → YieldsIf P ops S oi v a → S w → wpAnyT P md ops Q t S f (listed.setIfInBounds i true) (a.put oi.dst v) w → wpAnyT P md ops Q t S (f + 1) listed a w := by
  induction f with
  | zero =>
    intro listed a w inv _ hr hy hS H
    refine ⟨fun h => (by rw [h] at hr; cases hr), fun j hj => ?_⟩
    by_cases hji : j = i
    · subst hji; exact hy.wpOp hi hS ⟨fun _ => hS, H⟩
    · have h1 := ready_mono hj hji
      rw [H.1] at h1; cases h1
  | succ f ih =>
    intro listed a w inv hfree hr hy hS H
    refine ⟨fun h => (by rw [h] at hr; cases hr), fun j hj => ?_⟩
    have hun := (mem_ready.1 hr).1
    by_cases hji : j = i
    · subst hji; exact hy.wpOp hi hS ⟨fun _ => hS, H⟩
    obtain ⟨hjun, oj, hoj, hall⟩ := mem_ready.1 hj
    have hjt : j ≠ t := by
      rintro rfl
      have := inv.ancs hj i hit
      rw [getD_both hun] at this; cases this
    have hnot : ∀ e ∈ oj.after, Region.binds md e = true → e.on ≠ i := by
      intro e he hb heq
      have h1 := hall e he hb
      rw [heq, getD_both hun] at h1
      cases h1
    have h2 := wpOp_putIf hoj (hfree j oj hoj hji hjun hnot) (fun cs b => hsel i oi cs b hi) (fun cs b => hsel j oj cs b hoj) hQ hy (H.2 j (ready_mono hj hji))
    refine wpOp_mono (fun a' w' h3 => ⟨h3.2.1, ih (listed.setIfInBounds j true) a' w' (inv.set hj) ?_ (ready_mono hr (Ne.symm hji)) h3.1 (h3.2.1 hjt) ?_⟩) h2
    · intro k ok hk hki hun' hno
      refine hfree k ok hk hki ?_ hno
      by_cases hjk : j = k
      · subst hjk; exact hjun
      · rw [getD_set_ne true hjk] at hun'; exact hun'
    · rw [Array.setIfInBounds_comm _ _ hji]; exact h3.2.2
def readsB (md : Region.Mode) (ops : Array Oper) (t : Nat) (hd : List Nat) (l0 : Array Bool) : Bool := Region.noSelect ops && closedB md ops l0 && hd.all (fun i => (ancs md ops t).contains i) && pureS md ops hd l0
theorem readsT_go {Q : Exit → Act → World → Prop} {t g : Nat} {w : World} (hsel : Region.noSelect ops = true) (hS : S w) (hQ : ∀ c (a : Act) d v w, Q (.panic c) (a.put d v) w → Q (.panic c) a w) {l1 : Array Bool} : ∀ (hd : List Nat) (l0 : Array Bool) (a : Act), SInv md ops l1 l0 → (∀ i ∈ hd, i ∈ ancs md ops t) → pureS md ops hd l0 = true → wpRead P ops S (fun a' => wpAnyT P md ops Q t S g (setAll hd l0) a' w) (pick ops.toList hd) a → wpAnyT P md ops Q t S (hd.length + g) l0 a w
  | [], l0, a, _, _, _, h => by rw [List.length_nil, Nat.zero_add]; exact h
  | i :: r, l0, a, inv, ht, hB, h => by
    simp only [pureS, Bool.and_eq_true] at hB
    obtain ⟨⟨hr, hf⟩, hB'⟩ := hB
    have hr' : i ∈ Region.ready md ops l0 := by simpa using hr
    obtain ⟨o, ho⟩ := ready_lt (md := md) (ops := ops) (listed := l0) (i := i) hr'
    have hp : pick ops.toList (i :: r) = o :: pick ops.toList r := by simp [pick, List.getD_eq_getElem?_getD, ho]
    rw [hp] at h
    rw [List.length_cons, Nat.succ_add]
    unfold wpRead at h
    by_cases hw : Region.wanted o (yielded ops a.tmps) = true
    · rw [if_pos hw] at h
      obtain ⟨v, hv, hrest⟩ := h
      exact T_first ho (Region.noSelect_spec hsel) (fun c a w => hQ c a _ _ w) (ht i (by simp)) _ l0 a w inv (Region.free_spec ho hf) hr' (.inl ⟨hw, hv⟩) hS (readsT_go hsel hS hQ r _ _ (inv.set hr') (fun j hj => ht j (by simp [hj])) hB' hrest)
    · rw [if_neg hw] at h
      exact T_first ho (Region.noSelect_spec hsel) (fun c a w => hQ c a _ _ w) (ht i (by simp)) _ l0 a w inv (Region.free_spec ho hf) hr' (.inr ⟨by simpa using hw, rfl⟩) hS (readsT_go hsel hS hQ r _ _ (inv.set hr') (fun j hj => ht j (by simp [hj])) hB' h)
/-- those that only read what S says may be taken first, if t waits for them -/
theorem T_reads {Q : Exit → Act → World → Prop} {t g n : Nat} (hd : List Nat) (hn : hd.length + g = n) {l0 : Array Bool} {a : Act} {w : World} (hB : readsB md ops t hd l0 = true) (hS : S w) (hQ : ∀ c (a : Act) d v w, Q (.panic c) (a.put d v) w → Q (.panic c) a w)
    (h : wpRead P ops S (fun a' => wpAnyT P md ops Q t S g (setAll hd l0) a' w) (pick ops.toList hd) a) : wpAnyT P md ops Q t S n l0 a w := by
  subst hn
  simp only [readsB, Bool.and_eq_true] at hB
  exact readsT_go hB.1.1.1 hS hQ hd l0 a (sinv_of hB.1.1.2) (fun i hi => by simpa using List.all_eq_true.1 hB.1.2 i hi) hB.2 h
/-- one that comes up alone -/
theorem T_one {Q : Exit → Act → World → Prop} {t g : Nat} (i : Nat) {l0 : Array Bool} {a : Act} {w : World} (hB : decide (Region.ready md ops l0 = [i]) = true)
    (h : wpList P ops (Exit.then (fun a' w' => (i ≠ t → S w') ∧ wpAnyT P md ops Q t S g (l0.setIfInBounds i true) a' w') Q) (pick ops.toList [i]) a w) : wpAnyT P md ops Q t S (g + 1) l0 a w := by
  have hr : Region.ready md ops l0 = [i] := by simpa using hB
  obtain ⟨o, ho⟩ := ready_lt (md := md) (ops := ops) (listed := l0) (i := i) (by rw [hr]; simp)
  refine ⟨fun h0 => (by rw [h0] at hr; cases hr), ?_⟩
  rw [hr]
  intro j hj
  obtain rfl : j = i := by simpa using hj
  have hp : pick ops.toList [j] = [o] := by simp [pick, List.getD_eq_getElem?_getD, ho]
  rw [hp] at h
  unfold wpOp
  simp only [ho]
  unfold wpList at h
  by_cases hw : Region.wanted o (yielded ops a.tmps) = true
  · rw [if_pos hw] at h ⊢
    refine h.imp (fun h => wp_then (Oper.wp_mono (fun a' w' h' => h') h)) (fun h => ⟨h.1, let ⟨a, w, h⟩ := h.2; ⟨a, w, h⟩⟩)
  · rw [if_neg hw] at h ⊢
    exact h
theorem T_done {Q : Exit → Act → World → Prop} {t : Nat} {l0 : Array Bool} {a : Act} {w : World} (hr : Region.ready md ops l0 = []) (h : Q .normal a w) : ∀ f, wpAnyT P md ops Q t S f l0 a w
  | 0 => ⟨hr, h⟩
  | _ + 1 => ⟨fun _ => h, by rw [hr]; simp⟩
theorem wp_region_T {id : Nat} {Q : Exit → Act → World → Prop} {a : Act} {w : World} {l : List Oper} (t : Nat) (S : World → Prop) (hm : P.follows .mixedOrders = true)
    (h : wpAnyT P .any l.toArray Q t S l.length (Array.replicate l.length false) a w.drew) : (Code.region id l.toArray true).wp P Q a w := by
  refine wp_region_any hm ?_
  simpa using any_of_T _ _ _ _ h
end
end Go.Proofs.Ytfmehahjjgalfaa
/- Meter: Demands. -/
namespace Go.Proofs.Ytfmehahjjgalfaa.Me
open Go.RowKit
open Go.ChangeMaps (setBlock)

theorem size_setBlock (w : World) (b : Nat) (O : Obj) : (setBlock w b O).heap.size = w.heap.size := by simp [setBlock]
theorem demands_nil (w : World) : Calls Try.prog 55 #[.pointer none] w fun e w' => e = .returned (.slice none 0 0) ∧ w' = w := by
  go_enter Try.func55, Try.ntmps55
  go_wp2_with fail
  go_ret
  exact ⟨rfl, rfl⟩
theorem ran_new {es done : List (MR.Ent PK)} {seen : Array Nat} (h : MR.Ran es seen done) (hn : (es.map (·.1)).Nodup) {e : MR.Ent PK} (he : e ∈ es) (hs : e.2.2 ∉ seen) : e.1 ∉ done.map (·.1) := by
  intro hm
  obtain ⟨x, hx, hxe⟩ := List.mem_map.1 hm
  have h1 := MR.inj_of_nodup hn (h.sub x hx) he hxe
  subst h1
  have h2 : x.2.2 ∈ seen.toList := by rw [h.seen]; exact List.mem_map.2 ⟨x, hx, rfl⟩
  exact hs (by simpa using h2)
theorem lay_keys {es : List (MR.Ent PK)} {L : List Ct} (h : Kl.Lay Ct.p Ct.v es L) : (es.map (·.1)).Perm (L.map Ct.p) := by
  have h1 := h.perm.map Ct.p
  rw [List.map_map] at h1
  have h2 : es.map (Ct.p ∘ Kl.ofE Ct.p L) = es.map (·.1) := List.map_congr_left fun e he => (h.ent he).2.2.1
  rw [h2] at h1
  exact h1
theorem rangeAt_keep {w w' : World} {m o : Nat} {l : List Value} (h : w.rangeAt m o l) (hb : w'.heap[m]? = w.heap[m]?) : w'.rangeAt m o l := fun j v hv => (cell_same hb).trans (h j v hv)
structure DmC (q3 qs bm : Nat) (k : PK) (p q : Option Addr) (D : List Ct) (W : World) : Prop where
  key : BxP q3 k W
  src : SrS qs p q W
  all : CntAt W bm D
theorem DmC.keep {q3 qs bm : Nat} {k : PK} {p q : Option Addr} {D : List Ct} {w w' : World} (h : DmC q3 qs bm k p q D w) (hb : Below w.heap.size w w') : DmC q3 qs bm k p q D w' := ⟨h.key.keep hb, h.src.keep hb, h.all.keep hb⟩
theorem DmC.facts {q3 qs bm : Nat} {k : PK} {p q : Option Addr} {D : List Ct} {W : World} (h : DmC q3 qs bm k p q D W) (hk : PN.ok k) : (W.cell? ⟨q3, 0, none⟩ = some (.int .u32 (k.1 : Int)) ∧ W.cell? ⟨q3, 1, none⟩ = some (.int .i64 k.2)) ∧ (W.cell? ⟨qs, 0, none⟩ = some (.pointer p) ∧ W.cell? ⟨qs, 1, none⟩ = some (.pointer q)) ∧ (Instr.lookup 129 (.map (some bm)) (.agg #[.int .u32 (k.1 : Int), .int .i64 k.2]) false).run Try.prog W = .ok (.int .i64 (cnt D k)) W := ⟨h.key.cells, h.src.cells, h.all.lookup1 hk W rfl⟩
structure DemsR (w w' : World) (X : Nat → Src) (v : Value) (L : List Ct) : Prop where
  own : RCt.Own w' w.heap.size v L
  dem : Dem X L
  bel : Below w.heap.size w w'
set_option maxRecDepth 100000 in
set_option maxHeartbeats 8000000 in
theorem demands_any {w : World} {m : Nat} {X : Nat → Src} (H : MetAt w m X) : Calls Try.prog 55 #[.pointer (some ⟨m, 0, none⟩)] w fun e w' => ∃ v L, e = .returned v ∧ DemsR w w' X v L := by
  have hmm := @run_makeMap Try.prog
  obtain ⟨A, hA, hra0, hall⟩ := H.all
  have hal0 := (Below.refl w.heap.size w).alloc (Nat.le_refl _) (.map #[] 0)
  have hra := rangeAt_keep hra0 (hal0.block m H.lt)
  have HM := Lib.hid (And.intro H hall)
  have HO := Lib.hid H.ok
  have F0 := Lib.hid (And.intro (CntAt.made (b := w.heap.size) (hnew w (.map #[] 0))) hal0)
  clear H hall hra0 hal0
  go_enter Try.func55, Try.ntmps55
  go_wp2_with (with_reducible refine halt_load 124 rfl ?_)
  refine Halted.go ?_
  refine load_mid rfl 124 _ rfl m 0 A rfl hra Try.underlying124 rfl (by rw [hA]; exact infoA) ?_
  clear hra hA hmm
  go_wp2_with fail
  go_loopw [17] (fun iv wr => ∃ (i : Nat) (D : List Ct), i ≤ 16 ∧ iv = .int .i64 i ∧ CntAt wr w.heap.size D ∧ DemMap X i D ∧ Below w.heap.size w wr) (fun iv _ => 16 - (intOf iv).toNat)
  case atStart => exact ⟨0, [], Nat.zero_le _, rfl, F0.out.1, DemMap.none X, F0.out.2⟩
  case round =>
    obtain ⟨i, D, hi, rfl, hcn, hdm, hb⟩ := hrel
    obtain ⟨w2, rfl⟩ : ∃ w2 : World, w2 = wr := ⟨_, rfl⟩
    clear F0
    by_cases hlt : i < 16
    · have hil : ((i : Int) < 16) = True := by simp; omega
      have hw3 := wrapS hlt (show 16 ≤ maxLen by unfold maxLen; omega)
      obtain ⟨p, q, hix, hp, hq⟩ := HM.out.2.ix i hlt
      cases hl : (X i).last with
      | none =>
        rw [hl] at hp
        obtain rfl : p = none := hp
        have hal := (Below.refl w2.heap.size w2).alloc (Nat.le_refl _) (.cells #[.pointer none, .pointer q] 123)
        have hxs : SrS w2.heap.size none q (w2.alloc (.cells #[.pointer none, .pointer q] 123)) := hnew _ _
        obtain ⟨x0, x1⟩ := hxs.cells
        have F := Lib.hid (And.intro (hcn.keep hal) (And.intro (hdm.skip HO.out hlt hl) (bcall hb (Nat.le_refl _) hal)))
        clear hal hxs hcn hdm hb hq hl
        go_wp2_with fail
        exact ⟨⟨i + 1, D, hlt, by first | rw [hw3] | rw [Int.natCast_succ], F.out⟩, by first | (rw [hw3]; exact mSucc hlt) | (rw [← Int.natCast_succ]; exact mSucc hlt)⟩
      | some r =>
        have hp0 := hp
        rw [hl] at hp0
        obtain ⟨b, br, rfl, htk⟩ := hp0.two
        have hal := (Below.refl w2.heap.size w2).alloc (Nat.le_refl _) (.cells #[.pointer (some ⟨b, 0, none⟩), .pointer q] 123)
        have hxs : SrS w2.heap.size (some ⟨b, 0, none⟩) q (w2.alloc (.cells #[.pointer (some ⟨b, 0, none⟩), .pointer q] 123)) := hnew _ _
        have hb2 := bcall hb (Nat.le_refl _) hal
        obtain ⟨x0, x1⟩ := hxs.cells
        have htk2 := htk.keep hb2
        obtain ⟨y0, y1, y2⟩ := htk2.cells
        obtain ⟨clk, es, k2, k3⟩ := htk.2.out
        have hrg := MR.run_range PN (k2.blk_iff PN (hb2.block _ htk.2.lt)) Try.underlying129
        have hal2 := (Below.refl (w2.alloc (.cells #[.pointer (some ⟨b, 0, none⟩), .pointer q] 123)).heap.size (w2.alloc (.cells #[.pointer (some ⟨b, 0, none⟩), .pointer q] 123))).alloc (Nat.le_refl _) (.mapIter (some br) clk #[] clk)
        have hit : ((w2.alloc (.cells #[.pointer (some ⟨b, 0, none⟩), .pointer q] 123)).alloc (.mapIter (some br) clk #[] clk)).heap[w2.heap.size + 1]? = some (.mapIter (some br) clk #[] clk) := hnewAt (by simp)
        have F := Lib.hid (And.intro ((hcn.keep hal).keep hal2) (And.intro hdm.enter (And.intro hit (And.intro (bcall hb2 (Nat.le_refl _) hal2) (And.intro (hxs.keep hal2) (show w2.heap.size + 1 + 1 ≤ ((w2.alloc (.cells #[.pointer (some ⟨b, 0, none⟩), .pointer q] 123)).alloc (.mapIter (some br) clk #[] clk)).heap.size from by simp))))))
        have HL := Lib.hid (And.intro k2 (And.intro k3 (And.intro hl (And.intro hp hq))))
        have HBR := Lib.hid (show br < w.heap.size ∧ w.heap.size ≤ w2.heap.size ∧ w.heap.size ≠ w2.heap.size + 1 ∧ w.heap.size < w2.heap.size from ⟨htk.2.lt, hb.size, by have := hcn.lt; omega, hcn.lt⟩)
        clear hal hxs hcn hdm hb hq hp hl hb2 htk htk2 k2 k3 hal2 hit hp0
        go_wp2_with fail
        clear x0 x1 y0 y1 y2 hrg
        go_loopw [6] (fun _ wr => ∃ (E : List Ct) (done : List (MR.Ent PK)) (seen : Array Nat), CntAt wr w.heap.size E ∧ DemIn X i (done.map (·.1)) E ∧ wr.heap[w2.heap.size + 1]? = some (.mapIter (some br) clk seen clk) ∧ MR.Ran es seen done ∧ Below w.heap.size w wr ∧ SrS w2.heap.size (some ⟨b, 0, none⟩) q wr ∧ w2.heap.size + 1 + 1 ≤ wr.heap.size) (fun _ wr => es.length - seenN wr (w2.heap.size + 1))
        case atStart => exact ⟨D, [], #[], F.out.1, F.out.2.1, F.out.2.2.1, MR.Ran.none _, F.out.2.2.2.1, F.out.2.2.2.2.1, F.out.2.2.2.2.2⟩
        case round =>
          obtain ⟨E, done, seen, hcn, hdi, hit, hran, hb, hss, hsz⟩ := hrel
          obtain ⟨w5, rfl⟩ : ∃ w5 : World, w5 = wr := ⟨_, rfl⟩
          have hm2 : MR.MapAt PN w5 br es clk := HL.out.1.blk_iff PN (hb.block _ HBR.out.1)
          obtain ⟨hdl, hsd⟩ := Ran_len hran HL.out.1.bnodup
          rcases MR.next_step PN hm2 hit 0 with ⟨hall, hnx⟩ | ⟨e, hein, hens, w6, hnx, hset⟩
          · have hK := ((hran.all HL.out.1.bnodup hall).map (·.1)).trans (lay_keys HL.out.2.1)
            have G := Lib.hid (And.intro hcn (And.intro (hdi.leave HO.out hlt HL.out.2.2.1 hK) hb))
            clear hcn hdi hit hran hb hss hsz hm2 hdl hsd hall hK
            go_wp2_with fail
            exact ⟨⟨i + 1, E, hlt, by first | rw [hw3] | rw [Int.natCast_succ], G.out⟩, by first | (rw [hw3]; exact mSucc hlt) | (rw [← Int.natCast_succ]; exact mSucc hlt)⟩
          · have hm3 := hm2.blk_iff PN (hset.other (show br ≠ w2.heap.size + 1 from by have := HBR.out; omega))
            have hen := MR.run_entry PN hm3 hein (hset.at hsz)
            have hent0 := HL.out.2.1.ent hein
            rw [hent0.2.1] at hnx hen
            have hnew1 := ran_new hran HL.out.1.nodup hein hens
            have hok := HL.out.1.ok e hein
            have hb3 : Below w.heap.size w w6 := hb.trans (hset.below (by have := HBR.out; omega))
            have hr3 := hran.more hein hens
            have hit3 := hset.at hsz
            have hs3 : w2.heap.size + 1 + 1 ≤ w6.heap.size := by rw [hset.size]; exact hsz
            have hms : seenN w5 (w2.heap.size + 1) = seen.size := seenN_of hit
            have hdl3 := (Ran_len hr3 HL.out.1.bnodup)
            have hmr := hdi.more HO.out hlt hcn.nd hnew1
            rw [show done.map (·.1) ++ [e.1] = (done ++ [e]).map (·.1) from by simp] at hmr
            have hcn3 := hcn.on (hset.other (show w.heap.size ≠ w2.heap.size + 1 from HBR.out.2.2.1))
            have hss3 : SrS w2.heap.size (some ⟨b, 0, none⟩) q w6 := (hset.other (Nat.ne_of_lt (Nat.lt_succ_self _))).trans hss
            have hke : PN.enc e.1 = .agg #[.int .u32 (e.1.1 : Int), .int .i64 e.1.2] := rfl
            rw [hke] at hnx hen
            have HG := Lib.hid (And.intro hmr (And.intro hr3 (And.intro hit3 (And.intro hdl3 hms))))
            have HW := Lib.hid (And.intro hb3 (And.intro hcn3 (And.intro hss3 hs3)))
            have HOK := Lib.hid hok
            generalize Kl.ofE Ct.p r.cs e = x at *
            unfold Ct.v at hnx hen
            obtain ⟨k, hk0⟩ : ∃ k, e.1 = k := ⟨_, rfl⟩
            have HE := Lib.hid hk0
            rw [hk0] at hen HG HOK
            clear hcn hdi hit hran hb hss hsz hm2 hdl hsd hm3 hens hein hent0 hnew1 hok hb3 hr3 hit3 hs3 hms hdl3 hmr hcn3 hss3 hset hke hk0
            go_wp2_with (with_reducible refine halt_store 58 rfl ?_)
            refine Halted.go ?_
            have hal := (Below.refl w6.heap.size w6).alloc (Nat.le_refl _) (.cells #[.int .u32 0, .int .i64 0] 58)
            refine store_whole rfl 58 _ _ rfl w6.heap.size #[.int .u32 (k.1 : Int), .int .i64 k.2] rfl rfl (hnew _ _) rfl (by kernel_rfl) (by simp [Value.oneCell']) ?_
            intro wz hwz hsz
            have hzb : Below w6.heap.size w6 wz := Below.trans hal (hsz.below (Nat.le_refl _))
            have HZ := Lib.hid (And.intro (show DmC w6.heap.size w2.heap.size w.heap.size k (some ⟨b, 0, none⟩) q E wz from ⟨hwz, HW.out.2.2.1.keep hzb, HW.out.2.1.keep hzb⟩) (And.intro (bcall HW.out.1 (Nat.le_refl _) hzb) (And.intro ((hzb.block _ HW.out.2.2.2).trans HG.out.2.2.1) (Nat.le_trans HW.out.2.2.2 hzb.size))))
            have HC := Lib.hid (fun w' (hw' : DmC w6.heap.size w2.heap.size w.heap.size k (some ⟨b, 0, none⟩) q E w') => hw'.facts HOK.out)
            clear hwz hsz hal hzb HW
            generalize w6.heap.size = q3 at *
            go_wp2_with fail
            refine wp_region_T 9 (DmC q3 w2.heap.size w.heap.size k (some ⟨b, 0, none⟩) q E) (by kernel_rfl) ?_
            have hd := (Below.refl wz.heap.size wz).drew
            have HR := Lib.hid (rate_any ((HL.out.2.2.2.1.keep HZ.out.2.1).keep hd) ((HL.out.2.2.2.2.keep HZ.out.2.1).keep hd) (HO.out i hlt) HOK.out)
            have HZ2 := Lib.hid (And.intro (HZ.out.1.keep hd) (And.intro (bcall HZ.out.2.1 (Nat.le_refl _) hd) (And.intro (show wz.drew.heap[w2.heap.size + 1]? = _ from HZ.out.2.2.1) (show w2.heap.size + 1 + 1 ≤ wz.drew.heap.size from HZ.out.2.2.2))))
            have HA := Lib.hid (add_any (cnt E k) (rateS (X i) k))
            clear hd HZ
            generalize wz.drew = V at *
            generalize rateS (X i) k = rv at *
            refine T_reads [0, 1, 2, 3, 4, 5, 6] (g := 3) rfl (by kernel_rfl) HZ2.out.1 (fun _ _ d _ _ h => by cases d <;> exact h) ?_
            simp only [pick, List.getD_cons_zero, List.getD_cons_succ]
            ((with_reducible refine wpRead_step (fun K hK => ?_)); go_simp; first | ((with_reducible refine hK _ ?_); clear hK K) | (apply Exists.intro; (with_reducible refine ⟨fun w' hw' => ?_, hK _ ?_⟩); (first | exact rfl | exact ⟨rfl, rfl⟩); clear hK K))
            ((with_reducible refine wpRead_step (fun K hK => ?_)); go_simp; first | ((with_reducible refine hK _ ?_); clear hK K) | (apply Exists.intro; (with_reducible refine ⟨fun w' hw' => ?_, hK _ ?_⟩); (obtain ⟨⟨f0, f1⟩, ⟨f2, f3⟩, l0⟩ := HC.out w' hw'; go_simp; first | exact rfl | exact ⟨rfl, rfl⟩); clear hK K))
            ((with_reducible refine wpRead_step (fun K hK => ?_)); go_simp; first | ((with_reducible refine hK _ ?_); clear hK K) | (apply Exists.intro; (with_reducible refine ⟨fun w' hw' => ?_, hK _ ?_⟩); (first | exact rfl | exact ⟨rfl, rfl⟩); clear hK K))
            ((with_reducible refine wpRead_step (fun K hK => ?_)); go_simp; first | ((with_reducible refine hK _ ?_); clear hK K) | (apply Exists.intro; (with_reducible refine ⟨fun w' hw' => ?_, hK _ ?_⟩); (obtain ⟨⟨f0, f1⟩, ⟨f2, f3⟩, l0⟩ := HC.out w' hw'; go_simp; first | exact rfl | exact ⟨rfl, rfl⟩); clear hK K))
            ((with_reducible refine wpRead_step (fun K hK => ?_)); go_simp; first | ((with_reducible refine hK _ ?_); clear hK K) | (apply Exists.intro; (with_reducible refine ⟨fun w' hw' => ?_, hK _ ?_⟩); (obtain ⟨⟨f0, f1⟩, ⟨f2, f3⟩, l0⟩ := HC.out w' hw'; go_simp; first | exact rfl | exact ⟨rfl, rfl⟩); clear hK K))
            ((with_reducible refine wpRead_step (fun K hK => ?_)); go_simp; first | ((with_reducible refine hK _ ?_); clear hK K) | (apply Exists.intro; (with_reducible refine ⟨fun w' hw' => ?_, hK _ ?_⟩); (obtain ⟨⟨f0, f1⟩, ⟨f2, f3⟩, l0⟩ := HC.out w' hw'; go_simp; first | exact rfl | exact ⟨rfl, rfl⟩); clear hK K))
            ((with_reducible refine wpRead_step (fun K hK => ?_)); go_simp; first | ((with_reducible refine hK _ ?_); clear hK K) | (apply Exists.intro; (with_reducible refine ⟨fun w' hw' => ?_, hK _ ?_⟩); (obtain ⟨⟨f0, f1⟩, ⟨f2, f3⟩, l0⟩ := HC.out w' hw'; go_simp; first | exact rfl | exact ⟨rfl, rfl⟩); clear hK K))
            with_reducible refine wpRead_nil ?_
            refine T_one 7 (by kernel_rfl) ?_
            simp only [pick, List.getD_cons_zero, List.getD_cons_succ]
            go_wp2_with fail
            refine HR.out.mono ?_
            rintro ev V2 ⟨rfl, hb⟩
            have HZ3 := Lib.hid (And.intro (HZ2.out.1.keep hb) (And.intro (bcall HZ2.out.2.1 (Nat.le_refl _) hb) (And.intro ((hb.block _ HZ2.out.2.2.2).trans HZ2.out.2.2.1) (Nat.le_trans HZ2.out.2.2.2 hb.size))))
            clear hb HR HZ2
            go_wp2_with fail
            refine ⟨fun _ => HZ3.out.1, ?_⟩
            refine T_one 8 (by kernel_rfl) ?_
            simp only [pick, List.getD_cons_zero, List.getD_cons_succ]
            go_wp2_with fail
            refine (HA.out _).mono ?_
            rintro ev V3 ⟨rfl, hw⟩
            subst hw
            go_wp2_with fail
            refine ⟨fun _ => HZ3.out.1, ?_⟩
            obtain ⟨O, hup, htab⟩ := HZ3.out.1.all.update HOK.out (addI (cnt E k) rv)
            have HZ4 := Lib.hid (And.intro htab (And.intro (below_put HZ3.out.2.1 (Nat.le_refl _) O) (And.intro ((setBlock_other (W := V3) (b := w.heap.size) (o := O) (Ne.symm HBR.out.2.2.1)).trans HZ3.out.2.2.1) (And.intro (show SrS w2.heap.size (some ⟨b, 0, none⟩) q (setBlock V3 w.heap.size O) from (setBlock_other (Nat.ne_of_gt HBR.out.2.2.2)).trans HZ3.out.1.src) (show w2.heap.size + 1 + 1 ≤ (setBlock V3 w.heap.size O).heap.size from by rw [size_setBlock]; exact HZ3.out.2.2.2)))))
            clear htab
            generalize addI (cnt E k) rv = av at *
            refine T_one 9 (by kernel_rfl) ?_
            simp only [pick, List.getD_cons_zero, List.getD_cons_succ]
            go_wp2_with fail
            refine ⟨fun h => absurd rfl h, ?_⟩
            refine T_done (by kernel_rfl) ?_ _
            go_wp2_with fail
            obtain ⟨g1, g2, g3, g4, g5⟩ := HG.out
            refine ⟨⟨_, done ++ [e], seen.push e.2.2, HZ4.out.1, g1, HZ4.out.2.2.1, g2, HZ4.out.2.1, HZ4.out.2.2.2.1, HZ4.out.2.2.2.2⟩, ?_⟩
            have h5 : seenN (setBlock V3 w.heap.size O) (w2.heap.size + 1) = (seen.push e.2.2).size := seenN_of HZ4.out.2.2.1
            have h6 := g4.2
            have h7 := g4.1
            rw [h5, g5]
            rw [Array.size_push] at h6 ⊢
            omega
    · obtain rfl : 16 = i := by omega
      have hdm16 := hdm
      have hnd := hcn.nd
      obtain ⟨clk, es, k2, k3⟩ := hcn.out
      have hrg := MR.run_range PN k2 Try.underlying129
      have hal := (Below.refl w2.heap.size w2).alloc (Nat.le_refl _) (.mapIter (some w.heap.size) clk #[] clk)
      have hit : (w2.alloc (.mapIter (some w.heap.size) clk #[] clk)).heap[w2.heap.size]? = some (.mapIter (some w.heap.size) clk #[] clk) := hnew _ _
      have HF := Lib.hid (And.intro k2 (And.intro k3 (And.intro hcn.lt (And.intro hdm16 hnd))))
      have HLE := Lib.hid (show es.length ≤ 4611686 from by rw [k3.len]; exact Nat.le_trans hdm.len (by decide))
      have HW := Lib.hid (And.intro (bcall hb (Nat.le_refl _) hal) hit)
      have HB2 := Lib.hid hb
      clear k2 k3 hal hit hcn hdm hdm16 hb hnd
      go_wp2_with fail
      go_loopw [7] (fun ov wr => ∃ (done : List (MR.Ent PK)) (seen : Array Nat), RCt.Own wr (w2.heap.size + 1) ov ((done.map (Kl.ofE Ct.p D)).filter posC) ∧ wr.heap[w2.heap.size]? = some (.mapIter (some w.heap.size) clk seen clk) ∧ MR.Ran es seen done ∧ Below w2.heap.size w2 wr ∧ w2.heap.size + 1 ≤ wr.heap.size) (fun _ wr => es.length - seenN wr w2.heap.size)
      case atStart => exact ⟨[], #[], Rep.Own.nil _ _, HW.out.2, MR.Ran.none _, (Below.refl _ _).alloc (Nat.le_refl _) _, by simp⟩
      case round =>
        obtain ⟨done, seen, hown, hit, hran, hb, hsz⟩ := hrel
        obtain ⟨w5, rfl⟩ : ∃ w5 : World, w5 = wr := ⟨_, rfl⟩
        have hm2 : MR.MapAt PN w5 w.heap.size es clk := HF.out.1.blk_iff PN (hb.block _ HF.out.2.2.1)
        obtain ⟨hdl, hsd⟩ := Ran_len hran HF.out.1.bnodup
        rcases MR.next_step PN hm2 hit 0 with ⟨hall, hnx⟩ | ⟨e, hein, hens, w6, hnx, hset⟩
        · have hpe := ((hran.all HF.out.1.bnodup hall).map (Kl.ofE Ct.p D)).trans HF.out.2.1.perm
          have hpf := hpe.filter posC
          obtain ⟨oa, cc, rfl, -, -⟩ := hown.sl0
          have hln : ((done.map (Kl.ofE Ct.p D)).filter posC).length < 4611686018427387904 := by
            have h1 := List.length_filter_le posC (done.map (Kl.ofE Ct.p D))
            rw [List.length_map] at h1
            have := HLE.out
            omega
          have HS := Lib.hid (Rep.sort_own (R := RCt) sortCt Try.isAgg128 Try.sizeOf128 cmpC swoC 82 #[] enters_cl hown (fun g => cmpC_lays g _ _) hln hsz)
          have G := Lib.hid (And.intro hpf hb)
          generalize ((done.map (Kl.ofE Ct.p D)).filter posC).length = mm at *
          clear hown hm2 hit hran hb hdl hsd hall hpe hpf hln
          go_wp2_with fail
          refine HS.out.mono ?_
          rintro ev w9 ⟨rfl, M, hp, hs, hown9, hb9⟩
          have HE := Lib.hid (show DemsR w w9 X (.slice oa mm cc) M from ⟨hown9.mono (by have := HB2.out.size; omega), dem_sorted HO.out HF.out.2.2.2.1 HF.out.2.2.2.2 (hp.trans G.out.1) hs, bcall HB2.out (Nat.le_refl _) (G.out.2.trans (hb9.mono (Nat.le_succ _)))⟩)
          clear hp hs hown9 hb9 HS G
          go_wp2_with fail
          go_ret
          exact ⟨_, M, rfl, HE.out⟩
        · have hm3 := hm2.blk_iff PN (hset.other (show w.heap.size ≠ w2.heap.size from by have := HF.out.2.2.1; omega))
          have hen := MR.run_entry PN hm3 hein (hset.at hsz)
          have hent0 := HF.out.2.1.ent hein
          rw [hent0.2.1] at hnx hen
          have hown3 := Rep.Own.but hown (But.of_set hset (bs := [w2.heap.size]) (by simp)) (by simp)
          have hb3 : Below w2.heap.size w2 w6 := hb.trans (hset.below (Nat.le_refl _))
          have hr3 := hran.more hein hens
          have hit3 := hset.at hsz
          have hs3 : w2.heap.size + 1 ≤ w6.heap.size := by rw [hset.size]; exact hsz
          have hms : seenN w5 w2.heap.size = seen.size := seenN_of hit
          have hdl3 := (Ran_len hr3 HF.out.1.bnodup)
          have hme : ((done ++ [e]).map (Kl.ofE Ct.p D)).filter posC = if posC (Kl.ofE Ct.p D e) then (done.map (Kl.ofE Ct.p D)).filter posC ++ [Kl.ofE Ct.p D e] else (done.map (Kl.ofE Ct.p D)).filter posC := by
            rw [List.map_append]
            exact filter_snoc posC (done.map (Kl.ofE Ct.p D)) (Kl.ofE Ct.p D e)
          have hln : ((done.map (Kl.ofE Ct.p D)).filter posC).length ≤ done.length := by
            have h1 := List.length_filter_le posC (done.map (Kl.ofE Ct.p D))
            rw [List.length_map] at h1
            exact h1
          have hke : PN.enc e.1 = .agg #[.int .u32 ((Kl.ofE Ct.p D e).p.1 : Int), .int .i64 (Kl.ofE Ct.p D e).p.2] := by rw [hent0.2.2.1]; rfl
          rw [hke] at hnx hen
          obtain ⟨oa, cc, rfl, -, -⟩ := hown.sl0
          obtain ⟨n, hn⟩ : ∃ n, ((done.map (Kl.ofE Ct.p D)).filter posC).length = n := ⟨_, rfl⟩
          have HN := Lib.hid hn
          rw [hn] at hown3 hln ⊢
          have HG := Lib.hid (And.intro hown3 (And.intro hr3 (And.intro hb3 (And.intro hs3 (And.intro hit3 (And.intro hme (And.intro hdl3 (And.intro hln hms))))))))
          generalize Kl.ofE Ct.p D e = x at *
          unfold Ct.v at hnx hen
          clear hown hran hb hdl hsd hm2 hit hm3 hset hens hown3 hr3 hb3 hs3 hit3 hme hdl3 hln hein hent0 hms hn hke hrg
          go_wp2_with (with_reducible refine halt_store 58 rfl ?_)
          refine Halted.go ?_
          have hal := (Below.refl w6.heap.size w6).alloc (Nat.le_refl _) (.cells #[.int .u32 0, .int .i64 0] 58)
          refine store_whole rfl 58 _ _ rfl w6.heap.size #[.int .u32 (x.p.1 : Int), .int .i64 x.p.2] rfl rfl (hnew _ _) rfl (by kernel_rfl) (by simp [Value.oneCell']) ?_
          intro wz hwz hsz
          have hzb : Below w6.heap.size w6 wz := Below.trans hal (hsz.below (Nat.le_refl _))
          obtain ⟨z0, z1⟩ := BxP.cells (k := x.p) hwz
          have HZ := Lib.hid (And.intro (HG.out.1.below hzb) (And.intro (show BxP w6.heap.size x.p wz from hwz) (And.intro (hzb.mono HG.out.2.2.2.1) (Nat.le_trans HG.out.2.2.2.1 hzb.size))))
          clear hwz hsz hal hzb
          generalize w6.heap.size = q3 at *
          by_cases hpx : 0 < x.n
          · have hpt : (0 < x.n) = True := by simp [hpx]
            have HPX := Lib.hid (show posC x = true from by simp [posC, hpx])
            clear hpx
            go_wp2_with (at_builtin; refine halt ?_)
            refine Halted.go ?_
            have hn2 : n ≤ 4611686 := by
              have h1 := HG.out.2.2.2.2.2.2.2.1
              have h2 := HG.out.2.2.2.2.2.2.1.1
              have h3 := HLE.out
              have h4 := HN.out
              rw [List.length_append] at h2
              omega
            have hal := (Below.refl wz.heap.size wz).alloc (Nat.le_refl _) (.cells #[.int .u32 (x.p.1 : Int), .int .i64 x.p.2, .int .i64 x.n] 128)
            refine Rep.append_one T80 rfl _ _ rfl rfl (HZ.out.1.below hal) x _ 1 rfl (hnewAt (by simp)) (n := n) HN.out (by unfold maxLen; omega) (by show (n + 1) * 24 ≤ _; omega) (Nat.le_trans HZ.out.2.2.2 hal.size) ?_
            intro v6 w7 hown6 hb6 _
            obtain ⟨o6, c6, rfl, -, -⟩ := hown6.sl0
            obtain ⟨k1, hk1⟩ : ∃ k1, ((done.map (Kl.ofE Ct.p D)).filter posC ++ [x]).length = k1 := ⟨_, rfl⟩
            rw [hk1] at hown6 ⊢
            clear hk1
            have hbz : Below (w2.heap.size + 1) w6 w7 := HZ.out.2.2.1.trans ((hal.mono HZ.out.2.2.2).trans hb6)
            have HK := Lib.hid (And.intro hown6 (And.intro hbz (Nat.le_trans HZ.out.2.2.2 (Nat.le_trans hal.size hb6.size))))
            clear hown6 hb6 hbz hal hn2
            go_wp2_with fail
            obtain ⟨g1, g2, g3, g4, g5, g6, g7, g8, g9⟩ := HG.out
            rw [HPX.out, if_pos rfl] at g6
            refine ⟨⟨_, _, _, _, _, _, _, _, _, _, _, _, _, _, _, _, ⟨done ++ [e], seen.push e.2.2, ?_, (HK.out.2.1.block _ (Nat.lt_succ_self _)).trans g5, g2, g3.trans (HK.out.2.1.mono (Nat.le_succ _)), HK.out.2.2⟩, rfl⟩, ?_⟩
            · rw [g6]; exact HK.out.1
            · have h5 : seenN w7 w2.heap.size = (seen.push e.2.2).size := seenN_of ((HK.out.2.1.block _ (Nat.lt_succ_self _)).trans g5)
              have h6 := g7.2
              have h7 := g7.1
              rw [h5, g9]
              rw [Array.size_push] at h6 ⊢
              omega
          · have hpt : (0 < x.n) = False := by simp; omega
            have HPX := Lib.hid (show posC x = false from by simp [posC]; omega)
            clear hpx
            go_wp2_with fail
            obtain ⟨g1, g2, g3, g4, g5, g6, g7, g8, g9⟩ := HG.out
            rw [HPX.out, if_neg (by simp)] at g6
            refine ⟨⟨_, _, _, _, _, _, _, _, _, _, _, _, _, _, _, _, ⟨done ++ [e], seen.push e.2.2, ?_, (HZ.out.2.2.1.block _ (Nat.lt_succ_self _)).trans g5, g2, g3.trans (HZ.out.2.2.1.mono (Nat.le_succ _)), HZ.out.2.2.2⟩, rfl⟩, ?_⟩
            · rw [g6]; exact HZ.out.1
            · have h5 : seenN wz w2.heap.size = (seen.push e.2.2).size := seenN_of ((HZ.out.2.2.1.block _ (Nat.lt_succ_self _)).trans g5)
              have h6 := g7.2
              have h7 := g7.1
              rw [h5, g9]
              rw [Array.size_push] at h6 ⊢
              omega
end Go.Proofs.Ytfmehahjjgalfaa.Me
/- Meter: Over. -/
namespace Go.Proofs.Ytfmehahjjgalfaa.Me
open Go.RowKit
open Go.ChangeMaps (setBlock)

def sumC (L : List Ct) : Int := L.foldl (fun n x => addI n x.n) 0
theorem sumC_succ {L : List Ct} {i : Nat} (hi : i < L.length) : sumC (L.take (i + 1)) = addI (sumC (L.take i)) (L.getD i default).n := by
  unfold sumC
  rw [List.take_succ_eq_append_getElem hi, List.foldl_append]
  simp [List.getD_eq_getElem?_getD, hi]
theorem over_nil (w : World) : Calls Try.prog 57 #[.pointer none] w fun e w' => e = .returned (.bool false) ∧ Below w.heap.size w w' := by
  have HD := Lib.hid (demands_nil w)
  go_enter Try.func57, Try.ntmps57
  go_wp2_with fail
  refine HD.out.mono ?_
  rintro e W1 ⟨rfl, hw⟩
  subst hw
  go_wp2_with fail
  go_loopw [3, 9] (fun sv iv wr => sv = .int .i64 0 ∧ iv = .int .i64 0 ∧ Below W1.heap.size W1 wr) (fun _ _ _ => 0)
  case atStart => exact ⟨rfl, rfl, Below.refl _ _⟩
  case round =>
    obtain ⟨rfl, rfl, hb⟩ := hrel
    obtain ⟨w2, rfl⟩ : ∃ w2 : World, w2 = wr := ⟨_, rfl⟩
    have G := Lib.hid hb
    clear hb
    go_wp2_with fail
    go_ret
    exact ⟨rfl, G.out⟩
set_option maxRecDepth 100000 in
set_option maxHeartbeats 2000000 in
theorem over_any {w : World} {m : Nat} {X : Nat → Src} (H : MetAt w m X) : Calls Try.prog 57 #[.pointer (some ⟨m, 0, none⟩)] w fun e w' => ∃ L, Dem X L ∧ e = .returned (.bool (sumC L == 9007199254740991)) ∧ Below w.heap.size w w' := by
  have HD := Lib.hid (demands_any H)
  clear H
  go_enter Try.func57, Try.ntmps57
  go_wp2_with fail
  refine HD.out.mono ?_
  rintro e W1 ⟨v, L, rfl, hr⟩
  obtain ⟨oa, cc, rfl, hsl, -⟩ := hr.own.sl0
  have hmax : L.length ≤ maxLen := hsl.max
  have F := Lib.hid (And.intro hr.dem (And.intro hr.bel hsl))
  clear hr hsl
  obtain ⟨n, hn⟩ : ∃ n, L.length = n := ⟨_, rfl⟩
  have HN := Lib.hid hn
  rw [hn] at hmax ⊢
  clear hn
  go_wp2_with fail
  go_loopw [3, 9] (fun sv iv wr => ∃ i : Nat, i ≤ n ∧ iv = .int .i64 i ∧ sv = .int .i64 (sumC (L.take i)) ∧ Below W1.heap.size W1 wr) (fun _ iv _ => n - (intOf iv).toNat)
  case atStart => exact ⟨0, Nat.zero_le _, rfl, rfl, Below.refl _ _⟩
  case round =>
    obtain ⟨i, hi, rfl, rfl, hb⟩ := hrel
    obtain ⟨w2, rfl⟩ : ∃ w2 : World, w2 = wr := ⟨_, rfl⟩
    by_cases hlt : i < n
    · have hil : ((i : Int) < (n : Int)) = True := by simp; omega
      have hi0 : ((0 : Int) ≤ (i : Int)) = True := by simp
      have hw3 := wrapS hlt hmax
      have hsc := sumC_succ (L := L) (i := i) (by rw [HN.out]; exact hlt)
      obtain ⟨b, o, hbo, hrow⟩ := F.out.2.2.row (by rw [HN.out]; omega)
      subst hbo
      have hat := (hrow.below hb).get i (by rw [HN.out]; exact hlt)
      generalize L.getD i default = y at *
      have y0 := hat 0 (by decide)
      have y1 := hat 1 (by decide)
      have y2 := hat 2 (by decide)
      simp only [RCt, Nat.add_zero, List.getElem?_cons_zero, List.getElem?_cons_succ] at y0 y1 y2
      have hal := (Below.refl w2.heap.size w2).alloc (Nat.le_refl _) (.cells #[.int .u32 (y.p.1 : Int), .int .i64 y.p.2, .int .i64 y.n] 128)
      have hxs : CtS w2.heap.size y (w2.alloc (.cells #[.int .u32 (y.p.1 : Int), .int .i64 y.p.2, .int .i64 y.n] 128)) := hnew _ _
      obtain ⟨x0, x1, x2⟩ := hxs.cells
      have G := Lib.hid (And.intro (bcall hb (Nat.le_refl _) hal) hsc)
      have HA := Lib.hid (add_any (sumC (L.take i)) y.n)
      clear hal hxs hb hat hrow hsc
      generalize sumC (L.take i) = s at *
      generalize hav : addI s y.n = av at *
      go_wp2_with fail
      refine (HA.out _).mono ?_
      rintro e W5 ⟨rfl, hw5⟩
      subst hw5
      go_wp2_with fail
      exact ⟨⟨i + 1, hlt, by first | rw [hw3] | rw [Int.natCast_succ], by rw [G.out.2], G.out.1⟩, by first | (rw [hw3]; exact mSucc hlt) | (rw [← Int.natCast_succ]; exact mSucc hlt)⟩
    · obtain rfl : n = i := by omega
      have hil : ((n : Int) < (n : Int)) = False := by simp
      rw [List.take_of_length_le (by rw [HN.out]; exact Nat.le_refl _)]
      have G := Lib.hid (F.out.2.1.trans (hb.mono F.out.2.1.size))
      clear hb
      have HL := Lib.hid (show ∃ M, Dem X M ∧ sumC M = sumC L from ⟨L, F.out.1, rfl⟩)
      generalize sumC L = s at *
      go_wp2_with fail
      go_ret
      obtain ⟨M, h1, h2⟩ := HL.out
      exact ⟨M, h1, ret_bool (by rw [h2]), G.out⟩
end Go.Proofs.Ytfmehahjjgalfaa.Me
