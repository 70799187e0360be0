/- Get. -/
import Derived.Test.YtcbpdjenncbbeaaQam
import Derived.Test.YtcbpdjenncbbeaaQaf
import Derived.Laws.IdiomStrings
import Derived.Test.YtcbpdjenncbbeaaQal
namespace Go.Proofs.Ytcbpdjenncbbeaa.Ip
open Go.RowKit

/-- the sets that bytes are, and whether they are bad -/
def gs : Nat → List Nat → Bool → List (Nat × List Nat) × Bool
  | 0, _, bad => ([], bad)
  | f + 1, l, bad => if bad = true ∨ l = [] then ([], bad) else ((rdSet l bad).1 :: (gs f (rdSet l bad).2.1 (rdSet l bad).2.2).1, (gs f (rdSet l bad).2.1 (rdSet l bad).2.2).2)
structure PP where
  tm : Nat
  sq : Nat
  dm : Nat
  ss : List (Nat × List Nat)
def toS (x : Nat × List Nat) : Int × SlV Nat := ((x.1 : Int), ⟨none, x.2.length, 0, x.2⟩)
def PP.pk (P : PP) : Pk := ⟨P.tm, P.sq, P.dm, ⟨none, 0, 0, P.ss.map toS⟩⟩
def pj (x : Int × SlV Nat) : Int × Nat × List Nat := (x.1, x.2.n, x.2.l)
def Pk.is (p : Pk) (P : PP) : Prop := p.tm = P.tm ∧ p.sq = P.sq ∧ p.dm = P.dm ∧ p.ss.l.map pj = P.ss.map (fun x => pj (toS x))
theorem sz_pj {l m : List (Int × SlV Nat)} (h : l.map pj = m.map pj) : ∀ k, sz k l = sz k m := by
  induction l generalizing m with
  | nil => cases m with
    | nil => intro k; rfl
    | cons y r => cases h
  | cons x l ih =>
    cases m with
    | nil => cases h
    | cons y r =>
      rw [List.map_cons, List.map_cons] at h
      injection h with h1 h2
      intro k
      rw [sz_cons, sz_cons]
      simp only [pj, Prod.mk.injEq] at h1
      rw [h1.1, h1.2.1, ih h2]
theorem body_pj {l m : List (Int × SlV Nat)} (h : l.map pj = m.map pj) : bodyB l = bodyB m := by
  induction l generalizing m with
  | nil => cases m with
    | nil => rfl
    | cons y r => cases h
  | cons x l ih =>
    cases m with
    | nil => cases h
    | cons y r =>
      rw [List.map_cons, List.map_cons] at h
      injection h with h1 h2
      simp only [pj, Prod.mk.injEq] at h1
      have := ih h2
      unfold bodyB at *
      rw [List.flatMap_cons, List.flatMap_cons, this]
      simp only [setB, h1.1, h1.2.1, h1.2.2]
theorem Pk.is.eqs {p : Pk} {P : PP} (h : p.is P) : okP p = okP P.pk ∧ pkB p = pkB P.pk := by
  obtain ⟨h1, h2, h3, h4⟩ := h
  have h5 : p.ss.l.map pj = P.pk.ss.l.map pj := by rw [h4]; simp [PP.pk]
  constructor
  · simp only [okP, sz_pj h5, h1, h2, h3]; rfl
  · simp only [pkB, sz_pj h5, body_pj h5, h1, h2, h3]; rfl
def getP (l : List Nat) : Option PP :=
  let a := rdB 2 l false
  let b := rdB 2 a.2.1 a.2.2
  if getN a.1 ≠ 10 ∨ getN b.1 ≠ l.length then none else
  let c := rdB 4 b.2.1 b.2.2
  let d := rdB 4 c.2.1 c.2.2
  let e := rdB 4 d.2.1 d.2.2
  let s := gs (e.2.1.length + 1) e.2.1 e.2.2
  if s.2 = true ∨ okP (PP.pk ⟨getN c.1, getN d.1, getN e.1, s.1⟩) = false then none else some ⟨getN c.1, getN d.1, getN e.1, s.1⟩
theorem T22 : Rep.Ty Try.prog 74 RSt 32 := Rep.Ty.mk' Try.underlying74 (z := .agg #[.int .i64 0, .slice none 0 0]) (by kernel_rfl) rfl
section
variable {P : Program} {a : Act} {w : World}
theorem ret_cell2 {fn : Func} {R : Ending → World → Prop} {p q : Tmp} {ty T : TypeId} {b : Nat} {cells : Array Value} {fr : Nat × Nat} (hr : fn.results = #[.cell p ty, .tmp q]) (hp : a.tmps.getD p undef = .pointer (some ⟨b, 0, none⟩)) (hd : a.defers = [])
    (hb : w.heap[b]? = some (.cells cells T fr)) {d : TypeDesc} (hu : P.underlying ty = some d) (hdr : d.isRow = true) (hi : (P.info? ty).map (·.size) = some cells.size) (h : R (.returned (.tuple #[.agg cells, a.tmps.getD q undef])) w) : bodyPost P fn R .ret a w := by
  refine bodyPost_ret ?_ hd h
  simp only [results, hr]
  have hp' : a.tmps[p]?.getD undef = .pointer (some ⟨b, 0, none⟩) := by simpa using hp
  simp [asAddr, hp', run_load_whole (P := P) hb hu hdr hi]
end
/-- what is got: the packet, or none -/
def GotP (G : Option PP) (e : Ending) (w : World) (ok no : Value) : Prop := ∃ p : Pk, StsOk w p.ss ∧ ((G = none ∧ p = ⟨0, 0, 0, ⟨none, 0, 0, []⟩⟩ ∧ e = .returned (.tuple #[p.v, no])) ∨ ∃ Q, G = some Q ∧ p.is Q ∧ e = .returned (.tuple #[p.v, ok]))
theorem sts_nil (w : World) : StsOk w ⟨none, 0, 0, []⟩ := ⟨⟨rfl, by unfold maxLen; simp, fun h => absurd h (by simp)⟩, fun _ => rfl, Nat.le_refl _, by unfold maxLen; simp, fun x hx => by cases hx⟩
theorem PkS.but {b : Nat} {cs : Array Value} {w w' : World} {bs : List Nat} (h : PkS b cs w) (hb : But w w' bs) (hn : b ∉ bs) : PkS b cs w' := (hb.block b (lt_of_blk h) hn).trans h
theorem rdB_bad (n : Int) (l : List Nat) : rdB n l true = ([], l, true) := by simp [rdB]
theorem rdB_rest (n : Int) (l : List Nat) (bad : Bool) (h : Bytes l) : Bytes (rdB n l bad).2.1 := by
  unfold rdB; split
  · exact h
  · exact h.drop _
theorem rdB_le (n : Int) (l : List Nat) (bad : Bool) : (rdB n l bad).2.1.length ≤ l.length := by
  unfold rdB; split
  · exact Nat.le_refl _
  · simp
theorem rdB_data (n : Int) (l : List Nat) (bad : Bool) : (rdB n l bad).1.length ≤ l.length := by
  unfold rdB; split
  · simp
  · simp; omega
theorem rdSet_lt {l : List Nat} (h : l ≠ []) : (rdSet l false).2.2 = true ∨ (rdSet l false).2.1.length < l.length := by
  have hpos : 0 < l.length := List.length_pos_iff.2 h
  by_cases h2 : l.length < 2
  · left
    have e : rdB 2 l false = ([], l, true) := by simp [rdB]; omega
    simp only [rdSet, e, rdB_bad]
  · right
    have e : rdB 2 l false = (l.take 2, l.drop 2, false) := by simp [rdB]; omega
    have h3 := rdB_le 2 (l.drop 2) false
    have h4 := rdB_le ((getN (rdB 2 (l.drop 2) false).1 : Int) - 4) (rdB 2 (l.drop 2) false).2.1 (rdB 2 (l.drop 2) false).2.2
    simp only [rdSet, e]
    rw [List.length_drop] at h3
    omega
theorem rdSet_le (l : List Nat) (bad : Bool) : (rdSet l bad).1.2.length ≤ l.length := by
  unfold rdSet
  have h1 := rdB_data ((getN (rdB 2 (rdB 2 l bad).2.1 (rdB 2 l bad).2.2).1 : Int) - 4) (rdB 2 (rdB 2 l bad).2.1 (rdB 2 l bad).2.2).2.1 (rdB 2 (rdB 2 l bad).2.1 (rdB 2 l bad).2.2).2.2
  have h2 := rdB_le 2 (rdB 2 l bad).2.1 (rdB 2 l bad).2.2
  have h3 := rdB_le 2 l bad
  dsimp only
  omega
theorem rdSet_by {l : List Nat} {bad : Bool} (h : Bytes l) : Bytes (rdSet l bad).1.2 := rdB_bytes _ _ _ (rdB_rest _ _ _ (rdB_rest _ _ _ h))
theorem rdSet_id {l : List Nat} {bad : Bool} (h : Bytes l) : (rdSet l bad).1.1 < 65536 := getN_two h (by omega)
/-- what a reader has left, as a measure -/
def rdM (g : Nat) (w : World) : Nat := match w.heap[g]? with
  | some (.cells cs _ _) => match (cs[0]? : Option Value), (cs[1]? : Option Value) with
    | some (Value.slice _ n _), some (Value.bool b) => if b then 0 else n + 1
    | _, _ => 0
  | _ => 0
theorem RdAt.m {T : TypeId} {g : Nat} {l : List Nat} {bad : Bool} {w : World} (h : RdAt T g l bad w) : rdM g w = if bad then 0 else l.length + 1 := by
  obtain ⟨⟨oa, n, c, h1, h2, h3⟩, h4, h5⟩ := h
  unfold rdM
  rw [h1, ← h2.sl.len]
  rfl
structure SetsOk (w : World) (hs : List (Int × SlV Nat)) : Prop where
  all : ∀ x ∈ hs, B5 w x.2.a x.2.n x.2.c x.2.l ∧ Bytes x.2.l ∧ x.2.n ≤ 100000 ∧ 0 ≤ x.1 ∧ x.1 ≤ 65535
theorem SetsOk.keep {w w' : World} {hs : List (Int × SlV Nat)} (h : SetsOk w hs) (hb : Keep5 w w') : SetsOk w' hs := ⟨fun x hx => ⟨(h.all x hx).1.keep hb, (h.all x hx).2⟩⟩
theorem SetsOk.snoc {w : World} {hs : List (Int × SlV Nat)} (h : SetsOk w hs) {x : Int × SlV Nat} (hx : B5 w x.2.a x.2.n x.2.c x.2.l ∧ Bytes x.2.l ∧ x.2.n ≤ 100000 ∧ 0 ≤ x.1 ∧ x.1 ≤ 65535) : SetsOk w (hs ++ [x]) := ⟨fun y hy => by
  rcases List.mem_append.1 hy with hy | hy
  · exact h.all y hy
  · obtain rfl : y = x := by simpa using hy
    exact hx⟩
theorem SetsOk.st {w : World} {hs : List (Int × SlV Nat)} (h : SetsOk w hs) : ∀ x ∈ hs, StOk w x := fun x hx => by
  obtain ⟨h1, h2, h3, h4⟩ := h.all x hx
  exact ⟨by omega, h1.sl, h1.nil, h1.le, h1.cap, h2⟩
/-- sets of one's own -/
theorem rs_own {w : World} {base : Nat} {v : Value} {l : List (Int × SlV Nat)} (h : RSt.Own w base v l) : ∃ oa c, v = .slice oa l.length c ∧ (SetsOk w l → StsOk w ⟨oa, l.length, c, l⟩) := by
  obtain ⟨oa, c, rfl, hlc, hcm, hsl, -⟩ := h.sl
  refine ⟨oa, c, rfl, fun hs => ⟨hsl, ?_, hlc, hcm, hs.st⟩⟩
  rintro rfl
  rcases h.cases with ⟨hv, _⟩ | ⟨g, cap, hv, _⟩
  · injection hv
  · cases hv
theorem own_keep5 {w w' : World} {base : Nat} {v : Value} {l : List (Int × SlV Nat)} (h : RSt.Own w base v l) (hs : w.heap.size ≤ w'.heap.size) (he : ∀ bad, v.ownBlock ≠ some bad → bad < w.heap.size → w'.heap[bad]? = w.heap[bad]?) : Keep5 w w' :=
  ⟨hs, fun b cs hb => he b (fun h1 => by
    rcases h.2 with ⟨h2, _⟩ | ⟨g, cap, cur, hv2, _, hh, _⟩
    · rw [h2] at h1; cases h1
    · rw [hv2] at h1
      injection h1 with h1
      dsimp only at h1
      subst h1
      rw [hb] at hh; injection hh with hh; injection hh with _ hh _; revert hh; decide) (lt_of_blk hb)⟩
theorem gs_bad (f : Nat) (l : List Nat) : gs f l true = ([], true) := by
  cases f with
  | zero => rfl
  | succ f => simp [gs]
theorem gs_step {l : List Nat} (h : l ≠ []) (f : Nat) : gs (f + 1) l false = ((rdSet l false).1 :: (gs f (rdSet l false).2.1 (rdSet l false).2.2).1, (gs f (rdSet l false).2.1 (rdSet l false).2.2).2) := by simp [gs, h]
theorem gs_nil (f : Nat) : gs f [] false = ([], false) := by
  cases f with
  | zero => rfl
  | succ f => simp [gs]
def leftN (l : List Nat) (bad : Bool) : Nat := if bad then 0 else l.length
theorem leftN_any {g : Nat} {l : List Nat} {bad : Bool} {w : World} (h : RdAt 137 g l bad w) : Calls Try.prog 52 #[.pointer (some ⟨g, 0, none⟩)] w fun e w' => e = .returned (.int .i64 (leftN l bad : Nat)) ∧ w' = w := left_any h
def Z4 : Array Value := #[.int .i64 0, .int .i64 0, .int .i64 0, .slice none 0 0]
structure GtS (b5 q4 : Nat) (cs : Array Value) (v : Value) (w : World) : Prop where
  pk : PkS b5 cs w
  bx : BxS q4 v 113 w
theorem GtS.cells {b5 q4 : Nat} {x0 x1 x2 x3 v : Value} {w : World} (h : GtS b5 q4 #[x0, x1, x2, x3] v w) : w.cell? ⟨b5, 0, none⟩ = some x0 ∧ w.cell? ⟨b5, 1, none⟩ = some x1 ∧ w.cell? ⟨b5, 2, none⟩ = some x2 ∧ w.cell? ⟨b5, 3, none⟩ = some x3 ∧ w.cell? ⟨q4, 0, none⟩ = some v := ⟨h.pk.cells.1, h.pk.cells.2.1, h.pk.cells.2.2.1, h.pk.cells.2.2.2, h.bx.cell⟩
set_option maxRecDepth 100000 in
set_option maxHeartbeats 1000000 in
theorem get_pk {w : World} {oa : Option Addr} {n c : Nat} {l : List Nat} (h : RB.Sl w oa n c l) (hnil : oa = none → c = 0) (hby : Bytes l) (hn : n ≤ 100000) : Calls Try.prog 33 #[.slice oa n c] w fun e w' => GotP (getP l) e w' (.int .i64 0) (.int .i64 310) ∧ Below w.heap.size w w' := by
  have hal := (Below.refl w.heap.size w).alloc (Nat.le_refl _) (.cells #[.int .i64 0, .int .i64 0, .int .i64 0, .slice none 0 0] 76)
  have h2 : PkS w.heap.size #[.int .i64 0, .int .i64 0, .int .i64 0, .slice none 0 0] (w.alloc (.cells #[.int .i64 0, .int .i64 0, .int .i64 0, .slice none 0 0] 76)) := hnew _ _
  have hlen := h.len.symm
  have HH := Lib.hid (And.intro (h.keep hal) (And.intro hnil (And.intro hby hlen)))
  have F0 := Lib.hid (And.intro hal h2)
  have hsz : w.heap.size < (w.alloc (.cells #[.int .i64 0, .int .i64 0, .int .i64 0, .slice none 0 0] 76)).heap.size := lt_of_blk h2
  clear h hnil hby hal h2 hlen
  obtain ⟨A, hA⟩ : ∃ A, A = rdB 2 l false := ⟨_, rfl⟩
  obtain ⟨B, hB⟩ : ∃ B, B = rdB 2 A.2.1 A.2.2 := ⟨_, rfl⟩
  obtain ⟨C, hC⟩ : ∃ C, C = rdB 4 B.2.1 B.2.2 := ⟨_, rfl⟩
  obtain ⟨D, hD⟩ : ∃ D, D = rdB 4 C.2.1 C.2.2 := ⟨_, rfl⟩
  obtain ⟨E, hE⟩ : ∃ E, E = rdB 4 D.2.1 D.2.2 := ⟨_, rfl⟩
  have hG : getP l = if getN A.1 ≠ 10 ∨ getN B.1 ≠ l.length then none else if (gs (E.2.1.length + 1) E.2.1 E.2.2).2 = true ∨ okP (PP.pk ⟨getN C.1, getN D.1, getN E.1, (gs (E.2.1.length + 1) E.2.1 E.2.2).1⟩) = false then none else some ⟨getN C.1, getN D.1, getN E.1, (gs (E.2.1.length + 1) E.2.1 E.2.2).1⟩ := by subst hE; subst hD; subst hC; subst hB; subst hA; rfl
  generalize getP l = GP at *
  have HE := Lib.hid (And.intro hA (And.intro hB (And.intro hC (And.intro hD hE))))
  have HG := Lib.hid hG
  clear hA hB hC hD hE hG
  go_enter Try.func33, Try.ntmps33
  go_wp2_with fail
  refine (from_any HH.out.1 HH.out.2.1 HH.out.2.2.1 hn).mono ?_
  rintro e W1 ⟨⟨g, rfl, hg, hr1⟩, hb1⟩
  have hp1 := F0.out.2.on hb1
  have hb0 := bcall F0.out.1 (Nat.le_refl _) hb1
  have hgw : w.heap.size < g := by omega
  have hal := (Below.refl W1.heap.size W1).alloc (Nat.le_refl _) (.cells #[.pointer (some ⟨g, 0, none⟩)] 113)
  have h4 : BxS W1.heap.size (.pointer (some ⟨g, 0, none⟩)) 113 (W1.alloc (.cells #[.pointer (some ⟨g, 0, none⟩)] 113)) := hnew _ _
  have hgl := hr1.lt
  have h41 : w.heap.size < W1.heap.size := lt_of_blk hp1
  have F1 := Lib.hid (And.intro (hr1.on hal) (And.intro (hp1.on hal) (And.intro h4 (bcall hb0 (Nat.le_refl _) hal))))
  have e4 := h4.cell
  clear hr1 hp1 hb0 hb1 hal h4 F0 hsz hg
  go_wp2_with fail
  have hn1 : w.heap.size ∉ [g] := by simp; omega
  have hn2 : W1.heap.size ∉ [g] := by simp; omega
  have HN := Lib.hid (And.intro hn1 hn2)
  have HN2 := Lib.hid (show ∀ b ∈ [g], w.heap.size ≤ b by intro b hb; simp at hb; omega)
  have HQ := Lib.hid (And.intro hgw (And.intro hgl h41))
  clear hn1 hn2 hgw hgl h41
  generalize W1.alloc (.cells #[.pointer (some ⟨g, 0, none⟩)] 113) = W2 at *
  generalize W1.heap.size = q4 at *
  have c1 := two_rd F1.out.1
  rw [← HE.out.1] at c1
  have HC1 := Lib.hid c1
  clear c1
  refine (HC1.out).mono ?_
  rintro e W1x ⟨rfl, hr1, hb1⟩
  have F2 := Lib.hid (And.intro hr1 (And.intro (F1.out.2.1.but hb1 HN.out.1) (And.intro (F1.out.2.2.1.but hb1 HN.out.2) ((Below.step F1.out.2.2.2 F1.out.2.2.2.size hb1 HN2.out)))))
  clear F1
  clear hr1 hb1 HC1
  clear e4
  have e4 := F2.out.2.2.1.cell
  by_cases hA10 : getN A.1 = 10
  · have HA10 := Lib.hid hA10
    have hAA : (getN A.1 : Int) = 10 := by rw [hA10]; rfl
    clear hA10
    have c4 := two_rd F2.out.1
    rw [← HE.out.2.1] at c4
    have HC4 := Lib.hid c4
    clear c4
    go_wp2_with fail
    refine (HC4.out).mono ?_
    rintro e W4x ⟨rfl, hr4, hb4⟩
    have F5 := Lib.hid (And.intro hr4 (And.intro (F2.out.2.1.but hb4 HN.out.1) (And.intro (F2.out.2.2.1.but hb4 HN.out.2) ((Below.step F2.out.2.2.2 F2.out.2.2.2.size hb4 HN2.out)))))
    clear F2
    clear hr4 hb4 HC4
    clear e4 hAA
    by_cases hBn : getN B.1 = n
    · have hG2 := HG.out.trans (if_neg (by rw [HH.out.2.2.2]; rintro (h | h); exact h HA10.out; exact h hBn))
      have HG2 := Lib.hid hG2
      clear hG2
      have hBi : (getN B.1 : Int) = n := by omega
      clear hBn
      go_wp2_with fail
      have hd := (Below.refl W4x.heap.size W4x).drew
      refine wp_region_heldP (BxS q4 (.pointer (some ⟨g, 0, none⟩)) 113) (by kernel_rfl) ?_
      have F7 := Lib.hid (And.intro (F5.out.1.on hd) (And.intro (F5.out.2.1.on hd) (And.intro (F5.out.2.2.1.but (But.of_below hd [g]) HN.out.2) ((bcall F5.out.2.2.2 (Nat.le_refl _) hd)))))
      clear F5
      clear hd hBi
      generalize W4x.drew = Wd at *
      rename_i K hK
      have hK2 : ∀ (u20 u21 u22 u23 u24 u25 u26 : Value) (b5 : Nat) (W : World), RdAt 137 g E.2.1 E.2.2 W → PkS w.heap.size #[.int .i64 0, .int .i64 0, .int .i64 0, .slice none 0 0] W → BxS q4 (.pointer (some ⟨g, 0, none⟩)) 113 W → PkS b5 #[.int .i64 (getN C.1 : Nat), .int .i64 (getN D.1 : Nat), .int .i64 (getN E.1 : Nat), .slice none 0 0] W → Below w.heap.size w W → (b5 ≠ w.heap.size ∧ b5 ≠ q4 ∧ b5 ≠ g) → w.heap.size ≤ b5 → K ⟨#[.slice oa n c, undef, .pointer (some ⟨w.heap.size, 0, none⟩), .int .i64 0, .pointer (some ⟨q4, 0, none⟩), .pointer (some ⟨b5, 0, none⟩), .slice oa n c, .pointer (some ⟨g, 0, none⟩), .agg #[.pointer (some ⟨g, 0, none⟩)], .agg #[.pointer (some ⟨g, 0, none⟩)], .int .i64 10, .bool false, .bool false, .agg #[.pointer (some ⟨g, 0, none⟩)], .int .i64 n, .slice oa n c, .int .i64 n, .bool false, .bool false, undef, u20, u21, u22, u23, u24, u25, u26, undef, undef, undef, undef, undef, undef, undef, undef, undef, undef, undef, undef, undef, undef, undef, undef, undef, undef, undef, undef, undef], []⟩ W := by
        intro u20 u21 u22 u23 u24 u25 u26 b5 W zR zP zX z5 zB zE zL
        refine hK _ _ ?_
        clear hK F7
        obtain ⟨GG, hGG⟩ : ∃ GG, GG = gs (E.2.1.length + 1) E.2.1 E.2.2 := ⟨_, rfl⟩
        have HGG := Lib.hid hGG
        have HE5 := Lib.hid (And.intro zE zL)
        have FI := Lib.hid (show RdAt 137 g E.2.1 E.2.2 W ∧ PkS w.heap.size #[.int .i64 0, .int .i64 0, .int .i64 0, .slice none 0 0] W ∧ BxS q4 (.pointer (some ⟨g, 0, none⟩)) 113 W ∧ PkS b5 #[.int .i64 (getN C.1 : Nat), .int .i64 (getN D.1 : Nat), .int .i64 (getN E.1 : Nat), .slice none 0 0] W ∧ Below w.heap.size w W ∧ RSt.Own W w.heap.size (.slice none 0 0) ([] : List (Int × SlV Nat)) ∧ ((Value.slice none 0 0).ownBlock ≠ some g ∧ (Value.slice none 0 0).ownBlock ≠ some q4 ∧ (Value.slice none 0 0).ownBlock ≠ some b5 ∧ (Value.slice none 0 0).ownBlock ≠ some w.heap.size) ∧ SetsOk W ([] : List (Int × SlV Nat)) ∧ (GG.1.map (fun x => pj (toS x)) = ([] : List (Int × SlV Nat)).map pj ++ (gs (E.2.1.length + 1) E.2.1 E.2.2).1.map (fun x => pj (toS x)) ∧ GG.2 = (gs (E.2.1.length + 1) E.2.1 E.2.2).2) ∧ (E.2.2 = true ∨ E.2.1.length < E.2.1.length + 1) ∧ ([] : List (Int × SlV Nat)).length + leftN E.2.1 E.2.2 ≤ 100000 from
          ⟨zR, zP, zX, z5, zB, Rep.Own.nil _ _, ⟨(by intro h; cases h), (by intro h; cases h), (by intro h; cases h), (by intro h; cases h)⟩, ⟨fun x hx => by cases hx⟩, ⟨by rw [hGG]; rfl, by rw [hGG]⟩, .inr (Nat.lt_succ_self _), by have := zR.le; unfold leftN; split <;> simp; omega⟩)
        have e4 := zX.cell
        clear zR zP zX z5 zB zE zL hGG
        go_wp2_with fail
        clear e4
        go_loopw [27] (fun _ wr => ∃ (f : Nat) (lq : List Nat) (bad : Bool) (hs : List (Int × SlV Nat)) (v : Value), RdAt 137 g lq bad wr ∧ PkS w.heap.size #[.int .i64 0, .int .i64 0, .int .i64 0, .slice none 0 0] wr ∧ BxS q4 (.pointer (some ⟨g, 0, none⟩)) 113 wr ∧ PkS b5 #[.int .i64 (getN C.1 : Nat), .int .i64 (getN D.1 : Nat), .int .i64 (getN E.1 : Nat), v] wr ∧ Below w.heap.size w wr ∧ RSt.Own wr w.heap.size v hs ∧ (v.ownBlock ≠ some g ∧ v.ownBlock ≠ some q4 ∧ v.ownBlock ≠ some b5 ∧ v.ownBlock ≠ some w.heap.size) ∧ SetsOk wr hs ∧ (GG.1.map (fun x => pj (toS x)) = hs.map pj ++ (gs f lq bad).1.map (fun x => pj (toS x)) ∧ GG.2 = (gs f lq bad).2) ∧ (bad = true ∨ lq.length < f) ∧ hs.length + leftN lq bad ≤ 100000) (fun _ wr => rdM g wr)
        case atStart => exact ⟨_, _, _, _, _, FI.out⟩
        case round =>
          obtain ⟨f, lq, bad, hs, v, hrel⟩ := hrel
          obtain ⟨w2, rfl⟩ : ∃ w2 : World, w2 = wr := ⟨_, rfl⟩
          have FL := Lib.hid hrel
          have e4 := hrel.2.2.1.cell
          clear hrel FI
          cases bad with
          | true =>
            have h0 : leftN lq true = 0 := rfl
            go_wp2_with fail
            refine (leftN_any FL.out.1).mono ?_
            rintro e w3 ⟨rfl, hw⟩
            subst w3
            go_wp2_with fail
            refine (bad_any FL.out.1).mono ?_
            rintro e w3 ⟨rfl, hw⟩
            subst w3
            have hbad : (gs (E.2.1.length + 1) E.2.1 E.2.2).2 = true := by rw [← HGG.out, FL.out.2.2.2.2.2.2.2.2.1.2, gs_bad]
            go_wp2_with (with_reducible refine halt_store 76 rfl ?_)
            refine Halted.go ?_
            refine store_whole rfl 76 _ _ rfl w.heap.size #[.int .i64 0, .int .i64 0, .int .i64 0, .slice none 0 0] rfl rfl FL.out.2.1 rfl (by kernel_rfl) (by simp [Value.oneCell']) ?_
            intro Wz hwz hsz
            have HZ := Lib.hid (And.intro hwz (Below.trans FL.out.2.2.2.2.1 (hsz.below (Nat.le_refl _))))
            clear hwz hsz
            go_wp2_with fail
            refine ret_cell2 rfl rfl rfl HZ.out.1 Try.underlying76 rfl (by kernel_rfl) ?_
            exact ⟨⟨⟨0, 0, 0, ⟨none, 0, 0, []⟩⟩, sts_nil _, .inl ⟨(HG2.out.trans (if_pos (.inl hbad))), rfl, rfl⟩⟩, HZ.out.2⟩
          | false =>
            by_cases hnil : lq = []
            · subst hnil
              have h0 : leftN [] false = 0 := rfl
              go_wp2_with fail
              refine (leftN_any FL.out.1).mono ?_
              rintro e w3 ⟨rfl, hw⟩
              subst w3
              go_wp2_with fail
              refine (bad_any FL.out.1).mono ?_
              rintro e w3 ⟨rfl, hw⟩
              subst w3
              obtain ⟨oa7, c7, rfl, hst7⟩ := rs_own FL.out.2.2.2.2.2.1
              have hst := hst7 FL.out.2.2.2.2.2.2.2.1
              obtain ⟨p, hp⟩ : ∃ p : Pk, p = ⟨(getN C.1 : Nat), (getN D.1 : Nat), (getN E.1 : Nat), ⟨oa7, hs.length, c7, hs⟩⟩ := ⟨_, rfl⟩
              have hpv : p.v = .agg #[.int .i64 (getN C.1 : Nat), .int .i64 (getN D.1 : Nat), .int .i64 (getN E.1 : Nat), .slice oa7 hs.length c7] := by rw [hp]; rfl
              have hps : p.ss = ⟨oa7, hs.length, c7, hs⟩ := by rw [hp]
              have hpi : p.is ⟨getN C.1, getN D.1, getN E.1, GG.1⟩ := by
                rw [hp]
                refine ⟨rfl, rfl, rfl, ?_⟩
                have := FL.out.2.2.2.2.2.2.2.2.1.1
                rw [gs_nil, List.map_nil, List.append_nil] at this
                exact this.symm
              have hgb : (gs (E.2.1.length + 1) E.2.1 E.2.2).2 = false := by rw [← HGG.out, FL.out.2.2.2.2.2.2.2.2.1.2, gs_nil]
              have hck := check_any p w2 (by rw [hps]; exact hst) (by rw [hps]; intro x hx; have := (FL.out.2.2.2.2.2.2.2.1.all x hx).2.2.1; omega)
              rw [hpv] at hck
              have HI := Lib.hid (And.intro hpv (And.intro hps (And.intro hpi (And.intro hgb hpi.eqs.1))))
              clear hp hpv hps hpi hgb hst hst7
              obtain ⟨z0, z1, z2, z3⟩ := FL.out.2.2.2.1.cells
              cases hok : okP p with
              | false =>
                rw [hok] at hck
                simp only [Bool.false_eq_true, if_false] at hck
                have hnone := HG2.out.trans (if_pos (.inr (by rw [← HGG.out, ← HI.out.2.2.2.2]; exact hok)))
                have HC := Lib.hid (And.intro hck hnone)
                clear hck hok hnone
                go_wp2_with fail
                refine (HC.out.1).mono ?_
                rintro e w3 ⟨rfl, hb3⟩
                have F8 := Lib.hid (And.intro (FL.out.2.1.on hb3) (bcall FL.out.2.2.2.2.1 (Nat.le_refl _) hb3))
                clear hb3 z0 z1 z2 z3
                go_wp2_with (with_reducible refine halt_store 76 rfl ?_)
                refine Halted.go ?_
                refine store_whole rfl 76 _ _ rfl w.heap.size #[.int .i64 0, .int .i64 0, .int .i64 0, .slice none 0 0] rfl rfl F8.out.1 rfl (by kernel_rfl) (by simp [Value.oneCell']) ?_
                intro Wz hwz hsz
                have HZ := Lib.hid (And.intro hwz (Below.trans F8.out.2 (hsz.below (Nat.le_refl _))))
                clear hwz hsz
                go_wp2_with fail
                refine ret_cell2 rfl rfl rfl HZ.out.1 Try.underlying76 rfl (by kernel_rfl) ?_
                exact ⟨⟨⟨0, 0, 0, ⟨none, 0, 0, []⟩⟩, sts_nil _, .inl ⟨HC.out.2, rfl, rfl⟩⟩, HZ.out.2⟩
              | true =>
                rw [hok] at hck
                simp only [if_true] at hck
                have hsome := HG2.out.trans (if_neg (by rw [← HGG.out, ← HI.out.2.2.2.2, hok, HGG.out, HI.out.2.2.2.1]; simp))
                have HC := Lib.hid (And.intro hck hsome)
                clear hck hok hsome
                go_wp2_with fail
                refine (HC.out.1).mono ?_
                rintro e w3 ⟨rfl, hb3⟩
                have F8 := Lib.hid (And.intro (FL.out.2.1.on hb3) (And.intro (bcall FL.out.2.2.2.2.1 (Nat.le_refl _) hb3) (And.intro (FL.out.2.2.2.1.on hb3) (And.intro (FL.out.2.2.2.2.2.1.below hb3) (FL.out.2.2.2.2.2.2.2.1.keep (.of_below hb3))))))
                clear hb3 z0 z1 z2 z3
                obtain ⟨z0, z1, z2, z3⟩ := F8.out.2.2.1.cells
                go_wp2_with (with_reducible refine halt_store 76 rfl ?_)
                refine Halted.go ?_
                refine store_whole rfl 76 _ _ rfl w.heap.size #[.int .i64 (getN C.1 : Nat), .int .i64 (getN D.1 : Nat), .int .i64 (getN E.1 : Nat), .slice oa7 hs.length c7] rfl rfl F8.out.1 rfl (by kernel_rfl) (by simp [Value.oneCell']) ?_
                intro Wz hwz hsz
                have hown := F8.out.2.2.2.1.keep (w' := Wz) (fun b hb => hsz.other (fun e => FL.out.2.2.2.2.2.2.1.2.2.2 (e ▸ hb)))
                have hsets := F8.out.2.2.2.2.keep (.of_set hsz F8.out.1 (by decide))
                have HZ := Lib.hid (And.intro hwz (And.intro (F8.out.2.1.trans (hsz.below (Nat.le_refl _))) (And.intro hown hsets)))
                clear hwz hsz hown hsets z0 z1 z2 z3
                go_wp2_with fail
                refine ret_cell2 rfl rfl rfl HZ.out.1 Try.underlying76 rfl (by kernel_rfl) ?_
                refine ⟨⟨p, ?_, .inr ⟨⟨getN C.1, getN D.1, getN E.1, GG.1⟩, ?_, HI.out.2.2.1, by rw [HI.out.1]; rfl⟩⟩, HZ.out.2.1⟩
                · rw [HI.out.2.1]
                  obtain ⟨oa8, c8, hv8, hst8⟩ := rs_own HZ.out.2.2.1
                  simp only [Value.slice.injEq] at hv8
                  obtain ⟨rfl, -, rfl⟩ := hv8
                  exact hst8 HZ.out.2.2.2
                · rw [HC.out.2, HGG.out]
            · have h0 : leftN lq false = lq.length := rfl
              have hposN := List.length_pos_iff.2 hnil
              have hpos : (0 < lq.length) = True := by simp [hposN]
              clear hposN
              obtain ⟨S1, hS1⟩ : ∃ S1, S1 = rdSet lq false := ⟨_, rfl⟩
              have HS1 := Lib.hid (And.intro hS1 hnil)
              have HM := Lib.hid (show rdM g w2 = lq.length + 1 from FL.out.1.m)
              clear hnil hS1
              go_wp2_with fail
              refine (leftN_any FL.out.1).mono ?_
              rintro e w3 ⟨rfl, hw⟩
              subst w3
              go_wp2_with fail
              clear e4
              have hd := (Below.refl w2.heap.size w2).drew
              refine wp_region_T 7 (GtS b5 q4 #[.int .i64 (getN C.1 : Nat), .int .i64 (getN D.1 : Nat), .int .i64 (getN E.1 : Nat), v] (.pointer (some ⟨g, 0, none⟩))) (by kernel_rfl) ?_
              have F10 := Lib.hid (And.intro (FL.out.1.on hd) (And.intro (FL.out.2.1.on hd) (And.intro (FL.out.2.2.1.but (But.of_below hd [g]) HN.out.2) (And.intro (FL.out.2.2.2.1.on hd) (And.intro (bcall FL.out.2.2.2.2.1 (Nat.le_refl _) hd) (And.intro (FL.out.2.2.2.2.2.1.below hd) (And.intro FL.out.2.2.2.2.2.2.1 (And.intro (FL.out.2.2.2.2.2.2.2.1.keep (.of_below hd)) (And.intro FL.out.2.2.2.2.2.2.2.2.1 (And.intro FL.out.2.2.2.2.2.2.2.2.2.1 (FL.out.2.2.2.2.2.2.2.2.2.2)))))))))))
              clear FL
              clear hd
              generalize w2.drew = Wd at *
              refine T_reads [0, 1, 2] (g := 5) rfl (by kernel_rfl) ⟨F10.out.2.2.2.1, F10.out.2.2.1⟩ (fun _ _ d _ _ h => by cases d <;> exact h) ?_
              simp only [pick, List.getD_cons_zero, List.getD_cons_succ]
              iterate 3 ((with_reducible refine wpRead_step (fun K hK => ?_)); go_simp; first | ((with_reducible refine hK _ ?_); clear hK K) | (apply Exists.intro; (with_reducible refine ⟨fun w' hw' => ?_, hK _ ?_⟩); (obtain ⟨f0, f1, f2, f3, f4⟩ := hw'.cells; go_simp; first | exact rfl | exact ⟨rfl, rfl⟩); clear hK K))
              with_reducible refine wpRead_nil ?_
              refine T_one 3 (by kernel_rfl) ?_
              simp only [pick, List.getD_cons_zero, List.getD_cons_succ]
              have c3 := set_rd F10.out.1
              rw [← HS1.out.1] at c3
              have HC := Lib.hid c3
              clear c3
              go_wp2_with fail
              refine (HC.out).mono ?_
              rintro e w3 ⟨⟨oa3, n3, c3, rfl, hs3, ho3⟩, hr3, hb3⟩
              have hk3 := F10.out.1.k5 hb3
              have hx3 : Bytes S1.1.2 ∧ n3 ≤ 100000 ∧ (0 : Int) ≤ (S1.1.1 : Nat) ∧ ((S1.1.1 : Nat) : Int) ≤ 65535 ∧ n3 = S1.1.2.length := by
                have h1 := rdSet_le lq false
                have h2 := F10.out.1.le
                have h3 := rdSet_id (bad := false) F10.out.1.bytes
                have h4 := rdSet_by (bad := false) F10.out.1.bytes
                rw [← HS1.out.1] at h1 h3 h4
                have h5 := hs3.sl.len
                exact ⟨h4, by omega, by omega, by omega, h5⟩
              have F11 := Lib.hid (And.intro hr3 (And.intro (F10.out.2.1.but hb3 HN.out.1) (And.intro (F10.out.2.2.1.but hb3 HN.out.2) (And.intro (F10.out.2.2.2.1.but hb3 (by simp; exact HE5.out.1.2.2)) (And.intro (Below.step F10.out.2.2.2.2.1 F10.out.2.2.2.2.1.size hb3 HN2.out) (And.intro (F10.out.2.2.2.2.2.1.keep (fun b hb => hb3.block b (World.ownsRow.lt F10.out.2.2.2.2.2.1 b hb).2 (by intro hm; simp at hm; exact F10.out.2.2.2.2.2.2.1.1 (hm ▸ hb)))) (And.intro F10.out.2.2.2.2.2.2.1 (And.intro (F10.out.2.2.2.2.2.2.2.1.keep hk3) (And.intro F10.out.2.2.2.2.2.2.2.2.1 (And.intro F10.out.2.2.2.2.2.2.2.2.2.1 (And.intro F10.out.2.2.2.2.2.2.2.2.2.2 (And.intro hs3 (hx3)))))))))))))
              clear F10
              clear hr3 hb3 hk3 hx3 hs3 ho3 HC
              go_wp2_with fail
              refine ⟨fun _ => ⟨F11.out.2.2.2.1, F11.out.2.2.1⟩, ?_⟩
              refine T_one 4 (by kernel_rfl) ?_
              simp only [pick, List.getD_cons_zero, List.getD_cons_succ]
              have hb4 := (Below.refl w3.heap.size w3).alloc (Nat.le_refl _) (.cells #[.int .i64 (S1.1.1 : Nat), .slice oa3 n3 c3] 83)
              have ho4 : RSt.Own (w3.alloc (.cells #[.int .i64 (S1.1.1 : Nat), .slice oa3 n3 c3] 83)) w.heap.size (.slice (some ⟨w3.heap.size, 0, none⟩) 1 1) [(((S1.1.1 : Nat) : Int), (⟨oa3, n3, c3, S1.1.2⟩ : SlV Nat))] := ⟨rfl, .inr ⟨w3.heap.size, 1, #[.int .i64 (S1.1.1 : Nat), .slice oa3 n3 c3], rfl, F11.out.2.2.2.2.1.size, hnew _ _, Nat.le_refl _, by unfold maxLen; omega, rfl, rfl⟩⟩
              have F12 := Lib.hid (And.intro (F11.out.1.on hb4) (And.intro (F11.out.2.1.on hb4) (And.intro (F11.out.2.2.1.but (But.of_below hb4 [g]) HN.out.2) (And.intro (F11.out.2.2.2.1.on hb4) (And.intro (bcall F11.out.2.2.2.2.1 (Nat.le_refl _) hb4) (And.intro (F11.out.2.2.2.2.2.1.below hb4) (And.intro F11.out.2.2.2.2.2.2.1 (And.intro (F11.out.2.2.2.2.2.2.2.1.keep (.of_below hb4)) (And.intro F11.out.2.2.2.2.2.2.2.2.1 (And.intro F11.out.2.2.2.2.2.2.2.2.2.1 (And.intro F11.out.2.2.2.2.2.2.2.2.2.2.1 (And.intro (F11.out.2.2.2.2.2.2.2.2.2.2.2.1.below hb4) (And.intro F11.out.2.2.2.2.2.2.2.2.2.2.2.2 (ho4))))))))))))))
              clear F11
              clear hb4 ho4
              go_wp2_with fail
              refine ⟨fun _ => ⟨F12.out.2.2.2.1, F12.out.2.2.1⟩, ?_⟩
              generalize hq4 : w3.heap.size = q9 at *
              clear hq4
              generalize w3.alloc (.cells #[.int .i64 (S1.1.1 : Nat), .slice oa3 n3 c3] 83) = w4 at *
              refine T_one 5 (by kernel_rfl) ?_
              simp only [pick, List.getD_cons_zero, List.getD_cons_succ]
              obtain ⟨oa9, c9, hv9, -, -, hs9, -⟩ := F12.out.2.2.2.2.2.2.2.2.2.2.2.2.2.sl
              simp only [Value.slice.injEq] at hv9
              obtain ⟨rfl, -, rfl⟩ := hv9
              have hlen9 : hs.length ≤ 100000 := by have := F12.out.2.2.2.2.2.2.2.2.2.2.1; omega
              have HS9 := Lib.hid (And.intro hs9 hlen9)
              clear hs9 hlen9
              go_wp2_with (at_builtin; refine halt ?_)
              refine Halted.go ?_
              refine Rep.append_list2 T22 rfl _ _ rfl (base := w.heap.size) rfl F12.out.2.2.2.2.2.1 rfl HS9.out.1 (by simp) (by have := HS9.out.2; unfold maxLen; simp; omega) (by have := HS9.out.2; simp; omega) F12.out.2.2.2.2.1.size ?_
              intro v5 w5 ho5 hb5 he5
              have hk5 := own_keep5 F12.out.2.2.2.2.2.1 hb5.size (fun bad h1 h2 => (he5 bad h1 h2).2)
              have hg5 := he5 g F12.out.2.2.2.2.2.2.1.1 F12.out.1.lt
              have hq5 := he5 q4 F12.out.2.2.2.2.2.2.1.2.1 (lt_of_blk F12.out.2.2.1)
              have hp5 := he5 b5 F12.out.2.2.2.2.2.2.1.2.2.1 (lt_of_blk F12.out.2.2.2.1)
              have hw5 := he5 w.heap.size F12.out.2.2.2.2.2.2.1.2.2.2 (lt_of_blk F12.out.2.1)
              have F13 := Lib.hid (And.intro (F12.out.1.keep hk5 hg5.2) (And.intro (PkS.same hw5.2 F12.out.2.1) (And.intro (show BxS q4 (.pointer (some ⟨g, 0, none⟩)) 113 w5 from hq5.2.trans F12.out.2.2.1) (And.intro (PkS.same hp5.2 F12.out.2.2.2.1) (And.intro (F12.out.2.2.2.2.1.trans hb5) (And.intro ho5 (And.intro (And.intro hg5.1 (And.intro hq5.1 (And.intro hp5.1 hw5.1))) (And.intro ((F12.out.2.2.2.2.2.2.2.1.keep hk5).snoc (x := (((S1.1.1 : Nat) : Int), (⟨oa3, n3, c3, S1.1.2⟩ : SlV Nat))) (And.intro (F12.out.2.2.2.2.2.2.2.2.2.2.2.1.keep hk5) (And.intro F12.out.2.2.2.2.2.2.2.2.2.2.2.2.1.1 (And.intro F12.out.2.2.2.2.2.2.2.2.2.2.2.2.1.2.1 (And.intro F12.out.2.2.2.2.2.2.2.2.2.2.2.2.1.2.2.1 F12.out.2.2.2.2.2.2.2.2.2.2.2.2.1.2.2.2.1))))) (And.intro F12.out.2.2.2.2.2.2.2.2.1 (And.intro F12.out.2.2.2.2.2.2.2.2.2.1 (And.intro F12.out.2.2.2.2.2.2.2.2.2.2.1 (F12.out.2.2.2.2.2.2.2.2.2.2.2.2.1))))))))))))
              clear F12
              clear ho5 hb5 he5 hk5 hg5 hq5 hp5 hw5 HS9
              go_wp2_with fail
              refine ⟨fun _ => ⟨F13.out.2.2.2.1, F13.out.2.2.1⟩, ?_⟩
              refine T_one 6 (by kernel_rfl) ?_
              simp only [pick, List.getD_cons_zero, List.getD_cons_succ]
              go_wp2_with fail
              refine ⟨fun _ => ⟨F13.out.2.2.2.1, F13.out.2.2.1⟩, ?_⟩
              refine T_one 7 (by kernel_rfl) ?_
              simp only [pick, List.getD_cons_zero, List.getD_cons_succ]
              obtain ⟨oa5, n5, c5, rfl⟩ : ∃ oa n c, v5 = .slice oa n c := by
                obtain ⟨oa, c, h, -⟩ := rs_own F13.out.2.2.2.2.2.1
                exact ⟨_, _, _, h⟩
              have f3 : w5.frozen? ⟨b5, 3, none⟩ = false := free_of F13.out.2.2.2.1
              obtain ⟨z0, z1, z2, z3⟩ := F13.out.2.2.2.1.cells
              have hset : SetB w5 (w5.setCell ⟨b5, 3, none⟩ (.slice oa5 n5 c5)) b5 (.cells #[.int .i64 (getN C.1 : Nat), .int .i64 (getN D.1 : Nat), .int .i64 (getN E.1 : Nat), .slice oa5 n5 c5] 76) := (SetB.self F13.out.2.2.2.1).store (lt_of_blk F13.out.2.2.2.1) (.slice oa5 n5 c5)
              have h5z : PkS b5 #[.int .i64 (getN C.1 : Nat), .int .i64 (getN D.1 : Nat), .int .i64 (getN E.1 : Nat), .slice oa5 n5 c5] (w5.setCell ⟨b5, 3, none⟩ (.slice oa5 n5 c5)) := setCell_blk F13.out.2.2.2.1 3 (.slice oa5 n5 c5)
              have hk6 : Keep5 w5 (w5.setCell ⟨b5, 3, none⟩ (.slice oa5 n5 c5)) := .of_set hset F13.out.2.2.2.1 (by decide)
              have F14 := Lib.hid (And.intro (F13.out.1.keep hk6 (hset.other (Ne.symm HE5.out.1.2.2))) (And.intro (PkS.same (hset.other (Ne.symm HE5.out.1.1)) F13.out.2.1) (And.intro (show BxS q4 (.pointer (some ⟨g, 0, none⟩)) 113 (w5.setCell ⟨b5, 3, none⟩ (.slice oa5 n5 c5)) from (hset.other (Ne.symm HE5.out.1.2.1)).trans F13.out.2.2.1) (And.intro h5z (And.intro (F13.out.2.2.2.2.1.trans (hset.below HE5.out.2)) (And.intro (F13.out.2.2.2.2.2.1.keep (fun b hb => hset.other (fun e => F13.out.2.2.2.2.2.2.1.2.2.1 (e ▸ hb)))) (And.intro F13.out.2.2.2.2.2.2.1 (And.intro (F13.out.2.2.2.2.2.2.2.1.keep hk6) (And.intro F13.out.2.2.2.2.2.2.2.2.1 (And.intro F13.out.2.2.2.2.2.2.2.2.2.1 (And.intro F13.out.2.2.2.2.2.2.2.2.2.2.1 (F13.out.2.2.2.2.2.2.2.2.2.2.2))))))))))))
              clear F13
              clear hset h5z hk6
              go_wp2_with fail
              refine ⟨fun h => absurd rfl h, ?_⟩
              refine T_done (by kernel_rfl) ?_ _
              go_wp2_with fail
              have hm6 := F14.out.1.m
              obtain ⟨f1, rfl⟩ : ∃ f1, f = f1 + 1 := ⟨f - 1, by have := F14.out.2.2.2.2.2.2.2.2.2.1; rcases this with h | h; cases h; omega⟩
              have hG := F14.out.2.2.2.2.2.2.2.2.1
              have hst := gs_step HS1.out.2 f1
              rw [← HS1.out.1] at hst
              rw [hst] at hG
              have hlt := rdSet_lt HS1.out.2
              rw [← HS1.out.1] at hlt
              have hpos2 := List.length_pos_iff.2 HS1.out.2
              have hf : S1.2.2 = true ∨ S1.2.1.length < f1 := by
                rcases hlt with h | h
                · exact .inl h
                · have := F14.out.2.2.2.2.2.2.2.2.2.1
                  rcases this with h1 | h1
                  · cases h1
                  · exact .inr (by omega)
              have hc : (hs ++ [(((S1.1.1 : Nat) : Int), (⟨oa3, n3, c3, S1.1.2⟩ : SlV Nat))]).length + leftN S1.2.1 S1.2.2 ≤ 100000 := by
                have h1 : hs.length + lq.length ≤ 100000 := F14.out.2.2.2.2.2.2.2.2.2.2.1
                rw [List.length_append]
                unfold leftN
                rcases hlt with h | h
                · rw [h]; simp; omega
                · split <;> simp <;> omega
              have hGl : GG.1.map (fun x => pj (toS x)) = (hs ++ [(((S1.1.1 : Nat) : Int), (⟨oa3, n3, c3, S1.1.2⟩ : SlV Nat))]).map pj ++ (gs f1 S1.2.1 S1.2.2).1.map (fun x => pj (toS x)) ∧ GG.2 = (gs f1 S1.2.1 S1.2.2).2 := by
                refine ⟨?_, hG.2⟩
                rw [hG.1]
                have hx := F14.out.2.2.2.2.2.2.2.2.2.2.2.2.2.2.2
                simp [pj, toS, hx]
              have hmm : rdM g (w5.setCell ⟨b5, 3, none⟩ (.slice oa5 n5 c5)) < rdM g w2 := by
                rw [HM.out, hm6]
                rcases hlt with h | h
                · rw [h]; simp
                · split <;> omega
              refine ⟨⟨f1, S1.2.1, S1.2.2, hs ++ [(((S1.1.1 : Nat) : Int), (⟨oa3, n3, c3, S1.1.2⟩ : SlV Nat))], .slice oa5 n5 c5, F14.out.1, F14.out.2.1, F14.out.2.2.1, F14.out.2.2.2.1, F14.out.2.2.2.2.1, F14.out.2.2.2.2.2.1, F14.out.2.2.2.2.2.2.1, F14.out.2.2.2.2.2.2.2.1, hGl, hf, hc⟩, hmm⟩
      clear hK
      refine held_reads [0, 2, 4] (g := 6) rfl (by kernel_rfl) F7.out.2.2.1 (fun _ _ d _ _ h => by cases d <;> exact h) ?_
      simp only [pick, List.getD_cons_zero, List.getD_cons_succ]
      iterate 3 ((with_reducible refine wpRead_step (fun K hK => ?_)); go_simp; first | ((with_reducible refine hK _ ?_); clear hK K) | (apply Exists.intro; (with_reducible refine ⟨fun w' hw' => ?_, hK _ ?_⟩); (have f0 := hw'.cell; go_simp; first | exact rfl | exact ⟨rfl, rfl⟩); clear hK K))
      with_reducible refine wpRead_nil ?_
      refine held_two 1 7 (by kernel_rfl) ?_ ?_
      · simp only [pick, List.getD_cons_zero, List.getD_cons_succ]
        have c15 := four_rd F7.out.1
        rw [← HE.out.2.2.1] at c15
        have HC15 := Lib.hid c15
        clear c15
        go_wp2_with fail
        refine (HC15.out).mono ?_
        rintro e W15x ⟨rfl, hr15, hb15⟩
        have F16 := Lib.hid (And.intro hr15 (And.intro (F7.out.2.1.but hb15 HN.out.1) (And.intro (F7.out.2.2.1.but hb15 HN.out.2) ((Below.step F7.out.2.2.2 F7.out.2.2.2.size hb15 HN2.out)))))
        clear F7
        clear hr15 hb15 HC15
        go_wp2_with fail
        refine ⟨F16.out.2.2.1, ?_⟩
        refine held_two 3 7 (by kernel_rfl) ?_ ?_
        · simp only [pick, List.getD_cons_zero, List.getD_cons_succ]
          have c17 := four_rd F16.out.1
          rw [← HE.out.2.2.2.1] at c17
          have HC17 := Lib.hid c17
          clear c17
          go_wp2_with fail
          refine (HC17.out).mono ?_
          rintro e W17x ⟨rfl, hr17, hb17⟩
          have F18 := Lib.hid (And.intro hr17 (And.intro (F16.out.2.1.but hb17 HN.out.1) (And.intro (F16.out.2.2.1.but hb17 HN.out.2) ((Below.step F16.out.2.2.2 F16.out.2.2.2.size hb17 HN2.out)))))
          clear F16
          clear hr17 hb17 HC17
          go_wp2_with fail
          refine ⟨F18.out.2.2.1, ?_⟩
          refine held_two 5 7 (by kernel_rfl) ?_ ?_
          · simp only [pick, List.getD_cons_zero, List.getD_cons_succ]
            have c19 := four_rd F18.out.1
            rw [← HE.out.2.2.2.2] at c19
            have HC19 := Lib.hid c19
            clear c19
            go_wp2_with fail
            refine (HC19.out).mono ?_
            rintro e W19x ⟨rfl, hr19, hb19⟩
            have F20 := Lib.hid (And.intro hr19 (And.intro (F18.out.2.1.but hb19 HN.out.1) (And.intro (F18.out.2.2.1.but hb19 HN.out.2) ((Below.step F18.out.2.2.2 F18.out.2.2.2.size hb19 HN2.out)))))
            clear F18
            clear hr19 hb19 HC19
            go_wp2_with fail
            refine ⟨F20.out.2.2.1, ?_⟩
            refine held_two 6 7 (by kernel_rfl) ?_ ?_
            · simp only [pick, List.getD_cons_zero, List.getD_cons_succ]
              go_wp2_with fail
              refine ⟨F20.out.2.2.1, ?_⟩
              refine held_one 7 (by kernel_rfl) ?_
              simp only [pick, List.getD_cons_zero, List.getD_cons_succ]
              have hb21 := (Below.refl W19x.heap.size W19x).alloc (Nat.le_refl _) (.cells #[.int .i64 0, .int .i64 0, .int .i64 0, .slice none 0 0] 76)
              have hp21 : PkS W19x.heap.size #[.int .i64 0, .int .i64 0, .int .i64 0, .slice none 0 0] (W19x.alloc (.cells #[.int .i64 0, .int .i64 0, .int .i64 0, .slice none 0 0] 76)) := hnew _ _
              have he21 : W19x.heap.size ≠ w.heap.size ∧ W19x.heap.size ≠ q4 ∧ W19x.heap.size ≠ g := by have h1 := lt_of_blk F20.out.2.1; have h2 := lt_of_blk F20.out.2.2.1; have h3 := F20.out.1.lt; omega
              have hl21 : w.heap.size ≤ W19x.heap.size := F20.out.2.2.2.size
              have HN5 := Lib.hid (show W19x.heap.size ∉ [g] by simp; exact he21.2.2)
              have F22 := Lib.hid (And.intro (F20.out.1.on hb21) (And.intro (F20.out.2.1.on hb21) (And.intro (F20.out.2.2.1.but (But.of_below hb21 [g]) HN.out.2) (And.intro (bcall F20.out.2.2.2 (Nat.le_refl _) hb21) (And.intro hp21 (And.intro he21 (hl21)))))))
              clear F20
              clear hb21 hp21 he21 hl21
              go_wp2_with fail
              refine ⟨F22.out.2.2.1, ?_⟩
              generalize W19x.alloc (.cells #[.int .i64 0, .int .i64 0, .int .i64 0, .slice none 0 0] 76) = W21x at *
              generalize W19x.heap.size = b5 at *
              refine held_one 8 (by kernel_rfl) ?_
              simp only [pick, List.getD_cons_zero, List.getD_cons_succ]
              refine store_whole rfl 76 _ _ rfl b5 #[.int .i64 (getN C.1 : Nat), .int .i64 (getN D.1 : Nat), .int .i64 (getN E.1 : Nat), .slice none 0 0] rfl rfl F22.out.2.2.2.2.1 rfl (by kernel_rfl) (by simp [Value.oneCell']) ?_
              intro Wz hwz hsz
              have hE := F22.out.2.2.2.2.2.1
              have hR := F22.out.1.keep (.of_set hsz F22.out.2.2.2.2.1 (by decide)) (hsz.other (Ne.symm hE.2.2))
              have hP2 : PkS w.heap.size #[.int .i64 0, .int .i64 0, .int .i64 0, .slice none 0 0] Wz := (hsz.other (Ne.symm hE.1)).trans F22.out.2.1
              have hX4 : BxS q4 (.pointer (some ⟨g, 0, none⟩)) 113 Wz := (hsz.other (Ne.symm hE.2.1)).trans F22.out.2.2.1
              have HL5 := Lib.hid (F22.out.2.2.2.2.2.2)
              have hBz := F22.out.2.2.2.1.trans (hsz.below F22.out.2.2.2.2.2.2)
              have FZ := Lib.hid (And.intro hR (And.intro hP2 (And.intro hX4 (And.intro hBz (And.intro (show PkS b5 #[.int .i64 (getN C.1 : Nat), .int .i64 (getN D.1 : Nat), .int .i64 (getN E.1 : Nat), .slice none 0 0] Wz from hwz) hE)))))
              clear hR hP2 hX4 hBz hwz hsz hE F22
              go_wp2_with fail
              refine ⟨FZ.out.2.2.1, ?_⟩
              refine wpAnyH_done (by kernel_rfl) ?_ _
              exact hK2 _ _ _ _ _ _ _ _ _ FZ.out.1 FZ.out.2.1 FZ.out.2.2.1 FZ.out.2.2.2.2.1 FZ.out.2.2.2.1 FZ.out.2.2.2.2.2 HL5.out
            · simp only [pick, List.getD_cons_zero, List.getD_cons_succ]
              have hb24 := (Below.refl W19x.heap.size W19x).alloc (Nat.le_refl _) (.cells #[.int .i64 0, .int .i64 0, .int .i64 0, .slice none 0 0] 76)
              have hp24 : PkS W19x.heap.size #[.int .i64 0, .int .i64 0, .int .i64 0, .slice none 0 0] (W19x.alloc (.cells #[.int .i64 0, .int .i64 0, .int .i64 0, .slice none 0 0] 76)) := hnew _ _
              have he24 : W19x.heap.size ≠ w.heap.size ∧ W19x.heap.size ≠ q4 ∧ W19x.heap.size ≠ g := by have h1 := lt_of_blk F20.out.2.1; have h2 := lt_of_blk F20.out.2.2.1; have h3 := F20.out.1.lt; omega
              have hl24 : w.heap.size ≤ W19x.heap.size := F20.out.2.2.2.size
              have HN5 := Lib.hid (show W19x.heap.size ∉ [g] by simp; exact he24.2.2)
              have F25 := Lib.hid (And.intro (F20.out.1.on hb24) (And.intro (F20.out.2.1.on hb24) (And.intro (F20.out.2.2.1.but (But.of_below hb24 [g]) HN.out.2) (And.intro (bcall F20.out.2.2.2 (Nat.le_refl _) hb24) (And.intro hp24 (And.intro he24 (hl24)))))))
              clear F20
              clear hb24 hp24 he24 hl24
              go_wp2_with fail
              refine ⟨F25.out.2.2.1, ?_⟩
              generalize W19x.alloc (.cells #[.int .i64 0, .int .i64 0, .int .i64 0, .slice none 0 0] 76) = W24x at *
              generalize W19x.heap.size = b5 at *
              refine held_one 6 (by kernel_rfl) ?_
              simp only [pick, List.getD_cons_zero, List.getD_cons_succ]
              go_wp2_with fail
              refine ⟨F25.out.2.2.1, ?_⟩
              refine held_one 8 (by kernel_rfl) ?_
              simp only [pick, List.getD_cons_zero, List.getD_cons_succ]
              refine store_whole rfl 76 _ _ rfl b5 #[.int .i64 (getN C.1 : Nat), .int .i64 (getN D.1 : Nat), .int .i64 (getN E.1 : Nat), .slice none 0 0] rfl rfl F25.out.2.2.2.2.1 rfl (by kernel_rfl) (by simp [Value.oneCell']) ?_
              intro Wz hwz hsz
              have hE := F25.out.2.2.2.2.2.1
              have hR := F25.out.1.keep (.of_set hsz F25.out.2.2.2.2.1 (by decide)) (hsz.other (Ne.symm hE.2.2))
              have hP2 : PkS w.heap.size #[.int .i64 0, .int .i64 0, .int .i64 0, .slice none 0 0] Wz := (hsz.other (Ne.symm hE.1)).trans F25.out.2.1
              have hX4 : BxS q4 (.pointer (some ⟨g, 0, none⟩)) 113 Wz := (hsz.other (Ne.symm hE.2.1)).trans F25.out.2.2.1
              have HL5 := Lib.hid (F25.out.2.2.2.2.2.2)
              have hBz := F25.out.2.2.2.1.trans (hsz.below F25.out.2.2.2.2.2.2)
              have FZ := Lib.hid (And.intro hR (And.intro hP2 (And.intro hX4 (And.intro hBz (And.intro (show PkS b5 #[.int .i64 (getN C.1 : Nat), .int .i64 (getN D.1 : Nat), .int .i64 (getN E.1 : Nat), .slice none 0 0] Wz from hwz) hE)))))
              clear hR hP2 hX4 hBz hwz hsz hE F25
              go_wp2_with fail
              refine ⟨FZ.out.2.2.1, ?_⟩
              refine wpAnyH_done (by kernel_rfl) ?_ _
              exact hK2 _ _ _ _ _ _ _ _ _ FZ.out.1 FZ.out.2.1 FZ.out.2.2.1 FZ.out.2.2.2.2.1 FZ.out.2.2.2.1 FZ.out.2.2.2.2.2 HL5.out
          · simp only [pick, List.getD_cons_zero, List.getD_cons_succ]
            have hb27 := (Below.refl W17x.heap.size W17x).alloc (Nat.le_refl _) (.cells #[.int .i64 0, .int .i64 0, .int .i64 0, .slice none 0 0] 76)
            have hp27 : PkS W17x.heap.size #[.int .i64 0, .int .i64 0, .int .i64 0, .slice none 0 0] (W17x.alloc (.cells #[.int .i64 0, .int .i64 0, .int .i64 0, .slice none 0 0] 76)) := hnew _ _
            have he27 : W17x.heap.size ≠ w.heap.size ∧ W17x.heap.size ≠ q4 ∧ W17x.heap.size ≠ g := by have h1 := lt_of_blk F18.out.2.1; have h2 := lt_of_blk F18.out.2.2.1; have h3 := F18.out.1.lt; omega
            have hl27 : w.heap.size ≤ W17x.heap.size := F18.out.2.2.2.size
            have HN5 := Lib.hid (show W17x.heap.size ∉ [g] by simp; exact he27.2.2)
            have F28 := Lib.hid (And.intro (F18.out.1.on hb27) (And.intro (F18.out.2.1.on hb27) (And.intro (F18.out.2.2.1.but (But.of_below hb27 [g]) HN.out.2) (And.intro (bcall F18.out.2.2.2 (Nat.le_refl _) hb27) (And.intro hp27 (And.intro he27 (hl27)))))))
            clear F18
            clear hb27 hp27 he27 hl27
            go_wp2_with fail
            refine ⟨F28.out.2.2.1, ?_⟩
            generalize W17x.alloc (.cells #[.int .i64 0, .int .i64 0, .int .i64 0, .slice none 0 0] 76) = W27x at *
            generalize W17x.heap.size = b5 at *
            refine held_one 5 (by kernel_rfl) ?_
            simp only [pick, List.getD_cons_zero, List.getD_cons_succ]
            have c29 := four_rd F28.out.1
            rw [← HE.out.2.2.2.2] at c29
            have HC29 := Lib.hid c29
            clear c29
            go_wp2_with fail
            refine (HC29.out).mono ?_
            rintro e W29x ⟨rfl, hr29, hb29⟩
            have F30 := Lib.hid (And.intro hr29 (And.intro (F28.out.2.1.but hb29 HN.out.1) (And.intro (F28.out.2.2.1.but hb29 HN.out.2) (And.intro (Below.step F28.out.2.2.2.1 F28.out.2.2.2.1.size hb29 HN2.out) (And.intro (PkS.but F28.out.2.2.2.2.1 hb29 HN5.out) (And.intro F28.out.2.2.2.2.2.1 (F28.out.2.2.2.2.2.2)))))))
            clear F28
            clear hr29 hb29 HC29
            go_wp2_with fail
            refine ⟨F30.out.2.2.1, ?_⟩
            refine held_one 6 (by kernel_rfl) ?_
            simp only [pick, List.getD_cons_zero, List.getD_cons_succ]
            go_wp2_with fail
            refine ⟨F30.out.2.2.1, ?_⟩
            refine held_one 8 (by kernel_rfl) ?_
            simp only [pick, List.getD_cons_zero, List.getD_cons_succ]
            refine store_whole rfl 76 _ _ rfl b5 #[.int .i64 (getN C.1 : Nat), .int .i64 (getN D.1 : Nat), .int .i64 (getN E.1 : Nat), .slice none 0 0] rfl rfl F30.out.2.2.2.2.1 rfl (by kernel_rfl) (by simp [Value.oneCell']) ?_
            intro Wz hwz hsz
            have hE := F30.out.2.2.2.2.2.1
            have hR := F30.out.1.keep (.of_set hsz F30.out.2.2.2.2.1 (by decide)) (hsz.other (Ne.symm hE.2.2))
            have hP2 : PkS w.heap.size #[.int .i64 0, .int .i64 0, .int .i64 0, .slice none 0 0] Wz := (hsz.other (Ne.symm hE.1)).trans F30.out.2.1
            have hX4 : BxS q4 (.pointer (some ⟨g, 0, none⟩)) 113 Wz := (hsz.other (Ne.symm hE.2.1)).trans F30.out.2.2.1
            have HL5 := Lib.hid (F30.out.2.2.2.2.2.2)
            have hBz := F30.out.2.2.2.1.trans (hsz.below F30.out.2.2.2.2.2.2)
            have FZ := Lib.hid (And.intro hR (And.intro hP2 (And.intro hX4 (And.intro hBz (And.intro (show PkS b5 #[.int .i64 (getN C.1 : Nat), .int .i64 (getN D.1 : Nat), .int .i64 (getN E.1 : Nat), .slice none 0 0] Wz from hwz) hE)))))
            clear hR hP2 hX4 hBz hwz hsz hE F30
            go_wp2_with fail
            refine ⟨FZ.out.2.2.1, ?_⟩
            refine wpAnyH_done (by kernel_rfl) ?_ _
            exact hK2 _ _ _ _ _ _ _ _ _ FZ.out.1 FZ.out.2.1 FZ.out.2.2.1 FZ.out.2.2.2.2.1 FZ.out.2.2.2.1 FZ.out.2.2.2.2.2 HL5.out
        · simp only [pick, List.getD_cons_zero, List.getD_cons_succ]
          have hb32 := (Below.refl W15x.heap.size W15x).alloc (Nat.le_refl _) (.cells #[.int .i64 0, .int .i64 0, .int .i64 0, .slice none 0 0] 76)
          have hp32 : PkS W15x.heap.size #[.int .i64 0, .int .i64 0, .int .i64 0, .slice none 0 0] (W15x.alloc (.cells #[.int .i64 0, .int .i64 0, .int .i64 0, .slice none 0 0] 76)) := hnew _ _
          have he32 : W15x.heap.size ≠ w.heap.size ∧ W15x.heap.size ≠ q4 ∧ W15x.heap.size ≠ g := by have h1 := lt_of_blk F16.out.2.1; have h2 := lt_of_blk F16.out.2.2.1; have h3 := F16.out.1.lt; omega
          have hl32 : w.heap.size ≤ W15x.heap.size := F16.out.2.2.2.size
          have HN5 := Lib.hid (show W15x.heap.size ∉ [g] by simp; exact he32.2.2)
          have F33 := Lib.hid (And.intro (F16.out.1.on hb32) (And.intro (F16.out.2.1.on hb32) (And.intro (F16.out.2.2.1.but (But.of_below hb32 [g]) HN.out.2) (And.intro (bcall F16.out.2.2.2 (Nat.le_refl _) hb32) (And.intro hp32 (And.intro he32 (hl32)))))))
          clear F16
          clear hb32 hp32 he32 hl32
          go_wp2_with fail
          refine ⟨F33.out.2.2.1, ?_⟩
          generalize W15x.alloc (.cells #[.int .i64 0, .int .i64 0, .int .i64 0, .slice none 0 0] 76) = W32x at *
          generalize W15x.heap.size = b5 at *
          refine held_one 3 (by kernel_rfl) ?_
          simp only [pick, List.getD_cons_zero, List.getD_cons_succ]
          have c34 := four_rd F33.out.1
          rw [← HE.out.2.2.2.1] at c34
          have HC34 := Lib.hid c34
          clear c34
          go_wp2_with fail
          refine (HC34.out).mono ?_
          rintro e W34x ⟨rfl, hr34, hb34⟩
          have F35 := Lib.hid (And.intro hr34 (And.intro (F33.out.2.1.but hb34 HN.out.1) (And.intro (F33.out.2.2.1.but hb34 HN.out.2) (And.intro (Below.step F33.out.2.2.2.1 F33.out.2.2.2.1.size hb34 HN2.out) (And.intro (PkS.but F33.out.2.2.2.2.1 hb34 HN5.out) (And.intro F33.out.2.2.2.2.2.1 (F33.out.2.2.2.2.2.2)))))))
          clear F33
          clear hr34 hb34 HC34
          go_wp2_with fail
          refine ⟨F35.out.2.2.1, ?_⟩
          refine held_one 5 (by kernel_rfl) ?_
          simp only [pick, List.getD_cons_zero, List.getD_cons_succ]
          have c36 := four_rd F35.out.1
          rw [← HE.out.2.2.2.2] at c36
          have HC36 := Lib.hid c36
          clear c36
          go_wp2_with fail
          refine (HC36.out).mono ?_
          rintro e W36x ⟨rfl, hr36, hb36⟩
          have F37 := Lib.hid (And.intro hr36 (And.intro (F35.out.2.1.but hb36 HN.out.1) (And.intro (F35.out.2.2.1.but hb36 HN.out.2) (And.intro (Below.step F35.out.2.2.2.1 F35.out.2.2.2.1.size hb36 HN2.out) (And.intro (PkS.but F35.out.2.2.2.2.1 hb36 HN5.out) (And.intro F35.out.2.2.2.2.2.1 (F35.out.2.2.2.2.2.2)))))))
          clear F35
          clear hr36 hb36 HC36
          go_wp2_with fail
          refine ⟨F37.out.2.2.1, ?_⟩
          refine held_one 6 (by kernel_rfl) ?_
          simp only [pick, List.getD_cons_zero, List.getD_cons_succ]
          go_wp2_with fail
          refine ⟨F37.out.2.2.1, ?_⟩
          refine held_one 8 (by kernel_rfl) ?_
          simp only [pick, List.getD_cons_zero, List.getD_cons_succ]
          refine store_whole rfl 76 _ _ rfl b5 #[.int .i64 (getN C.1 : Nat), .int .i64 (getN D.1 : Nat), .int .i64 (getN E.1 : Nat), .slice none 0 0] rfl rfl F37.out.2.2.2.2.1 rfl (by kernel_rfl) (by simp [Value.oneCell']) ?_
          intro Wz hwz hsz
          have hE := F37.out.2.2.2.2.2.1
          have hR := F37.out.1.keep (.of_set hsz F37.out.2.2.2.2.1 (by decide)) (hsz.other (Ne.symm hE.2.2))
          have hP2 : PkS w.heap.size #[.int .i64 0, .int .i64 0, .int .i64 0, .slice none 0 0] Wz := (hsz.other (Ne.symm hE.1)).trans F37.out.2.1
          have hX4 : BxS q4 (.pointer (some ⟨g, 0, none⟩)) 113 Wz := (hsz.other (Ne.symm hE.2.1)).trans F37.out.2.2.1
          have HL5 := Lib.hid (F37.out.2.2.2.2.2.2)
          have hBz := F37.out.2.2.2.1.trans (hsz.below F37.out.2.2.2.2.2.2)
          have FZ := Lib.hid (And.intro hR (And.intro hP2 (And.intro hX4 (And.intro hBz (And.intro (show PkS b5 #[.int .i64 (getN C.1 : Nat), .int .i64 (getN D.1 : Nat), .int .i64 (getN E.1 : Nat), .slice none 0 0] Wz from hwz) hE)))))
          clear hR hP2 hX4 hBz hwz hsz hE F37
          go_wp2_with fail
          refine ⟨FZ.out.2.2.1, ?_⟩
          refine wpAnyH_done (by kernel_rfl) ?_ _
          exact hK2 _ _ _ _ _ _ _ _ _ FZ.out.1 FZ.out.2.1 FZ.out.2.2.1 FZ.out.2.2.2.2.1 FZ.out.2.2.2.1 FZ.out.2.2.2.2.2 HL5.out
      · simp only [pick, List.getD_cons_zero, List.getD_cons_succ]
        have hb39 := (Below.refl Wd.heap.size Wd).alloc (Nat.le_refl _) (.cells #[.int .i64 0, .int .i64 0, .int .i64 0, .slice none 0 0] 76)
        have hp39 : PkS Wd.heap.size #[.int .i64 0, .int .i64 0, .int .i64 0, .slice none 0 0] (Wd.alloc (.cells #[.int .i64 0, .int .i64 0, .int .i64 0, .slice none 0 0] 76)) := hnew _ _
        have he39 : Wd.heap.size ≠ w.heap.size ∧ Wd.heap.size ≠ q4 ∧ Wd.heap.size ≠ g := by have h1 := lt_of_blk F7.out.2.1; have h2 := lt_of_blk F7.out.2.2.1; have h3 := F7.out.1.lt; omega
        have hl39 : w.heap.size ≤ Wd.heap.size := F7.out.2.2.2.size
        have HN5 := Lib.hid (show Wd.heap.size ∉ [g] by simp; exact he39.2.2)
        have F40 := Lib.hid (And.intro (F7.out.1.on hb39) (And.intro (F7.out.2.1.on hb39) (And.intro (F7.out.2.2.1.but (But.of_below hb39 [g]) HN.out.2) (And.intro (bcall F7.out.2.2.2 (Nat.le_refl _) hb39) (And.intro hp39 (And.intro he39 (hl39)))))))
        clear F7
        clear hb39 hp39 he39 hl39
        go_wp2_with fail
        refine ⟨F40.out.2.2.1, ?_⟩
        generalize Wd.alloc (.cells #[.int .i64 0, .int .i64 0, .int .i64 0, .slice none 0 0] 76) = W39x at *
        generalize Wd.heap.size = b5 at *
        refine held_one 1 (by kernel_rfl) ?_
        simp only [pick, List.getD_cons_zero, List.getD_cons_succ]
        have c41 := four_rd F40.out.1
        rw [← HE.out.2.2.1] at c41
        have HC41 := Lib.hid c41
        clear c41
        go_wp2_with fail
        refine (HC41.out).mono ?_
        rintro e W41x ⟨rfl, hr41, hb41⟩
        have F42 := Lib.hid (And.intro hr41 (And.intro (F40.out.2.1.but hb41 HN.out.1) (And.intro (F40.out.2.2.1.but hb41 HN.out.2) (And.intro (Below.step F40.out.2.2.2.1 F40.out.2.2.2.1.size hb41 HN2.out) (And.intro (PkS.but F40.out.2.2.2.2.1 hb41 HN5.out) (And.intro F40.out.2.2.2.2.2.1 (F40.out.2.2.2.2.2.2)))))))
        clear F40
        clear hr41 hb41 HC41
        go_wp2_with fail
        refine ⟨F42.out.2.2.1, ?_⟩
        refine held_one 3 (by kernel_rfl) ?_
        simp only [pick, List.getD_cons_zero, List.getD_cons_succ]
        have c43 := four_rd F42.out.1
        rw [← HE.out.2.2.2.1] at c43
        have HC43 := Lib.hid c43
        clear c43
        go_wp2_with fail
        refine (HC43.out).mono ?_
        rintro e W43x ⟨rfl, hr43, hb43⟩
        have F44 := Lib.hid (And.intro hr43 (And.intro (F42.out.2.1.but hb43 HN.out.1) (And.intro (F42.out.2.2.1.but hb43 HN.out.2) (And.intro (Below.step F42.out.2.2.2.1 F42.out.2.2.2.1.size hb43 HN2.out) (And.intro (PkS.but F42.out.2.2.2.2.1 hb43 HN5.out) (And.intro F42.out.2.2.2.2.2.1 (F42.out.2.2.2.2.2.2)))))))
        clear F42
        clear hr43 hb43 HC43
        go_wp2_with fail
        refine ⟨F44.out.2.2.1, ?_⟩
        refine held_one 5 (by kernel_rfl) ?_
        simp only [pick, List.getD_cons_zero, List.getD_cons_succ]
        have c45 := four_rd F44.out.1
        rw [← HE.out.2.2.2.2] at c45
        have HC45 := Lib.hid c45
        clear c45
        go_wp2_with fail
        refine (HC45.out).mono ?_
        rintro e W45x ⟨rfl, hr45, hb45⟩
        have F46 := Lib.hid (And.intro hr45 (And.intro (F44.out.2.1.but hb45 HN.out.1) (And.intro (F44.out.2.2.1.but hb45 HN.out.2) (And.intro (Below.step F44.out.2.2.2.1 F44.out.2.2.2.1.size hb45 HN2.out) (And.intro (PkS.but F44.out.2.2.2.2.1 hb45 HN5.out) (And.intro F44.out.2.2.2.2.2.1 (F44.out.2.2.2.2.2.2)))))))
        clear F44
        clear hr45 hb45 HC45
        go_wp2_with fail
        refine ⟨F46.out.2.2.1, ?_⟩
        refine held_one 6 (by kernel_rfl) ?_
        simp only [pick, List.getD_cons_zero, List.getD_cons_succ]
        go_wp2_with fail
        refine ⟨F46.out.2.2.1, ?_⟩
        refine held_one 8 (by kernel_rfl) ?_
        simp only [pick, List.getD_cons_zero, List.getD_cons_succ]
        refine store_whole rfl 76 _ _ rfl b5 #[.int .i64 (getN C.1 : Nat), .int .i64 (getN D.1 : Nat), .int .i64 (getN E.1 : Nat), .slice none 0 0] rfl rfl F46.out.2.2.2.2.1 rfl (by kernel_rfl) (by simp [Value.oneCell']) ?_
        intro Wz hwz hsz
        have hE := F46.out.2.2.2.2.2.1
        have hR := F46.out.1.keep (.of_set hsz F46.out.2.2.2.2.1 (by decide)) (hsz.other (Ne.symm hE.2.2))
        have hP2 : PkS w.heap.size #[.int .i64 0, .int .i64 0, .int .i64 0, .slice none 0 0] Wz := (hsz.other (Ne.symm hE.1)).trans F46.out.2.1
        have hX4 : BxS q4 (.pointer (some ⟨g, 0, none⟩)) 113 Wz := (hsz.other (Ne.symm hE.2.1)).trans F46.out.2.2.1
        have HL5 := Lib.hid (F46.out.2.2.2.2.2.2)
        have hBz := F46.out.2.2.2.1.trans (hsz.below F46.out.2.2.2.2.2.2)
        have FZ := Lib.hid (And.intro hR (And.intro hP2 (And.intro hX4 (And.intro hBz (And.intro (show PkS b5 #[.int .i64 (getN C.1 : Nat), .int .i64 (getN D.1 : Nat), .int .i64 (getN E.1 : Nat), .slice none 0 0] Wz from hwz) hE)))))
        clear hR hP2 hX4 hBz hwz hsz hE F46
        go_wp2_with fail
        refine ⟨FZ.out.2.2.1, ?_⟩
        refine wpAnyH_done (by kernel_rfl) ?_ _
        exact hK2 _ _ _ _ _ _ _ _ _ FZ.out.1 FZ.out.2.1 FZ.out.2.2.1 FZ.out.2.2.2.2.1 FZ.out.2.2.2.1 FZ.out.2.2.2.2.2 HL5.out
    · have hBi : (getN B.1 : Int) ≠ n := by omega
      go_wp2_with (with_reducible refine halt_store 76 rfl ?_)
      refine Halted.go ?_
      refine store_whole rfl 76 _ _ rfl w.heap.size #[.int .i64 0, .int .i64 0, .int .i64 0, .slice none 0 0] rfl rfl F5.out.2.1 rfl (by kernel_rfl) (by simp [Value.oneCell']) ?_
      intro Wz hwz hsz
      have HZ := Lib.hid (And.intro hwz (Below.trans F5.out.2.2.2 (hsz.below (Nat.le_refl _))))
      clear hwz hsz
      go_wp2_with fail
      refine ret_cell2 rfl rfl rfl HZ.out.1 Try.underlying76 rfl (by kernel_rfl) ?_
      exact ⟨⟨⟨0, 0, 0, ⟨none, 0, 0, []⟩⟩, sts_nil _, .inl ⟨(HG.out.trans (if_pos (.inr (by rw [HH.out.2.2.2]; exact hBn)))), rfl, rfl⟩⟩, HZ.out.2⟩
  · go_wp2_with (with_reducible refine halt_store 76 rfl ?_)
    refine Halted.go ?_
    refine store_whole rfl 76 _ _ rfl w.heap.size #[.int .i64 0, .int .i64 0, .int .i64 0, .slice none 0 0] rfl rfl F2.out.2.1 rfl (by kernel_rfl) (by simp [Value.oneCell']) ?_
    intro Wz hwz hsz
    have HZ := Lib.hid (And.intro hwz (Below.trans F2.out.2.2.2 (hsz.below (Nat.le_refl _))))
    clear hwz hsz
    go_wp2_with fail
    refine ret_cell2 rfl rfl rfl HZ.out.1 Try.underlying76 rfl (by kernel_rfl) ?_
    exact ⟨⟨⟨0, 0, 0, ⟨none, 0, 0, []⟩⟩, sts_nil _, .inl ⟨(HG.out.trans (if_pos (.inl hA10))), rfl, rfl⟩⟩, HZ.out.2⟩
end Go.Proofs.Ytcbpdjenncbbeaa.Ip
/- The reference's Get. -/
namespace Go.Proofs.Ytcbpdjenncbbeaa.Ip
open Go.RowKit

theorem RdAt.cells {T : TypeId} {g : Nat} {l : List Nat} {bad : Bool} {w : World} (h : RdAt T g l bad w) : w.cell? ⟨g, 1, none⟩ = some (.bool bad) := by
  obtain ⟨⟨oa, n, c, h1, h2, h3⟩, h4, h5⟩ := h
  exact cell_of h1 rfl
end Go.Proofs.Ytcbpdjenncbbeaa.Ip
/- Bytes as a string; Same. -/
namespace Go.Proofs.Ytcbpdjenncbbeaa.Ip
open Go.RowKit

def strOf (l : List Nat) : ByteArray := ⟨(l.map UInt8.ofNat).toArray⟩
theorem conv_bs {w : World} {oa : Option Addr} {n c : Nat} {l : List Nat} (h : RB.Sl w oa n c l) (hb : Bytes l) : (convert 50 9 (.slice oa n c)).run Try.prog w = .ok (.string (strOf l)) w := by
  have hl := h.len
  rcases Nat.eq_zero_or_pos n with h0 | h0
  · subst h0
    obtain rfl : l = [] := List.length_eq_zero_iff.1 hl.symm
    rw [run_convert_bytes_string w 50 9 5 oa 0 c Try.underlying50 Try.underlying5 Try.underlying9]
    cases oa with
    | none => rfl
    | some a => exact run_bytesToString w a 0 c [] (run_loadCells_list (P := Try.prog) w a [] (fun j v hj => by simp at hj))
  · obtain ⟨b, o, rfl, hr⟩ := h.row h0
    have := run_convert_bytes_back (P := Try.prog) w 50 9 5 ⟨b, o, none⟩ c (l.map UInt8.ofNat) Try.underlying50 Try.underlying5 Try.underlying9 (fun j hj => by
      rw [List.length_map] at hj
      have h1 := hr.get j hj 0 (by decide)
      have hlt : l.getD j default < 256 := hb _ (getD_mem hj)
      simp only [RB, Nat.mul_one, Nat.add_zero, List.getElem?_cons_zero] at h1
      have hadd : (⟨b, o, none⟩ : Addr).add j = ⟨b, o + j, none⟩ := by unfold Addr.add; split <;> simp_all
      rw [hadd, h1]
      have h2 : l.getD j default = l[j] := by rw [List.getD_eq_getElem?_getD, List.getElem?_eq_getElem hj]; rfl
      rw [h2] at hlt
      rw [h2, List.getElem_map, UInt8.toNat_ofNat', Nat.mod_eq_of_lt hlt])
    rw [List.length_map, ← hl] at this
    exact this
end Go.Proofs.Ytcbpdjenncbbeaa.Ip
/- The reference's Size. -/
namespace Go.Proofs.Ytcbpdjenncbbeaa.Ip
open Go.RowKit

end Go.Proofs.Ytcbpdjenncbbeaa.Ip
/- Pieces of bytes: the reference's Records, SamePieces. -/
namespace Go.Proofs.Ytcbpdjenncbbeaa.Ip
open Go.RowKit

theorem T42 : Rep.Ty Try.prog 121 RH 24 := Rep.Ty.mk' Try.underlying121 (z := .slice none 0 0) (by kernel_rfl) rfl
/-- the whole pieces -/
def pc (n : Nat) (l : List Nat) (i : Nat) : List Nat := (l.drop (i * n)).take n
def pcs (n : Nat) (l : List Nat) (k : Nat) : List (List Nat) := (List.range k).map (pc n l)
theorem pcs_succ (n : Nat) (l : List Nat) (k : Nat) : pcs n l (k + 1) = pcs n l k ++ [pc n l k] := by simp [pcs, List.range_succ]
/-- slices of bytes, out of blocks of bytes -/
structure PSS (w : World) (vs : List (Option Addr × Nat × Nat)) (ls : List (List Nat)) : Prop where
  len : vs.length = ls.length
  all : ∀ j, j < ls.length → B5 w (vs.getD j default).1 (vs.getD j default).2.1 (vs.getD j default).2.2 (ls.getD j default) ∧ Bytes (ls.getD j default)
theorem PSS.keep {w w' : World} {vs : List (Option Addr × Nat × Nat)} {ls : List (List Nat)} (h : PSS w vs ls) (hb : Keep5 w w') : PSS w' vs ls := ⟨h.len, fun j hj => ⟨(h.all j hj).1.keep hb, (h.all j hj).2⟩⟩
theorem PSS.nil (w : World) : PSS w [] [] := ⟨rfl, fun j hj => by cases hj⟩
theorem getD_snoc_lt {α : Type} [Inhabited α] (l : List α) (x : α) (j : Nat) (h : j < l.length) : (l ++ [x]).getD j default = l.getD j default := by simp [List.getD_eq_getElem?_getD, List.getElem?_append_left h]
theorem getD_snoc_eq {α : Type} [Inhabited α] (l : List α) (x : α) : (l ++ [x]).getD l.length default = x := by simp [List.getD_eq_getElem?_getD]
theorem PSS.snoc {w : World} {vs : List (Option Addr × Nat × Nat)} {ls : List (List Nat)} (h : PSS w vs ls) {oa : Option Addr} {n c : Nat} {l : List Nat} (hb : B5 w oa n c l) (hy : Bytes l) : PSS w (vs ++ [(oa, n, c)]) (ls ++ [l]) := by
  refine ⟨by simp [h.len], fun j hj => ?_⟩
  rw [List.length_append, List.length_singleton] at hj
  by_cases hlt : j < ls.length
  · rw [getD_snoc_lt _ _ _ (by rw [h.len]; exact hlt), getD_snoc_lt _ _ _ hlt]
    exact h.all j hlt
  · obtain rfl : j = ls.length := by omega
    rw [getD_snoc_eq]
    have := getD_snoc_eq vs (oa, n, c)
    rw [h.len] at this
    rw [this]
    exact ⟨hb, hy⟩
theorem rh_keep5 {w w' : World} {base : Nat} {v : Value} {l : List (Option Addr × Nat × Nat)} (h : RH.Own w base v l) (hs : w.heap.size ≤ w'.heap.size) (he : ∀ bad, v.ownBlock ≠ some bad → bad < w.heap.size → w'.heap[bad]? = w.heap[bad]?) : Keep5 w w' :=
  ⟨hs, fun b cs hb => he b (fun h1 => by
    rcases h.2 with ⟨h2, _⟩ | ⟨g, cap, cur, hv2, _, hh, _⟩
    · rw [h2] at h1; cases h1
    · rw [hv2] at h1
      injection h1 with h1
      dsimp only at h1
      subst h1
      rw [hb] at hh; injection hh with hh; injection hh with _ hh _; revert hh; decide) (lt_of_blk hb)⟩
/-- a slice that reads as bytes: an argument -/
structure BA (w : World) (oa : Option Addr) (n c : Nat) (l : List Nat) : Prop where
  sl : RB.Sl w oa n c l
  nil : oa = none → c = 0
  le : n ≤ c
  cap : c ≤ maxLen
theorem BA.below {w w' : World} {oa : Option Addr} {n c : Nat} {l : List Nat} (h : BA w oa n c l) (hb : Below w.heap.size w w') : BA w' oa n c l := ⟨h.sl.keep hb, h.nil, h.le, h.cap⟩
theorem BA.ad {w : World} {oa : Option Addr} {n c : Nat} {l : List Nat} (h : BA w oa n c l) (hn : 0 < n) : ∃ b o, oa = some ⟨b, o, none⟩ := by
  obtain ⟨b, o, e, -⟩ := h.sl.row hn
  exact ⟨b, o, e⟩
theorem B5.ba {w : World} {oa : Option Addr} {n c : Nat} {l : List Nat} (h : B5 w oa n c l) : BA w oa n c l := ⟨h.bs.sl, h.bs.nil, h.bs.le, h.bs.cap⟩
theorem BA.cut {w : World} {b o n c : Nat} {l : List Nat} (h : BA w (some ⟨b, o, none⟩) n c l) {i k : Nat} (hk : i + k ≤ n) : RB.Sl w (some ⟨b, o + i, none⟩) k (c - i) ((l.drop i).take k) := by
  have hbs : BS w (some ⟨b, o, none⟩) n c l := ⟨h.sl, h.nil, h.le, h.cap, .inr ⟨b, o, rfl⟩⟩
  exact (hbs.tail (k := i) (by omega)).init (by omega)
theorem B5.cut {w : World} {b o n c : Nat} {l : List Nat} (h : B5 w (some ⟨b, o, none⟩) n c l) {i k : Nat} (hk : i + k ≤ n) : RB.Sl w (some ⟨b, o + i, none⟩) k (c - i) ((l.drop i).take k) := (h.tail (k := i) (by omega)).init (by omega)
end Go.Proofs.Ytcbpdjenncbbeaa.Ip
