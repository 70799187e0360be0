/- Records. -/
import Derived.Test.YtjjhnnnpikfjpaaNt
namespace Go.Proofs.Ytjjhnnnpikfjpaa
open Go.RowKit Go.Shelf
attribute [local go_sem] Oper.semAt_some

set_option maxRecDepth 100000 in
theorem recs_bad (t : Tm) (w : World) (h : FdsOk w t.fs) (hz : szT t = 0) (oa : Option Addr) (n c : Nat) : Calls Try.prog 15 #[t.v, .slice oa n c] w fun e w' => e = .returned (.tuple #[.slice none 0 0, .int .i64 310]) ∧ Below w.heap.size w w' := by
  have hal := (Below.refl w.heap.size w).alloc (Nat.le_refl _) (.cells #[.int .i64 t.id, .slice t.fs.a t.fs.n t.fs.c] 41)
  have hb1 : TmS w.heap.size #[.int .i64 t.id, .slice t.fs.a t.fs.n t.fs.c] (w.alloc (.cells #[.int .i64 t.id, .slice t.fs.a t.fs.n t.fs.c] 41)) := hnew _ _
  have hsz := size_tm t _ (h.keep hal)
  rw [hz] at hsz
  unfold Tm.v at *
  have HA := Lib.hid (And.intro hal hsz)
  obtain ⟨e0, e1⟩ := hb1.cells
  clear hal hsz hb1 hz
  go_enter Try.func15, Try.ntmps15
  go_wp2_with fail
  refine (HA.out.2).mono ?_
  rintro e w1 ⟨rfl, hb1⟩
  have HB := Lib.hid (bcall HA.out.1 (Nat.le_refl _) hb1)
  clear hb1 e0 e1
  go_wp2_with fail
  go_ret2
  exact ⟨rfl, HB.out⟩
/-- so many pieces are there -/
structure RcU (w : World) (b7 B1 B2 z : Nat) (l : List Nat) (k : Nat) (W : World) : Prop where
  bel : Below w.heap.size w W
  out : ∃ v vs, W.heap[b7]? = some (.cells #[v] 42) ∧ RH.Own W w.heap.size v vs ∧ PSS W vs (pcs z l k) ∧ v.ownBlock ≠ some b7 ∧ v.ownBlock ≠ some B1 ∧ v.ownBlock ≠ some B2
theorem own_cells {w : World} {base : Nat} {v : Value} {l : List (Option Addr × Nat × Nat)} (h : RH.Own w base v l) {b : Nat} (hb : v.ownBlock = some b) : ∃ cur, w.heap[b]? = some (.cells cur 27) := by
  rcases h.2 with ⟨h2, _⟩ | ⟨g, cap, cur, hv2, _, hh, _⟩
  · rw [h2] at hb; cases hb
  · rw [hv2] at hb
    injection hb with hb
    dsimp only at hb
    subst hb
    exact ⟨cur, hh⟩
theorem own_put {base : Nat} {v : Value} {vs : List (Option Addr × Nat × Nat)} {ls : List (List Nat)} {W : World} {q : Nat} {o o' : Obj} (h2 : RH.Own W base v vs) (h3 : PSS W vs ls) (ho : W.heap[q]? = some o) (hc : o.isCells = false) : RH.Own (W.putObj q o') base v vs ∧ PSS (W.putObj q o') vs ls := by
  have hsame : ∀ (b : Nat) (cs : Array Value) (T : TypeId) (fr : Nat × Nat), W.heap[b]? = some (Obj.cells cs T fr) → (W.putObj q o').heap[b]? = W.heap[b]? := fun b cs T fr hb => World.putObj_heap_other (by
    rintro rfl
    rw [ho] at hb; injection hb with hb; subst hb; cases hc)
  refine ⟨h2.keep (fun b e => ?_), h3.keep ⟨(grownBy_putObj' W q o').size, fun b cs hb => hsame _ _ _ _ hb⟩⟩
  obtain ⟨cur, hcur⟩ := own_cells h2 e
  exact hsame _ _ _ _ hcur
theorem below_put {w W : World} {q : Nat} {o' : Obj} (hb : Below w.heap.size w W) (hq : w.heap.size ≤ q) : Below w.heap.size w (W.putObj q o') := hb.trans ((Below.refl w.heap.size W).grown (grownBy_putObj' W q o') hb.size (fun k e => by cases e; exact hq))
theorem RcU.put {w : World} {b7 B1 B2 z k : Nat} {l : List Nat} {W : World} {q : Nat} {o o' : Obj} (h : RcU w b7 B1 B2 z l k W) (hq : w.heap.size ≤ q) (ho : W.heap[q]? = some o) (hc : o.isCells = false) : RcU w b7 B1 B2 z l k (W.putObj q o') := by
  obtain ⟨hb, v, vs, h1, h2, h3, h4⟩ := h
  have hne : ∀ (b : Nat) (cs : Array Value) (T : TypeId) (fr : Nat × Nat), W.heap[b]? = some (Obj.cells cs T fr) → b ≠ q := by
    rintro b cs T fr hb rfl
    rw [ho] at hb; injection hb with hb; subst hb; cases hc
  have hsame : ∀ (b : Nat) (cs : Array Value) (T : TypeId) (fr : Nat × Nat), W.heap[b]? = some (Obj.cells cs T fr) → (W.putObj q o').heap[b]? = W.heap[b]? := fun b cs T fr hb => World.putObj_heap_other (hne b cs T fr hb)
  have hsz : W.heap.size ≤ (W.putObj q o').heap.size := (grownBy_putObj' W q o').size
  refine ⟨hb.trans ((Below.refl w.heap.size W).grown (grownBy_putObj' W q o') hb.size (fun k e => by cases e; exact hq)), v, vs, (hsame _ _ _ _ h1).trans h1, h2.keep (fun b e => ?_), h3.keep ⟨hsz, fun b cs hb => hsame _ _ _ _ hb⟩, h4⟩
  obtain ⟨cur, hcur⟩ := own_cells h2 e
  exact hsame _ _ _ _ hcur
theorem RcU.set {w : World} {b7 B1 B2 z k : Nat} {l : List Nat} {W : World} {v0 v1 : Value} (h : RcU w b7 B1 B2 z l k W) (hB : w.heap.size ≤ B1) (hne : b7 ≠ B1) (hx : BxS B1 v0 27 W) : RcU w b7 B1 B2 z l k (W.setCell ⟨B1, 0, none⟩ v1) := by
  obtain ⟨hb, v, vs, h1, h2, h3, h4⟩ := h
  have hs := (SetB.self hx).store (o := 0) (lt_of_blk hx) v1
  refine ⟨hb.trans (hs.below hB), v, vs, (hs.other hne).trans h1, h2.keep (fun b e => hs.other ?_), h3.keep (.of_set hs hx (by decide)), h4⟩
  rintro rfl
  exact h4.2.1 e
theorem keeps_below {B : Nat} {W W' : World} (h : Below W.heap.size W W') : KeepsFrom B W W' := ⟨h.size, fun k _o _ hk _ => (h.block k (lt_of_blk hk)).trans hk⟩
section
variable {F : Fence} {nF : Nat} {P : Program} {ops : Array Oper} {rest : List Oper} {o : Oper} {a : Act} {Q : Exit → Act → World → Prop} {w : World} {α : Type} [Inhabited α] {R : Rep α}
theorem append_listIn {t : TypeId} {bytes : Nat} (hT : Rep.Ty P t R bytes) (hgd : o.guard = none) (s x : Operand) (ho : o.op = .call { callee := .builtin .append, args := #[s, x], argTypes := #[t, t] })
    {base : Nat} {v : Value} {L : List α} (hs : a.eval s = v) (hown : R.Own w base v L) {sa : Option Addr} {m c : Nat} {M : List α} (hx : a.eval x = .slice sa m c) (hM : R.Sl w sa m c M) (h0 : 0 < m)
    (hmax : L.length + m ≤ maxLen) (hbytes : (L.length + m) * bytes ≤ 140737488355328) (hbase : base ≤ w.heap.size)
    (h : ∀ v' w', R.Own w' base v' (L ++ M) → Below base w w' → (∀ bad, v.ownBlock ≠ some bad → bad < w.heap.size → v'.ownBlock ≠ some bad ∧ w'.heap[bad]? = w.heap[bad]?) → w.grownBy w' v.ownBlock → wpListIn F nF P ops Q rest (a.put o.dst v') w') : wpListIn F nF P ops Q (o :: rest) a w :=
  wpListIn_plain hgd fun K hK => by
    obtain ⟨v', w', e1, e2, e3, e4⟩ := Rep.run_append_list2 hT hown hM h0 hmax hbytes hbase (ty := o.type)
    have e5 : w.grownBy w' v.ownBlock := by
      obtain ⟨b, off, rfl, _⟩ := hM.row h0
      obtain ⟨v2, w2, f1, _, _, f4⟩ := Rep.run_append_list (ty := o.type) hT hown hM (fun h => by cases h) hmax hbytes hbase
      rw [e1] at f1; injection f1 with f1 f2; subst f2; exact f4
    have hk := hK _ _ (h v' w' e2 e3 e4 e5)
    unfold Oper.wpIn
    refine ⟨?_, ?_⟩
    · simp [Oper.about, ho, resolve, Target.leads, Sem.run_pure]
    · rw [Oper.semAt_plain F _ _ (by rw [ho]; intro c hc'; cases hc')]
      simp [execOp, ho, resolve, invoke, builtin, hs, hx, e1, Result.andThen]
      exact hk
end
set_option maxRecDepth 100000 in
set_option maxHeartbeats 4000000 in
theorem recs_ok (t : Tm) (w : World) (h : FdsOk w t.fs) (hz : 1 ≤ szT t ∧ szT t ≤ 3000000) {oa : Option Addr} {n c : Nat} {l : List Nat} (hb : BA w oa n c l) (hby : Bytes l) (hn : n ≤ 5000) : Calls Try.prog 15 #[t.v, .slice oa n c] w fun e w' => (∃ v vs, e = .returned (.tuple #[v, .int .i64 0]) ∧ RH.Own w' w.heap.size v vs ∧ PSS w' vs (pcs (szT t) l (n / szT t))) ∧ Below w.heap.size w w' := by
  have hal := (Below.refl w.heap.size w).alloc (Nat.le_refl _) (.cells #[.int .i64 t.id, .slice t.fs.a t.fs.n t.fs.c] 41)
  have hb1 : TmS w.heap.size #[.int .i64 t.id, .slice t.fs.a t.fs.n t.fs.c] (w.alloc (.cells #[.int .i64 t.id, .slice t.fs.a t.fs.n t.fs.c] 41)) := hnew _ _
  have hsz := size_tm t _ (h.keep hal)
  unfold Tm.v at *
  obtain ⟨z, hzz⟩ : ∃ z, z = szT t := ⟨_, rfl⟩
  rw [← hzz] at hsz hz ⊢
  obtain ⟨id, s⟩ := t
  dsimp only at *
  have hz0 : ((z : Int) == 0) = false := by rw [beq_eq_false_iff_ne]; omega
  have HA := Lib.hid (And.intro hal (And.intro hsz (And.intro hb (And.intro hby (And.intro hz hn)))))
  obtain ⟨e0, e1⟩ := hb1.cells
  clear hal hsz hb1 hzz hz hb hby h hn
  refine callsIn_wide.1 (show CallsIn Fence.wide 5 _ _ _ _ _ from callsIn_of_wp_marks Try.func15 rfl trivial ?_ rfl)
  simp only [Try.ntmps15, List.size_toArray, List.length_cons, List.length_nil, Nat.reduceAdd, Nat.reduceSub, Array.replicate_succ, Array.replicate_zero, List.push_toArray, List.append_toArray, List.nil_append, List.cons_append]
  gi_wp2_with (refine ⟨trivial, ?_⟩; (gi_at_call 16; refine (callsIn_wide.2 (HA.out.2.1)).mono ?_; rintro e w1 ⟨rfl, hb1⟩))
  refine ⟨trivial, (callsIn_wide.2 (pieces_any _ _ _ _ _)).mono ?_⟩
  rintro e w4 ⟨rfl, hw4⟩
  have hb0 := bcall HA.out.1 (Nat.le_refl _) hb1
  have hB4 : Below w.heap.size w w4 := by rw [hw4]; exact ((hb0.alloc hb0.size (.cells #[.slice none 0 0] 42)).alloc (Nat.le_trans hb0.size (by simp)) _).alloc (Nat.le_trans hb0.size (by simp; omega)) _
  have b7 : w4.heap[w1.heap.size]? = some (.cells #[.slice none 0 0] 42) := by rw [hw4]; exact hold (hold (hnew _ _))
  have b8 : BxS (w1.heap.size + 1) (.slice oa n c) 27 w4 := by rw [hw4]; exact hold (hnewAt (by simp))
  have b9 : BxS (w1.heap.size + 2) (.int .i64 (z : Int)) 3 w4 := by rw [hw4]; exact hnewAt (by simp)
  have hsz1 : (w1.alloc (.cells #[.slice none 0 0] 42)).heap.size = w1.heap.size + 1 := Array.size_push _
  have hws := hb0.size
  clear hb1 e0 e1 hw4 hb0
  rw [hsz1]
  gi_wp2
  clear hsz1
  generalize w1.heap.size = q1 at *
  have h4lt := lt_of_blk b9
  have HC := Lib.hid (And.intro hB4 (And.intro b7 (And.intro b8 b9)))
  clear hB4 b7 b8 b9
  refine range_on (n := 5) (gf := 53) (lb := #[.pointer (some ⟨q1 + 1, 0, none⟩), .pointer (some ⟨q1 + 1 + 1, 0, none⟩)]) rfl (enters_of Try.func53 (by kernel_rfl) rfl) (fun i => #[.slice (adr oa (i * z)) z (c - i * z)]) (fun _ => rfl)
    (fun i W => (i + 1) * z ≤ n ∧ RcU w q1 (q1 + 1) (q1 + 1 + 1) z l i W ∧ BxS (q1 + 1) (.slice (adr oa (i * z)) (n - i * z) (c - i * z)) 27 W ∧ BxS (q1 + 1 + 1) (.int .i64 (z : Int)) 3 W)
    (fun i W => RcU w q1 (q1 + 1) (q1 + 1 + 1) z l (i + 1) W ∧ BxS (q1 + 1) (.slice (adr oa (i * z)) (n - i * z) (c - i * z)) 27 W ∧ BxS (q1 + 1 + 1) (.int .i64 (z : Int)) 3 W)
    (fun W => RcU w q1 (q1 + 1) (q1 + 1 + 1) z l (n / z) W) ?hput
    (fun i => { tmps := #[.agg #[.int .i64 id, .slice s.a s.n s.c], .slice oa n c, .pointer (some ⟨w.heap.size, 0, none⟩), undef, .slice none 0 0, .int .i64 0, .int .i64 (z : Int), .pointer (some ⟨q1, 0, none⟩), .slice (adr oa (i * z)) z (c - i * z), .agg #[.int .i64 id, .slice s.a s.n s.c], .int .i64 (z : Int), .int .i64 (z : Int), .bool false, .slice oa n c, .int .i64 (z : Int), .func (.func 53) #[] #[.pointer (some ⟨q1 + 1, 0, none⟩), .pointer (some ⟨q1 + 1 + 1, 0, none⟩)], .slice (adr oa (i * z)) z (c - i * z), undef, undef, undef, undef, undef, undef], defers := [] }) ?hassign ?hbody ?hiter ?hdone
  case hput =>
    intro W lq o o' hl ho hc
    have hx : ∀ b v T, BxS b v T W → BxS b v T (W.putObj lq o') := fun b v T hb => (World.putObj_heap_other (by
      rintro rfl
      rw [hb] at ho; injection ho with ho; subst ho; cases hc)).trans hb
    have hlw : w.heap.size ≤ lq := by omega
    exact ⟨fun i h => ⟨h.1, h.2.1.put hlw ho hc, hx _ _ _ h.2.2.1, hx _ _ _ h.2.2.2⟩, fun i h => ⟨h.1.put hlw ho hc, hx _ _ _ h.2.1, hx _ _ _ h.2.2⟩, fun h => h.put hlw ho hc⟩
  case hassign =>
    intro lq i W K hK
    gi_wp2
    exact hK
  case hbody =>
    intro lq i W hl ⟨hi, hu, hx1, hx2⟩
    obtain ⟨hbel, v, vs, hv, hown, hps, hn7, hn8, hn9⟩ := hu
    have hzz := HA.out.2.2.2.2.1.1
    have hii : i * z + z ≤ n := by rw [← Nat.one_mul z, ← Nat.mul_assoc, Nat.mul_one, ← Nat.add_mul]; exact hi
    obtain ⟨m, hm⟩ : ∃ m, m = i * z := ⟨_, rfl⟩
    rw [← hm] at hii hx1 ⊢
    obtain ⟨b, o, hoab⟩ : ∃ b o, oa = some ⟨b, o, none⟩ := HA.out.2.2.1.ad (by omega)
    subst hoab
    have had : adr (some ⟨b, o, none⟩) m = some ⟨b, o + m, none⟩ := rfl
    rw [had] at hx1 ⊢
    have hcut := (HA.out.2.2.1.below hbel).cut (i := m) (k := z) hii
    have hbyp : Bytes ((l.drop m).take z) := (HA.out.2.2.2.1.drop m).take z
    obtain ⟨PC, hPC⟩ : ∃ PC, PC = (l.drop m).take z := ⟨_, rfl⟩
    rw [← hPC] at hcut hbyp
    have HPC := Lib.hid (And.intro hPC hbyp)
    clear hPC hbyp
    have HD := Lib.hid (And.intro hbel (And.intro hv (And.intro hown (And.intro hps (And.intro (And.intro hn7 (And.intro hn8 hn9)) (And.intro hcut (And.intro hx1 hx2)))))))
    have HM := Lib.hid (And.intro hm hii)
    clear hbel hv hown hps hn7 hn8 hn9 hcut hx1 hx2 hm hi hii had
    gi_wp2
    have hd := (Below.refl W.heap.size W).drew
    have HE := Lib.hid (And.intro (bcall HD.out.1 (Nat.le_refl _) hd) (And.intro ((hd.block _ (lt_of_blk HD.out.2.1)).trans HD.out.2.1) (And.intro (HD.out.2.2.1.below hd) (And.intro (HD.out.2.2.2.1.keep (.of_below hd)) (And.intro HD.out.2.2.2.2.1 (And.intro (HD.out.2.2.2.2.2.1.keep hd) (And.intro ((hd.block _ (lt_of_blk HD.out.2.2.2.2.2.2.1)).trans HD.out.2.2.2.2.2.2.1) (And.intro ((hd.block _ (lt_of_blk HD.out.2.2.2.2.2.2.2)).trans HD.out.2.2.2.2.2.2.2) (keeps_below (B := w4.heap.size) hd)))))))))
    clear hd HD
    refine wpIn_region_pieces (by kernel_rfl) ?_
    generalize hWd : W.drew = Wd at *
    clear hWd
    refine inAny_two 0 1 (by kernel_rfl) ?_ ?_
    · simp only [pick, List.getD_cons_zero]
      have e7 := cell_of (o := 0) HE.out.2.1 rfl
      gi_wp2
      clear e7
      refine inAny_one 1 (by kernel_rfl) ?_
      simp only [pick, List.getD_cons_zero, List.getD_cons_succ]
      gi_wp2
      refine inAny_one 2 (by kernel_rfl) ?_
      simp only [pick, List.getD_cons_zero, List.getD_cons_succ]
      gi_wp2_with (refine ⟨trivial, ?_⟩; gi_at_call 42; refine (CallsIn.inRound lq (callsIn_wide.2 (clone_any HE.out.2.2.2.2.2.1 (fun h => by cases h) (Nat.le_trans (Nat.le_trans (Nat.le_add_left _ _) HM.out.2) (Nat.le_trans HA.out.2.2.2.2.2 (by decide)))))).mono ?_; rintro e w3 ⟨v3, rfl, ho3, hb3⟩; obtain ⟨oa3, c3, rfl, hs3⟩ := b5_own ho3)
      have F4 := Lib.hid (And.intro (bcall HE.out.1 (Nat.le_refl _) hb3) (And.intro ((hb3.block _ (lt_of_blk HE.out.2.1)).trans HE.out.2.1) (And.intro (HE.out.2.2.1.below hb3) (And.intro (HE.out.2.2.2.1.keep (.of_below hb3)) (And.intro HE.out.2.2.2.2.1 (And.intro (HE.out.2.2.2.2.2.1.keep hb3) (And.intro ((hb3.block _ (lt_of_blk HE.out.2.2.2.2.2.2.1)).trans HE.out.2.2.2.2.2.2.1) (And.intro ((hb3.block _ (lt_of_blk HE.out.2.2.2.2.2.2.2.1)).trans HE.out.2.2.2.2.2.2.2.1) (And.intro (HE.out.2.2.2.2.2.2.2.2.trans (keeps_below hb3)) (hs3))))))))))
      clear HE
      clear hb3 ho3 hs3
      refine inAny_one 3 (by kernel_rfl) ?_
      simp only [pick, List.getD_cons_zero, List.getD_cons_succ]
      have hb5 := (Below.refl w3.heap.size w3).alloc (Nat.le_refl _) (.cells #[.slice oa3 PC.length c3] 27)
      have ho5 : RH.Own (w3.alloc (.cells #[.slice oa3 PC.length c3] 27)) w.heap.size (.slice (some ⟨w3.heap.size, 0, none⟩) 1 1) [(oa3, PC.length, c3)] := ⟨rfl, .inr ⟨w3.heap.size, 1, #[.slice oa3 PC.length c3], rfl, F4.out.1.size, hnew _ _, Nat.le_refl _, by unfold maxLen; omega, rfl, rfl⟩⟩
      have F6 := Lib.hid (And.intro (bcall F4.out.1 (Nat.le_refl _) hb5) (And.intro ((hb5.block _ (lt_of_blk F4.out.2.1)).trans F4.out.2.1) (And.intro (F4.out.2.2.1.below hb5) (And.intro (F4.out.2.2.2.1.keep (.of_below hb5)) (And.intro F4.out.2.2.2.2.1 (And.intro (F4.out.2.2.2.2.2.1.keep hb5) (And.intro ((hb5.block _ (lt_of_blk F4.out.2.2.2.2.2.2.1)).trans F4.out.2.2.2.2.2.2.1) (And.intro ((hb5.block _ (lt_of_blk F4.out.2.2.2.2.2.2.2.1)).trans F4.out.2.2.2.2.2.2.2.1) (And.intro (F4.out.2.2.2.2.2.2.2.2.1.trans (keeps_below hb5)) (And.intro (F4.out.2.2.2.2.2.2.2.2.2.below hb5) (ho5)))))))))))
      clear F4
      clear hb5 ho5
      gi_wp2
      generalize hq5 : w3.heap.size = q5 at *
      clear hq5
      generalize w3.alloc (.cells #[.slice oa3 PC.length c3] 27) = w5 at *
      refine inAny_one 4 (by kernel_rfl) ?_
      simp only [pick, List.getD_cons_zero, List.getD_cons_succ]
      obtain ⟨oa9, c9, hv9, -, -, hs9, -⟩ := F6.out.2.2.2.2.2.2.2.2.2.2.sl
      simp only [Value.slice.injEq] at hv9
      obtain ⟨rfl, -, rfl⟩ := hv9
      have hvl : vs.length ≤ 5000 := by
        have h1 := F6.out.2.2.2.1.len
        simp only [pcs, List.length_map, List.length_range] at h1
        have h2 := HM.out
        have h3 : i ≤ i * z := Nat.le_mul_of_pos_right _ (by omega)
        have h4 := HA.out.2.2.2.2.2
        omega
      refine append_listIn T42 rfl _ _ rfl (base := w.heap.size) (m := 1) rfl F6.out.2.2.1 rfl hs9 (by omega) (by unfold maxLen; omega) (by omega) F6.out.1.size ?_
      intro v7 w7 ho7 hb7 he7 hg7
      have hk7 := rh_keep5 F6.out.2.2.1 hb7.size (fun bad h1 h2 => (he7 bad h1 h2).2)
      have h7 := he7 q1 F6.out.2.2.2.2.1.1 (lt_of_blk F6.out.2.1)
      have h8 := he7 (q1 + 1) F6.out.2.2.2.2.1.2.1 (lt_of_blk F6.out.2.2.2.2.2.2.1)
      have h9 := he7 (q1 + 1 + 1) F6.out.2.2.2.2.1.2.2 (lt_of_blk F6.out.2.2.2.2.2.2.2.1)
      have hkf : KeepsFrom w4.heap.size w5 w7 := ⟨hb7.size, fun k o hk hok hcc => (hg7.block k (lt_of_blk hok) (fun e => by
        obtain ⟨cur, hcur⟩ := own_cells F6.out.2.2.1 e.symm
        rw [hok] at hcur; injection hcur with hcur; subst hcur; cases hcc)).trans hok⟩
      have F8 := Lib.hid (And.intro (F6.out.1.trans hb7) (And.intro (h7.2.trans F6.out.2.1) (And.intro ho7 (And.intro ((F6.out.2.2.2.1.keep hk7).snoc (F6.out.2.2.2.2.2.2.2.2.2.1.keep hk7) HPC.out.2) (And.intro (And.intro h7.1 (And.intro h8.1 h9.1)) (And.intro (show BxS (q1 + 1) (.slice (some ⟨b, o + m, none⟩) (n - m) (c - m)) 27 w7 from h8.2.trans F6.out.2.2.2.2.2.2.1) (And.intro (show BxS (q1 + 1 + 1) (.int .i64 (z : Int)) 3 w7 from h9.2.trans F6.out.2.2.2.2.2.2.2.1) ((F6.out.2.2.2.2.2.2.2.2.1.trans hkf)))))))))
      clear F6
      clear ho7 hb7 he7 hg7 hk7 h7 h8 h9 hkf hs9
      gi_wp2
      refine inAny_one 5 (by kernel_rfl) ?_
      simp only [pick, List.getD_cons_zero, List.getD_cons_succ]
      obtain ⟨oa5, n5, c5, rfl⟩ : ∃ oa n c, v7 = .slice oa n c := by
        obtain ⟨oa, c, h, -⟩ := F8.out.2.2.1.sl
        exact ⟨_, _, _, h⟩
      have f7 : w7.frozen? ⟨q1, 0, none⟩ = false := free_of F8.out.2.1
      have e7 := cell_of (o := 0) F8.out.2.1 rfl
      have hset := (SetB.self F8.out.2.1).store (o := 0) (lt_of_blk F8.out.2.1) (.slice oa5 n5 c5)
      have h7z := setCell_blk F8.out.2.1 0 (.slice oa5 n5 c5)
      have hkf : KeepsFrom w4.heap.size w7 (w7.setCell ⟨q1, 0, none⟩ (.slice oa5 n5 c5)) := ⟨by rw [hset.size]; exact Nat.le_refl _, fun k o hk hok hcc => (hset.other (by omega)).trans hok⟩
      have F9 := Lib.hid (And.intro (F8.out.1.trans (hset.below hws)) (And.intro h7z (And.intro (F8.out.2.2.1.keep (fun b hb => hset.other (fun e => F8.out.2.2.2.2.1.1 (e ▸ hb)))) (And.intro (F8.out.2.2.2.1.keep (.of_set hset F8.out.2.1 (by decide))) (And.intro F8.out.2.2.2.2.1 (And.intro (show BxS (q1 + 1) (.slice (some ⟨b, o + m, none⟩) (n - m) (c - m)) 27 (w7.setCell ⟨q1, 0, none⟩ (.slice oa5 n5 c5)) from (hset.other (by omega)).trans F8.out.2.2.2.2.2.1) (And.intro (show BxS (q1 + 1 + 1) (.int .i64 (z : Int)) 3 (w7.setCell ⟨q1, 0, none⟩ (.slice oa5 n5 c5)) from (hset.other (by omega)).trans F8.out.2.2.2.2.2.2.1) ((F8.out.2.2.2.2.2.2.2.trans hkf)))))))))
      clear F8
      clear hset h7z hkf
      gi_wp2
      refine wpAnyIn_done (by kernel_rfl) ?_ _
      refine ⟨rfl, F9.out.2.2.2.2.2.2.2, ⟨F9.out.1, _, _, F9.out.2.1, F9.out.2.2.1, ?_, F9.out.2.2.2.2.1⟩, F9.out.2.2.2.2.2.1, F9.out.2.2.2.2.2.2.1⟩
      have hps := F9.out.2.2.2.1
      rw [pcs_succ]
      unfold pc
      rw [← HM.out.1, ← HPC.out.1]
      exact hps
    · simp only [pick, List.getD_cons_zero, List.getD_cons_succ]
      gi_wp2
      refine inAny_two 0 2 (by kernel_rfl) ?_ ?_
      · simp only [pick, List.getD_cons_zero]
        have e7 := cell_of (o := 0) HE.out.2.1 rfl
        gi_wp2
        clear e7
        refine inAny_one 2 (by kernel_rfl) ?_
        simp only [pick, List.getD_cons_zero, List.getD_cons_succ]
        gi_wp2_with (refine ⟨trivial, ?_⟩; gi_at_call 42; refine (CallsIn.inRound lq (callsIn_wide.2 (clone_any HE.out.2.2.2.2.2.1 (fun h => by cases h) (Nat.le_trans (Nat.le_trans (Nat.le_add_left _ _) HM.out.2) (Nat.le_trans HA.out.2.2.2.2.2 (by decide)))))).mono ?_; rintro e w12 ⟨v12, rfl, ho12, hb12⟩; obtain ⟨oa3, c3, rfl, hs12⟩ := b5_own ho12)
        have F13 := Lib.hid (And.intro (bcall HE.out.1 (Nat.le_refl _) hb12) (And.intro ((hb12.block _ (lt_of_blk HE.out.2.1)).trans HE.out.2.1) (And.intro (HE.out.2.2.1.below hb12) (And.intro (HE.out.2.2.2.1.keep (.of_below hb12)) (And.intro HE.out.2.2.2.2.1 (And.intro (HE.out.2.2.2.2.2.1.keep hb12) (And.intro ((hb12.block _ (lt_of_blk HE.out.2.2.2.2.2.2.1)).trans HE.out.2.2.2.2.2.2.1) (And.intro ((hb12.block _ (lt_of_blk HE.out.2.2.2.2.2.2.2.1)).trans HE.out.2.2.2.2.2.2.2.1) (And.intro (HE.out.2.2.2.2.2.2.2.2.trans (keeps_below hb12)) (hs12))))))))))
        clear HE
        clear hb12 ho12 hs12
        refine inAny_one 3 (by kernel_rfl) ?_
        simp only [pick, List.getD_cons_zero, List.getD_cons_succ]
        have hb14 := (Below.refl w12.heap.size w12).alloc (Nat.le_refl _) (.cells #[.slice oa3 PC.length c3] 27)
        have ho14 : RH.Own (w12.alloc (.cells #[.slice oa3 PC.length c3] 27)) w.heap.size (.slice (some ⟨w12.heap.size, 0, none⟩) 1 1) [(oa3, PC.length, c3)] := ⟨rfl, .inr ⟨w12.heap.size, 1, #[.slice oa3 PC.length c3], rfl, F13.out.1.size, hnew _ _, Nat.le_refl _, by unfold maxLen; omega, rfl, rfl⟩⟩
        have F15 := Lib.hid (And.intro (bcall F13.out.1 (Nat.le_refl _) hb14) (And.intro ((hb14.block _ (lt_of_blk F13.out.2.1)).trans F13.out.2.1) (And.intro (F13.out.2.2.1.below hb14) (And.intro (F13.out.2.2.2.1.keep (.of_below hb14)) (And.intro F13.out.2.2.2.2.1 (And.intro (F13.out.2.2.2.2.2.1.keep hb14) (And.intro ((hb14.block _ (lt_of_blk F13.out.2.2.2.2.2.2.1)).trans F13.out.2.2.2.2.2.2.1) (And.intro ((hb14.block _ (lt_of_blk F13.out.2.2.2.2.2.2.2.1)).trans F13.out.2.2.2.2.2.2.2.1) (And.intro (F13.out.2.2.2.2.2.2.2.2.1.trans (keeps_below hb14)) (And.intro (F13.out.2.2.2.2.2.2.2.2.2.below hb14) (ho14)))))))))))
        clear F13
        clear hb14 ho14
        gi_wp2
        generalize hq14 : w12.heap.size = q14 at *
        clear hq14
        generalize w12.alloc (.cells #[.slice oa3 PC.length c3] 27) = w14 at *
        refine inAny_one 4 (by kernel_rfl) ?_
        simp only [pick, List.getD_cons_zero, List.getD_cons_succ]
        obtain ⟨oa9, c9, hv9, -, -, hs9, -⟩ := F15.out.2.2.2.2.2.2.2.2.2.2.sl
        simp only [Value.slice.injEq] at hv9
        obtain ⟨rfl, -, rfl⟩ := hv9
        have hvl : vs.length ≤ 5000 := by
          have h1 := F15.out.2.2.2.1.len
          simp only [pcs, List.length_map, List.length_range] at h1
          have h2 := HM.out
          have h3 : i ≤ i * z := Nat.le_mul_of_pos_right _ (by omega)
          have h4 := HA.out.2.2.2.2.2
          omega
        refine append_listIn T42 rfl _ _ rfl (base := w.heap.size) (m := 1) rfl F15.out.2.2.1 rfl hs9 (by omega) (by unfold maxLen; omega) (by omega) F15.out.1.size ?_
        intro v16 w16 ho16 hb16 he16 hg16
        have hk16 := rh_keep5 F15.out.2.2.1 hb16.size (fun bad h1 h2 => (he16 bad h1 h2).2)
        have h7 := he16 q1 F15.out.2.2.2.2.1.1 (lt_of_blk F15.out.2.1)
        have h8 := he16 (q1 + 1) F15.out.2.2.2.2.1.2.1 (lt_of_blk F15.out.2.2.2.2.2.2.1)
        have h9 := he16 (q1 + 1 + 1) F15.out.2.2.2.2.1.2.2 (lt_of_blk F15.out.2.2.2.2.2.2.2.1)
        have hkf : KeepsFrom w4.heap.size w14 w16 := ⟨hb16.size, fun k o hk hok hcc => (hg16.block k (lt_of_blk hok) (fun e => by
          obtain ⟨cur, hcur⟩ := own_cells F15.out.2.2.1 e.symm
          rw [hok] at hcur; injection hcur with hcur; subst hcur; cases hcc)).trans hok⟩
        have F17 := Lib.hid (And.intro (F15.out.1.trans hb16) (And.intro (h7.2.trans F15.out.2.1) (And.intro ho16 (And.intro ((F15.out.2.2.2.1.keep hk16).snoc (F15.out.2.2.2.2.2.2.2.2.2.1.keep hk16) HPC.out.2) (And.intro (And.intro h7.1 (And.intro h8.1 h9.1)) (And.intro (show BxS (q1 + 1) (.slice (some ⟨b, o + m, none⟩) (n - m) (c - m)) 27 w16 from h8.2.trans F15.out.2.2.2.2.2.2.1) (And.intro (show BxS (q1 + 1 + 1) (.int .i64 (z : Int)) 3 w16 from h9.2.trans F15.out.2.2.2.2.2.2.2.1) ((F15.out.2.2.2.2.2.2.2.2.1.trans hkf)))))))))
        clear F15
        clear ho16 hb16 he16 hg16 hk16 h7 h8 h9 hkf hs9
        gi_wp2
        refine inAny_one 5 (by kernel_rfl) ?_
        simp only [pick, List.getD_cons_zero, List.getD_cons_succ]
        obtain ⟨oa5, n5, c5, rfl⟩ : ∃ oa n c, v16 = .slice oa n c := by
          obtain ⟨oa, c, h, -⟩ := F17.out.2.2.1.sl
          exact ⟨_, _, _, h⟩
        have f7 : w16.frozen? ⟨q1, 0, none⟩ = false := free_of F17.out.2.1
        have e7 := cell_of (o := 0) F17.out.2.1 rfl
        have hset := (SetB.self F17.out.2.1).store (o := 0) (lt_of_blk F17.out.2.1) (.slice oa5 n5 c5)
        have h7z := setCell_blk F17.out.2.1 0 (.slice oa5 n5 c5)
        have hkf : KeepsFrom w4.heap.size w16 (w16.setCell ⟨q1, 0, none⟩ (.slice oa5 n5 c5)) := ⟨by rw [hset.size]; exact Nat.le_refl _, fun k o hk hok hcc => (hset.other (by omega)).trans hok⟩
        have F18 := Lib.hid (And.intro (F17.out.1.trans (hset.below hws)) (And.intro h7z (And.intro (F17.out.2.2.1.keep (fun b hb => hset.other (fun e => F17.out.2.2.2.2.1.1 (e ▸ hb)))) (And.intro (F17.out.2.2.2.1.keep (.of_set hset F17.out.2.1 (by decide))) (And.intro F17.out.2.2.2.2.1 (And.intro (show BxS (q1 + 1) (.slice (some ⟨b, o + m, none⟩) (n - m) (c - m)) 27 (w16.setCell ⟨q1, 0, none⟩ (.slice oa5 n5 c5)) from (hset.other (by omega)).trans F17.out.2.2.2.2.2.1) (And.intro (show BxS (q1 + 1 + 1) (.int .i64 (z : Int)) 3 (w16.setCell ⟨q1, 0, none⟩ (.slice oa5 n5 c5)) from (hset.other (by omega)).trans F17.out.2.2.2.2.2.2.1) ((F17.out.2.2.2.2.2.2.2.trans hkf)))))))))
        clear F17
        clear hset h7z hkf
        gi_wp2
        refine wpAnyIn_done (by kernel_rfl) ?_ _
        refine ⟨rfl, F18.out.2.2.2.2.2.2.2, ⟨F18.out.1, _, _, F18.out.2.1, F18.out.2.2.1, ?_, F18.out.2.2.2.2.1⟩, F18.out.2.2.2.2.2.1, F18.out.2.2.2.2.2.2.1⟩
        have hps := F18.out.2.2.2.1
        rw [pcs_succ]
        unfold pc
        rw [← HM.out.1, ← HPC.out.1]
        exact hps
      · simp only [pick, List.getD_cons_zero, List.getD_cons_succ]
        gi_wp2_with (refine ⟨trivial, ?_⟩; gi_at_call 42; refine (CallsIn.inRound lq (callsIn_wide.2 (clone_any HE.out.2.2.2.2.2.1 (fun h => by cases h) (Nat.le_trans (Nat.le_trans (Nat.le_add_left _ _) HM.out.2) (Nat.le_trans HA.out.2.2.2.2.2 (by decide)))))).mono ?_; rintro e w19 ⟨v19, rfl, ho19, hb19⟩; obtain ⟨oa3, c3, rfl, hs19⟩ := b5_own ho19)
        have F20 := Lib.hid (And.intro (bcall HE.out.1 (Nat.le_refl _) hb19) (And.intro ((hb19.block _ (lt_of_blk HE.out.2.1)).trans HE.out.2.1) (And.intro (HE.out.2.2.1.below hb19) (And.intro (HE.out.2.2.2.1.keep (.of_below hb19)) (And.intro HE.out.2.2.2.2.1 (And.intro (HE.out.2.2.2.2.2.1.keep hb19) (And.intro ((hb19.block _ (lt_of_blk HE.out.2.2.2.2.2.2.1)).trans HE.out.2.2.2.2.2.2.1) (And.intro ((hb19.block _ (lt_of_blk HE.out.2.2.2.2.2.2.2.1)).trans HE.out.2.2.2.2.2.2.2.1) (And.intro (HE.out.2.2.2.2.2.2.2.2.trans (keeps_below hb19)) (hs19))))))))))
        clear HE
        clear hb19 ho19 hs19
        refine inAny_two 0 3 (by kernel_rfl) ?_ ?_
        · simp only [pick, List.getD_cons_zero]
          have e7 := cell_of (o := 0) F20.out.2.1 rfl
          gi_wp2
          clear e7
          refine inAny_one 3 (by kernel_rfl) ?_
          simp only [pick, List.getD_cons_zero, List.getD_cons_succ]
          have hb22 := (Below.refl w19.heap.size w19).alloc (Nat.le_refl _) (.cells #[.slice oa3 PC.length c3] 27)
          have ho22 : RH.Own (w19.alloc (.cells #[.slice oa3 PC.length c3] 27)) w.heap.size (.slice (some ⟨w19.heap.size, 0, none⟩) 1 1) [(oa3, PC.length, c3)] := ⟨rfl, .inr ⟨w19.heap.size, 1, #[.slice oa3 PC.length c3], rfl, F20.out.1.size, hnew _ _, Nat.le_refl _, by unfold maxLen; omega, rfl, rfl⟩⟩
          have F23 := Lib.hid (And.intro (bcall F20.out.1 (Nat.le_refl _) hb22) (And.intro ((hb22.block _ (lt_of_blk F20.out.2.1)).trans F20.out.2.1) (And.intro (F20.out.2.2.1.below hb22) (And.intro (F20.out.2.2.2.1.keep (.of_below hb22)) (And.intro F20.out.2.2.2.2.1 (And.intro (F20.out.2.2.2.2.2.1.keep hb22) (And.intro ((hb22.block _ (lt_of_blk F20.out.2.2.2.2.2.2.1)).trans F20.out.2.2.2.2.2.2.1) (And.intro ((hb22.block _ (lt_of_blk F20.out.2.2.2.2.2.2.2.1)).trans F20.out.2.2.2.2.2.2.2.1) (And.intro (F20.out.2.2.2.2.2.2.2.2.1.trans (keeps_below hb22)) (And.intro (F20.out.2.2.2.2.2.2.2.2.2.below hb22) (ho22)))))))))))
          clear F20
          clear hb22 ho22
          gi_wp2
          generalize hq22 : w19.heap.size = q22 at *
          clear hq22
          generalize w19.alloc (.cells #[.slice oa3 PC.length c3] 27) = w22 at *
          refine inAny_one 4 (by kernel_rfl) ?_
          simp only [pick, List.getD_cons_zero, List.getD_cons_succ]
          obtain ⟨oa9, c9, hv9, -, -, hs9, -⟩ := F23.out.2.2.2.2.2.2.2.2.2.2.sl
          simp only [Value.slice.injEq] at hv9
          obtain ⟨rfl, -, rfl⟩ := hv9
          have hvl : vs.length ≤ 5000 := by
            have h1 := F23.out.2.2.2.1.len
            simp only [pcs, List.length_map, List.length_range] at h1
            have h2 := HM.out
            have h3 : i ≤ i * z := Nat.le_mul_of_pos_right _ (by omega)
            have h4 := HA.out.2.2.2.2.2
            omega
          refine append_listIn T42 rfl _ _ rfl (base := w.heap.size) (m := 1) rfl F23.out.2.2.1 rfl hs9 (by omega) (by unfold maxLen; omega) (by omega) F23.out.1.size ?_
          intro v24 w24 ho24 hb24 he24 hg24
          have hk24 := rh_keep5 F23.out.2.2.1 hb24.size (fun bad h1 h2 => (he24 bad h1 h2).2)
          have h7 := he24 q1 F23.out.2.2.2.2.1.1 (lt_of_blk F23.out.2.1)
          have h8 := he24 (q1 + 1) F23.out.2.2.2.2.1.2.1 (lt_of_blk F23.out.2.2.2.2.2.2.1)
          have h9 := he24 (q1 + 1 + 1) F23.out.2.2.2.2.1.2.2 (lt_of_blk F23.out.2.2.2.2.2.2.2.1)
          have hkf : KeepsFrom w4.heap.size w22 w24 := ⟨hb24.size, fun k o hk hok hcc => (hg24.block k (lt_of_blk hok) (fun e => by
            obtain ⟨cur, hcur⟩ := own_cells F23.out.2.2.1 e.symm
            rw [hok] at hcur; injection hcur with hcur; subst hcur; cases hcc)).trans hok⟩
          have F25 := Lib.hid (And.intro (F23.out.1.trans hb24) (And.intro (h7.2.trans F23.out.2.1) (And.intro ho24 (And.intro ((F23.out.2.2.2.1.keep hk24).snoc (F23.out.2.2.2.2.2.2.2.2.2.1.keep hk24) HPC.out.2) (And.intro (And.intro h7.1 (And.intro h8.1 h9.1)) (And.intro (show BxS (q1 + 1) (.slice (some ⟨b, o + m, none⟩) (n - m) (c - m)) 27 w24 from h8.2.trans F23.out.2.2.2.2.2.2.1) (And.intro (show BxS (q1 + 1 + 1) (.int .i64 (z : Int)) 3 w24 from h9.2.trans F23.out.2.2.2.2.2.2.2.1) ((F23.out.2.2.2.2.2.2.2.2.1.trans hkf)))))))))
          clear F23
          clear ho24 hb24 he24 hg24 hk24 h7 h8 h9 hkf hs9
          gi_wp2
          refine inAny_one 5 (by kernel_rfl) ?_
          simp only [pick, List.getD_cons_zero, List.getD_cons_succ]
          obtain ⟨oa5, n5, c5, rfl⟩ : ∃ oa n c, v24 = .slice oa n c := by
            obtain ⟨oa, c, h, -⟩ := F25.out.2.2.1.sl
            exact ⟨_, _, _, h⟩
          have f7 : w24.frozen? ⟨q1, 0, none⟩ = false := free_of F25.out.2.1
          have e7 := cell_of (o := 0) F25.out.2.1 rfl
          have hset := (SetB.self F25.out.2.1).store (o := 0) (lt_of_blk F25.out.2.1) (.slice oa5 n5 c5)
          have h7z := setCell_blk F25.out.2.1 0 (.slice oa5 n5 c5)
          have hkf : KeepsFrom w4.heap.size w24 (w24.setCell ⟨q1, 0, none⟩ (.slice oa5 n5 c5)) := ⟨by rw [hset.size]; exact Nat.le_refl _, fun k o hk hok hcc => (hset.other (by omega)).trans hok⟩
          have F26 := Lib.hid (And.intro (F25.out.1.trans (hset.below hws)) (And.intro h7z (And.intro (F25.out.2.2.1.keep (fun b hb => hset.other (fun e => F25.out.2.2.2.2.1.1 (e ▸ hb)))) (And.intro (F25.out.2.2.2.1.keep (.of_set hset F25.out.2.1 (by decide))) (And.intro F25.out.2.2.2.2.1 (And.intro (show BxS (q1 + 1) (.slice (some ⟨b, o + m, none⟩) (n - m) (c - m)) 27 (w24.setCell ⟨q1, 0, none⟩ (.slice oa5 n5 c5)) from (hset.other (by omega)).trans F25.out.2.2.2.2.2.1) (And.intro (show BxS (q1 + 1 + 1) (.int .i64 (z : Int)) 3 (w24.setCell ⟨q1, 0, none⟩ (.slice oa5 n5 c5)) from (hset.other (by omega)).trans F25.out.2.2.2.2.2.2.1) ((F25.out.2.2.2.2.2.2.2.trans hkf)))))))))
          clear F25
          clear hset h7z hkf
          gi_wp2
          refine wpAnyIn_done (by kernel_rfl) ?_ _
          refine ⟨rfl, F26.out.2.2.2.2.2.2.2, ⟨F26.out.1, _, _, F26.out.2.1, F26.out.2.2.1, ?_, F26.out.2.2.2.2.1⟩, F26.out.2.2.2.2.2.1, F26.out.2.2.2.2.2.2.1⟩
          have hps := F26.out.2.2.2.1
          rw [pcs_succ]
          unfold pc
          rw [← HM.out.1, ← HPC.out.1]
          exact hps
        · simp only [pick, List.getD_cons_zero, List.getD_cons_succ]
          have hb27 := (Below.refl w19.heap.size w19).alloc (Nat.le_refl _) (.cells #[.slice oa3 PC.length c3] 27)
          have ho27 : RH.Own (w19.alloc (.cells #[.slice oa3 PC.length c3] 27)) w.heap.size (.slice (some ⟨w19.heap.size, 0, none⟩) 1 1) [(oa3, PC.length, c3)] := ⟨rfl, .inr ⟨w19.heap.size, 1, #[.slice oa3 PC.length c3], rfl, F20.out.1.size, hnew _ _, Nat.le_refl _, by unfold maxLen; omega, rfl, rfl⟩⟩
          have F28 := Lib.hid (And.intro (bcall F20.out.1 (Nat.le_refl _) hb27) (And.intro ((hb27.block _ (lt_of_blk F20.out.2.1)).trans F20.out.2.1) (And.intro (F20.out.2.2.1.below hb27) (And.intro (F20.out.2.2.2.1.keep (.of_below hb27)) (And.intro F20.out.2.2.2.2.1 (And.intro (F20.out.2.2.2.2.2.1.keep hb27) (And.intro ((hb27.block _ (lt_of_blk F20.out.2.2.2.2.2.2.1)).trans F20.out.2.2.2.2.2.2.1) (And.intro ((hb27.block _ (lt_of_blk F20.out.2.2.2.2.2.2.2.1)).trans F20.out.2.2.2.2.2.2.2.1) (And.intro (F20.out.2.2.2.2.2.2.2.2.1.trans (keeps_below hb27)) (And.intro (F20.out.2.2.2.2.2.2.2.2.2.below hb27) (ho27)))))))))))
          clear F20
          clear hb27 ho27
          gi_wp2
          generalize hq27 : w19.heap.size = q27 at *
          clear hq27
          generalize w19.alloc (.cells #[.slice oa3 PC.length c3] 27) = w27 at *
          refine inAny_one 0 (by kernel_rfl) ?_
          simp only [pick, List.getD_cons_zero]
          have e7 := cell_of (o := 0) F28.out.2.1 rfl
          gi_wp2
          clear e7
          refine inAny_one 4 (by kernel_rfl) ?_
          simp only [pick, List.getD_cons_zero, List.getD_cons_succ]
          obtain ⟨oa9, c9, hv9, -, -, hs9, -⟩ := F28.out.2.2.2.2.2.2.2.2.2.2.sl
          simp only [Value.slice.injEq] at hv9
          obtain ⟨rfl, -, rfl⟩ := hv9
          have hvl : vs.length ≤ 5000 := by
            have h1 := F28.out.2.2.2.1.len
            simp only [pcs, List.length_map, List.length_range] at h1
            have h2 := HM.out
            have h3 : i ≤ i * z := Nat.le_mul_of_pos_right _ (by omega)
            have h4 := HA.out.2.2.2.2.2
            omega
          refine append_listIn T42 rfl _ _ rfl (base := w.heap.size) (m := 1) rfl F28.out.2.2.1 rfl hs9 (by omega) (by unfold maxLen; omega) (by omega) F28.out.1.size ?_
          intro v30 w30 ho30 hb30 he30 hg30
          have hk30 := rh_keep5 F28.out.2.2.1 hb30.size (fun bad h1 h2 => (he30 bad h1 h2).2)
          have h7 := he30 q1 F28.out.2.2.2.2.1.1 (lt_of_blk F28.out.2.1)
          have h8 := he30 (q1 + 1) F28.out.2.2.2.2.1.2.1 (lt_of_blk F28.out.2.2.2.2.2.2.1)
          have h9 := he30 (q1 + 1 + 1) F28.out.2.2.2.2.1.2.2 (lt_of_blk F28.out.2.2.2.2.2.2.2.1)
          have hkf : KeepsFrom w4.heap.size w27 w30 := ⟨hb30.size, fun k o hk hok hcc => (hg30.block k (lt_of_blk hok) (fun e => by
            obtain ⟨cur, hcur⟩ := own_cells F28.out.2.2.1 e.symm
            rw [hok] at hcur; injection hcur with hcur; subst hcur; cases hcc)).trans hok⟩
          have F31 := Lib.hid (And.intro (F28.out.1.trans hb30) (And.intro (h7.2.trans F28.out.2.1) (And.intro ho30 (And.intro ((F28.out.2.2.2.1.keep hk30).snoc (F28.out.2.2.2.2.2.2.2.2.2.1.keep hk30) HPC.out.2) (And.intro (And.intro h7.1 (And.intro h8.1 h9.1)) (And.intro (show BxS (q1 + 1) (.slice (some ⟨b, o + m, none⟩) (n - m) (c - m)) 27 w30 from h8.2.trans F28.out.2.2.2.2.2.2.1) (And.intro (show BxS (q1 + 1 + 1) (.int .i64 (z : Int)) 3 w30 from h9.2.trans F28.out.2.2.2.2.2.2.2.1) ((F28.out.2.2.2.2.2.2.2.2.1.trans hkf)))))))))
          clear F28
          clear ho30 hb30 he30 hg30 hk30 h7 h8 h9 hkf hs9
          gi_wp2
          refine inAny_one 5 (by kernel_rfl) ?_
          simp only [pick, List.getD_cons_zero, List.getD_cons_succ]
          obtain ⟨oa5, n5, c5, rfl⟩ : ∃ oa n c, v30 = .slice oa n c := by
            obtain ⟨oa, c, h, -⟩ := F31.out.2.2.1.sl
            exact ⟨_, _, _, h⟩
          have f7 : w30.frozen? ⟨q1, 0, none⟩ = false := free_of F31.out.2.1
          have e7 := cell_of (o := 0) F31.out.2.1 rfl
          have hset := (SetB.self F31.out.2.1).store (o := 0) (lt_of_blk F31.out.2.1) (.slice oa5 n5 c5)
          have h7z := setCell_blk F31.out.2.1 0 (.slice oa5 n5 c5)
          have hkf : KeepsFrom w4.heap.size w30 (w30.setCell ⟨q1, 0, none⟩ (.slice oa5 n5 c5)) := ⟨by rw [hset.size]; exact Nat.le_refl _, fun k o hk hok hcc => (hset.other (by omega)).trans hok⟩
          have F32 := Lib.hid (And.intro (F31.out.1.trans (hset.below hws)) (And.intro h7z (And.intro (F31.out.2.2.1.keep (fun b hb => hset.other (fun e => F31.out.2.2.2.2.1.1 (e ▸ hb)))) (And.intro (F31.out.2.2.2.1.keep (.of_set hset F31.out.2.1 (by decide))) (And.intro F31.out.2.2.2.2.1 (And.intro (show BxS (q1 + 1) (.slice (some ⟨b, o + m, none⟩) (n - m) (c - m)) 27 (w30.setCell ⟨q1, 0, none⟩ (.slice oa5 n5 c5)) from (hset.other (by omega)).trans F31.out.2.2.2.2.2.1) (And.intro (show BxS (q1 + 1 + 1) (.int .i64 (z : Int)) 3 (w30.setCell ⟨q1, 0, none⟩ (.slice oa5 n5 c5)) from (hset.other (by omega)).trans F31.out.2.2.2.2.2.2.1) ((F31.out.2.2.2.2.2.2.2.trans hkf)))))))))
          clear F31
          clear hset h7z hkf
          gi_wp2
          refine wpAnyIn_done (by kernel_rfl) ?_ _
          refine ⟨rfl, F32.out.2.2.2.2.2.2.2, ⟨F32.out.1, _, _, F32.out.2.1, F32.out.2.2.1, ?_, F32.out.2.2.2.2.1⟩, F32.out.2.2.2.2.2.1, F32.out.2.2.2.2.2.2.1⟩
          have hps := F32.out.2.2.2.1
          rw [pcs_succ]
          unfold pc
          rw [← HM.out.1, ← HPC.out.1]
          exact hps
  case hiter =>
    intro lq D r W1 hl hD hb hL hY
    have hb1 := HC.out.1.trans (hb.mono HC.out.1.size)
    have hu0 : RcU w q1 (q1 + 1) (q1 + 1 + 1) z l 0 W1 := ⟨hb1, .slice none 0 0, [], (hb.block _ (lt_of_blk HC.out.2.1)).trans HC.out.2.1, Rep.Own.nil _ _, PSS.nil _, (by intro h; cases h), (by intro h; cases h), (by intro h; cases h)⟩
    have hoa : 0 < n → ∃ b o, oa = some ⟨b, o, none⟩ := fun h => HA.out.2.2.1.ad h
    refine (pieces_iter (j := 5) lq D r (q1 + 1) (q1 + 1 + 1) oa n c z (fun k W => RcU w q1 (q1 + 1) (q1 + 1 + 1) z l k W) W1 HA.out.2.2.2.2.1.1 hoa HA.out.2.2.1.le HA.out.2.2.1.cap HA.out.2.2.2.2.1.2 (by omega) (by omega) (by omega) (fun k W v h hx => by obtain ⟨v0, hx⟩ := hx; exact h.set (by omega) (by omega) hx) ((hb.block _ (lt_of_blk HC.out.2.2.1)).trans HC.out.2.2.1) ((hb.block _ (lt_of_blk HC.out.2.2.2)).trans HC.out.2.2.2) hu0 hL ?_).mono ?_
    · intro i W hi hu hx1 hx2 hL
      obtain ⟨fn, tmps, assign, body, hy, hR⟩ := hY i W ⟨hi, hu, hx1, hx2⟩ hL
      exact ⟨fn, tmps, assign, body, hy, hR.mono (fun e W' h => ⟨h.1, h.2.1.1, h.2.1.2.1, h.2.1.2.2, h.2.2⟩)⟩
    · rintro e W' ⟨h1, h2, h3⟩
      exact ⟨h1, h2, h3⟩
  case hdone =>
    intro D W hD hE hdef
    obtain ⟨hbel, v, vs, hv, hown, hps, -⟩ := hE
    have hc := cell_of (o := 0) hv rfl
    have HE := Lib.hid (And.intro hbel (And.intro hown hps))
    clear hbel hv hown hps
    gi_wp2
    refine ⟨by simp, .inl ⟨_, _, rfl, run_takeDeferred hdef, ?_⟩⟩
    have hp := own_put (o' := .deferred none) HE.out.2.1 HE.out.2.2 hdef rfl
    exact ⟨_, results_tmp2 rfl _ _ _, ⟨v, vs, rfl, hp.1, hp.2⟩, below_put HE.out.1 (by omega)⟩
end Go.Proofs.Ytjjhnnnpikfjpaa
