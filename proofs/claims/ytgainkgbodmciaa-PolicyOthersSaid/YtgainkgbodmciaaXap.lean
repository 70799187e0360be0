/- The reference's Same of one option, and itself. -/
import Derived.Test.YtgainkgbodmciaaXao
import Derived.Test.YtgainkgbodmciaaXaa
import Derived.Laws.Tables
import Derived.Test.YtgainkgbodmciaaXaj
namespace Go.Proofs.Ytgainkgbodmciaa
open Go.RowKit

def OptC (b : Nat) (x : Rt) (k : Int) (w : World) : Prop := w.cell? ⟨b, 0, none⟩ = some (.int .i64 x.r) ∧ w.cell? ⟨b, 1, none⟩ = some (.int .u32 x.a) ∧ w.cell? ⟨b, 2, none⟩ = some (.int .i64 x.l) ∧ w.cell? ⟨b, 3, none⟩ = some (.int .i64 x.i) ∧ w.cell? ⟨b, 4, none⟩ = some (.int .i64 x.o) ∧ w.cell? ⟨b, 5, none⟩ = some (.slice x.pa x.pn x.pc) ∧ w.cell? ⟨b, 6, none⟩ = some (.int .u32 x.nx) ∧ w.cell? ⟨b, 7, none⟩ = some (.int .i64 x.md) ∧ w.cell? ⟨b, 8, none⟩ = some (.int .i64 x.pf) ∧ w.cell? ⟨b, 9, none⟩ = some (.slice x.ca x.cn x.cc) ∧ w.cell? ⟨b, 10, none⟩ = some (.int .i64 k)
theorem optC_of {b : Nat} {x : Rt} {k : Int} {w : World} {T : TypeId} {fr : Nat × Nat} (h : w.heap[b]? = some (.cells #[.int .i64 x.r, .int .u32 x.a, .int .i64 x.l, .int .i64 x.i, .int .i64 x.o, .slice x.pa x.pn x.pc, .int .u32 x.nx, .int .i64 x.md, .int .i64 x.pf, .slice x.ca x.cn x.cc, .int .i64 k] T fr)) : OptC b x k w := ⟨cell_of h rfl, cell_of h rfl, cell_of h rfl, cell_of h rfl, cell_of h rfl, cell_of h rfl, cell_of h rfl, cell_of h rfl, cell_of h rfl, cell_of h rfl, cell_of h rfl⟩
set_option maxRecDepth 100000 in
set_option maxHeartbeats 2000000 in
theorem same1 {w : World} {p q c1 c2 : Nat} {x : Rt} {k : Int} {T1 T2 : TypeId} {f1 f2 : Nat × Nat} (hp : w.heap[p]? = some (.cells #[.int .i64 x.r, .int .u32 x.a, .int .i64 x.l, .int .i64 x.i, .int .i64 x.o, .slice x.pa x.pn x.pc, .int .u32 x.nx, .int .i64 x.md, .int .i64 x.pf, .slice x.ca x.cn x.cc, .int .i64 k] T1 f1)) (hq : w.heap[q]? = some (.cells #[.int .i64 x.r, .int .u32 x.a, .int .i64 x.l, .int .i64 x.i, .int .i64 x.o, .slice x.pa x.pn x.pc, .int .u32 x.nx, .int .i64 x.md, .int .i64 x.pf, .slice x.ca x.cn x.cc, .int .i64 k] T2 f2)) {B : Nat} (hB : B ≤ w.heap.size) (hx : RtOk w B x) : Calls Try.prog 13 #[.slice (some ⟨p, 0, none⟩) 1 c1, .slice (some ⟨q, 0, none⟩) 1 c2] w fun e w' => e = .returned (.bool true) ∧ Below w.heap.size w w' := by
  have hc : ∀ w', Below w.heap.size w w' → OptC p x k w' ∧ OptC q x k w' := fun w' hw' => ⟨optC_of ((hw'.block _ (lt_of_blk hp)).trans hp), optC_of ((hw'.block _ (lt_of_blk hq)).trans hq)⟩
  have HX := Lib.hid hc
  have HR := Lib.hid (And.intro hB hx)
  clear hp hq hc hB hx
  go_enter Try.func13, Try.ntmps13
  go_wp2_with fail
  go_loopw [5] (fun iv wr => ∃ i : Nat, i ≤ 1 ∧ iv = .int .i64 i ∧ Below w.heap.size w wr) (fun iv _ => 1 - (intOf iv).toNat)
  case atStart => exact ⟨0, by omega, rfl, Below.refl _ _⟩
  case round =>
    obtain ⟨i, hi, rfl, hb⟩ := hrel
    by_cases hlt : i < 1
    · obtain rfl : i = 0 := by omega
      rw [show ((0 : Nat) : Int) = 0 from rfl]
      have hd := (Below.refl wr.heap.size wr).drew
      have HB := Lib.hid (bcall hb (Nat.le_refl _) hd)
      clear hb hd
      go_wp2_with fail
      refine wp_region_heldP (Below w.heap.size w) (by kernel_rfl) ?_
      generalize wr.drew = w3 at *
      refine held_reads [0, 1, 2, 3, 4, 5, 6, 7, 8, 9, 10, 11, 12, 13, 14, 15, 16, 18, 19, 20, 21, 22] (g := 5) rfl (by kernel_rfl) HB.out (fun _ _ d _ _ h => by cases d <;> exact h) ?_
      simp only [pick, List.getD_cons_zero, List.getD_cons_succ]
      iterate 22 ((with_reducible refine wpRead_step (fun K hK => ?_)); go_simp; first | ((with_reducible refine hK _ ?_); clear hK K) | (apply Exists.intro; (with_reducible refine ⟨fun w' hw' => ?_, hK _ ?_⟩); (obtain ⟨⟨f0, f1, f2, f3, f4, f5, f6, f7, f8, f9, f10⟩, e0, e1, e2, e3, e4, e5, e6, e7, e8, e9, e10⟩ := HX.out _ hw'; go_simp; first | exact rfl | exact ⟨rfl, rfl⟩); clear hK K))
      with_reducible refine wpRead_nil ?_
      refine held_two 17 23 (by kernel_rfl) ?_ ?_
      · simp only [pick, List.getD_cons_zero, List.getD_cons_succ]
        go_wp2_with fail
        have hal := (Below.refl w3.heap.size w3).alloc (Nat.le_refl _) (.cells #[.int .i64 x.r, .int .u32 x.a, .int .i64 x.l, .int .i64 x.i, .int .i64 x.o, .slice x.pa x.pn x.pc, .int .u32 x.nx, .int .i64 x.md, .int .i64 x.pf, .slice x.ca x.cn x.cc] 44)
        have hone : R40.Sl (w3.alloc (.cells #[.int .i64 x.r, .int .u32 x.a, .int .i64 x.l, .int .i64 x.i, .int .i64 x.o, .slice x.pa x.pn x.pc, .int .u32 x.nx, .int .i64 x.md, .int .i64 x.pf, .slice x.ca x.cn x.cc] 44)) (some ⟨w3.heap.size, 0, none⟩) 1 1 [x] := Rep.sl_one (R := R40) (y := x) (hnew _ _)
        have HB := Lib.hid (And.intro (bcall HB.out (Nat.le_refl _) hal) hone)
        clear hal hone
        generalize w3.alloc (.cells #[.int .i64 x.r, .int .u32 x.a, .int .i64 x.l, .int .i64 x.i, .int .i64 x.o, .slice x.pa x.pn x.pc, .int .u32 x.nx, .int .i64 x.md, .int .i64 x.pf, .slice x.ca x.cn x.cc] 44) = w4 at *
        generalize w3.heap.size = qw4 at *
        refine ⟨HB.out.1, ?_⟩
        refine held_one 23 (by kernel_rfl) ?_
        simp only [pick, List.getD_cons_zero, List.getD_cons_succ]
        go_wp2_with fail
        have hal := (Below.refl w4.heap.size w4).alloc (Nat.le_refl _) (.cells #[.int .i64 x.r, .int .u32 x.a, .int .i64 x.l, .int .i64 x.i, .int .i64 x.o, .slice x.pa x.pn x.pc, .int .u32 x.nx, .int .i64 x.md, .int .i64 x.pf, .slice x.ca x.cn x.cc] 44)
        have hone : R40.Sl (w4.alloc (.cells #[.int .i64 x.r, .int .u32 x.a, .int .i64 x.l, .int .i64 x.i, .int .i64 x.o, .slice x.pa x.pn x.pc, .int .u32 x.nx, .int .i64 x.md, .int .i64 x.pf, .slice x.ca x.cn x.cc] 44)) (some ⟨w4.heap.size, 0, none⟩) 1 1 [x] := Rep.sl_one (R := R40) (y := x) (hnew _ _)
        have HB := Lib.hid (And.intro (bcall HB.out.1 (Nat.le_refl _) hal) (And.intro (HB.out.2.keep hal) hone))
        clear hal hone
        generalize w4.alloc (.cells #[.int .i64 x.r, .int .u32 x.a, .int .i64 x.l, .int .i64 x.i, .int .i64 x.o, .slice x.pa x.pn x.pc, .int .u32 x.nx, .int .i64 x.md, .int .i64 x.pf, .slice x.ca x.cn x.cc] 44) = w5 at *
        generalize w4.heap.size = qw5 at *
        refine ⟨HB.out.1, ?_⟩
        refine held_one 24 (by kernel_rfl) ?_
        simp only [pick, List.getD_cons_zero, List.getD_cons_succ]
        go_wp2_with fail
        refine (sameRoutes_self _ _ 1 _ _ [x] w5 B (Nat.le_trans HR.out.1 HB.out.1.size) HB.out.2.1 HB.out.2.2 (fun y hy => by obtain rfl := List.mem_singleton.1 hy; exact HR.out.2.below (HB.out.1.mono HR.out.1))).mono ?_
        rintro e w6 ⟨rfl, hb6⟩
        have HB6 := Lib.hid (bcall HB.out.1 (Nat.le_refl _) hb6)
        clear hb6 HB
        go_wp2_with fail
        refine ⟨HB6.out, ?_⟩
        refine held_one 25 (by kernel_rfl) ?_
        simp only [pick, List.getD_cons_zero, List.getD_cons_succ]
        go_wp2_with fail
        refine ⟨HB6.out, ?_⟩
        refine held_one 26 (by kernel_rfl) ?_
        simp only [pick, List.getD_cons_zero, List.getD_cons_succ]
        go_wp2_with fail
        refine ⟨HB6.out, ?_⟩
        refine wpAnyH_done (by kernel_rfl) ?_ _
        go_wp2_with fail
        exact ⟨⟨1, Nat.le_refl _, rfl, HB6.out⟩, by decide⟩
      · simp only [pick, List.getD_cons_zero, List.getD_cons_succ]
        go_wp2_with fail
        have hal := (Below.refl w3.heap.size w3).alloc (Nat.le_refl _) (.cells #[.int .i64 x.r, .int .u32 x.a, .int .i64 x.l, .int .i64 x.i, .int .i64 x.o, .slice x.pa x.pn x.pc, .int .u32 x.nx, .int .i64 x.md, .int .i64 x.pf, .slice x.ca x.cn x.cc] 44)
        have hone : R40.Sl (w3.alloc (.cells #[.int .i64 x.r, .int .u32 x.a, .int .i64 x.l, .int .i64 x.i, .int .i64 x.o, .slice x.pa x.pn x.pc, .int .u32 x.nx, .int .i64 x.md, .int .i64 x.pf, .slice x.ca x.cn x.cc] 44)) (some ⟨w3.heap.size, 0, none⟩) 1 1 [x] := Rep.sl_one (R := R40) (y := x) (hnew _ _)
        have HB := Lib.hid (And.intro (bcall HB.out (Nat.le_refl _) hal) hone)
        clear hal hone
        generalize w3.alloc (.cells #[.int .i64 x.r, .int .u32 x.a, .int .i64 x.l, .int .i64 x.i, .int .i64 x.o, .slice x.pa x.pn x.pc, .int .u32 x.nx, .int .i64 x.md, .int .i64 x.pf, .slice x.ca x.cn x.cc] 44) = w4 at *
        generalize w3.heap.size = qw4 at *
        refine ⟨HB.out.1, ?_⟩
        refine held_one 17 (by kernel_rfl) ?_
        simp only [pick, List.getD_cons_zero, List.getD_cons_succ]
        go_wp2_with fail
        have hal := (Below.refl w4.heap.size w4).alloc (Nat.le_refl _) (.cells #[.int .i64 x.r, .int .u32 x.a, .int .i64 x.l, .int .i64 x.i, .int .i64 x.o, .slice x.pa x.pn x.pc, .int .u32 x.nx, .int .i64 x.md, .int .i64 x.pf, .slice x.ca x.cn x.cc] 44)
        have hone : R40.Sl (w4.alloc (.cells #[.int .i64 x.r, .int .u32 x.a, .int .i64 x.l, .int .i64 x.i, .int .i64 x.o, .slice x.pa x.pn x.pc, .int .u32 x.nx, .int .i64 x.md, .int .i64 x.pf, .slice x.ca x.cn x.cc] 44)) (some ⟨w4.heap.size, 0, none⟩) 1 1 [x] := Rep.sl_one (R := R40) (y := x) (hnew _ _)
        have HB := Lib.hid (And.intro (bcall HB.out.1 (Nat.le_refl _) hal) (And.intro (HB.out.2.keep hal) hone))
        clear hal hone
        generalize w4.alloc (.cells #[.int .i64 x.r, .int .u32 x.a, .int .i64 x.l, .int .i64 x.i, .int .i64 x.o, .slice x.pa x.pn x.pc, .int .u32 x.nx, .int .i64 x.md, .int .i64 x.pf, .slice x.ca x.cn x.cc] 44) = w5 at *
        generalize w4.heap.size = qw5 at *
        refine ⟨HB.out.1, ?_⟩
        refine held_one 24 (by kernel_rfl) ?_
        simp only [pick, List.getD_cons_zero, List.getD_cons_succ]
        go_wp2_with fail
        refine (sameRoutes_self _ _ 1 _ _ [x] w5 B (Nat.le_trans HR.out.1 HB.out.1.size) HB.out.2.2 HB.out.2.1 (fun y hy => by obtain rfl := List.mem_singleton.1 hy; exact HR.out.2.below (HB.out.1.mono HR.out.1))).mono ?_
        rintro e w6 ⟨rfl, hb6⟩
        have HB6 := Lib.hid (bcall HB.out.1 (Nat.le_refl _) hb6)
        clear hb6 HB
        go_wp2_with fail
        refine ⟨HB6.out, ?_⟩
        refine held_one 25 (by kernel_rfl) ?_
        simp only [pick, List.getD_cons_zero, List.getD_cons_succ]
        go_wp2_with fail
        refine ⟨HB6.out, ?_⟩
        refine held_one 26 (by kernel_rfl) ?_
        simp only [pick, List.getD_cons_zero, List.getD_cons_succ]
        go_wp2_with fail
        refine ⟨HB6.out, ?_⟩
        refine wpAnyH_done (by kernel_rfl) ?_ _
        go_wp2_with fail
        exact ⟨⟨1, Nat.le_refl _, rfl, HB6.out⟩, by decide⟩
    · obtain rfl : i = 1 := by omega
      rw [show ((1 : Nat) : Int) = 1 from rfl]
      have HB := Lib.hid hb
      clear hb
      go_wp2_with fail
      go_ret
      exact ⟨rfl, HB.out⟩
end Go.Proofs.Ytgainkgbodmciaa
/- Great structs: an aggregate known by a few of its cells: loaded whole, built, with its cells out of sight. -/
namespace Go.Proofs.Ytgainkgbodmciaa
open Go.RowKit

section
variable {P : Program} {ops : Array Oper} {rest : List Oper} {o : Oper} {a : Act} {Q : Exit → Act → World → Prop} {w : World}
theorem halt_load (ty : TypeId) {x : Operand} (_ho : o.op = .load ty x) (h : Halted (wpList P ops Q (o :: rest) a w)) : wpList P ops Q (o :: rest) a w := h
theorem halt_build (ty : TypeId) {x : Array (Nat × Operand)} (_ho : o.op = .build ty x) (h : Halted (wpList P ops Q (o :: rest) a w)) : wpList P ops Q (o :: rest) a w := h
theorem load_whole (hgd : o.guard = none) (ty : TypeId) (x : Operand) (ho : o.op = .load ty x) (b : Nat) (cells : Array Value) (hx : a.eval x = .pointer (some ⟨b, 0, none⟩))
    {T : TypeId} {fr : Nat × Nat} (hb : w.heap[b]? = some (.cells cells T fr)) {d : TypeDesc} (hu : P.underlying ty = some d) (hd : d.isRow = true) (hi : (P.info? ty).map (·.size) = some cells.size)
    (h : wpList P ops Q rest (a.put o.dst (.agg cells)) w) : wpList P ops Q (o :: rest) a w :=
  wpList_plain hgd fun K hK => by
    have hk := hK _ _ h
    unfold Oper.wp execOp
    have hr := run_load_whole (P := P) (ty := ty) hb hu hd hi
    have hl : (Instr.loadAt ty (.pointer (some ⟨b, 0, none⟩))).run P w = .ok (.agg cells) w := by
      simp only [Instr.loadAt, Instr.sureAddr, Sem.run_bind, Sem.run_pure, Result.andThen_ok]
      exact hr
    simp only [ho, hx, Sem.run_bind, hl, Sem.run_pure, Result.andThen_ok]
    exact hk
theorem exec_load_whole (ty : TypeId) (x : Operand) (ho : o.op = .load ty x) (b : Nat) (cells : Array Value) (hx : a.eval x = .pointer (some ⟨b, 0, none⟩))
    {T : TypeId} {fr : Nat × Nat} (hb : w.heap[b]? = some (.cells cells T fr)) {d : TypeDesc} (hu : P.underlying ty = some d) (hd : d.isRow = true) (hi : (P.info? ty).map (·.size) = some cells.size) : (execOp a.eval o).run P w = .ok (.value (.agg cells)) w := by
  have hl : (Instr.loadAt ty (.pointer (some ⟨b, 0, none⟩))).run P w = .ok (.agg cells) w := by
    simp only [Instr.loadAt, Instr.sureAddr, Sem.run_bind, Sem.run_pure, Result.andThen_ok]
    exact run_load_whole (P := P) (ty := ty) hb hu hd hi
  unfold execOp
  simp only [ho, hx, Sem.run_bind, hl, Sem.run_pure, Result.andThen_ok]
theorem exec_build (ty : TypeId) (x : Array (Nat × Operand)) (ho : o.op = .build ty x) (cells : Array Value) (hp : P.built ty (x.toList.map (fun p => (p.1, a.eval p.2))) = some cells) : (execOp a.eval o).run P w = .ok (.value (.agg cells)) w := by
  have hl := run_build (P := P) w ty (x.map (fun p => (p.1, a.eval p.2))) cells (by rw [Array.toList_map]; exact hp)
  unfold execOp
  simp only [ho, Sem.run_bind, hl, Sem.run_pure, Result.andThen_ok]
/-- an operation that yields a value -/
theorem op_value (hgd : o.guard = none) (v : Value) (hrun : (execOp a.eval o).run P w = .ok (.value v) w) (h : wpList P ops Q rest (a.put o.dst v) w) : wpList P ops Q (o :: rest) a w :=
  wpList_plain hgd fun K hK => by
    have hk := hK _ _ h
    unfold Oper.wp
    rw [hrun]
    exact hk
end
/-- the cells v are laid from off on -/
theorem lay_get (l : List Value) : ∀ (k off : Nat) (cs : Array Value), ((l.zipIdx k).foldl (fun cs (p : Value × Nat) => cs.setIfInBounds (off + p.2) p.1) cs).size = cs.size ∧
    ∀ j, off + k + l.length ≤ cs.size → ((l.zipIdx k).foldl (fun cs (p : Value × Nat) => cs.setIfInBounds (off + p.2) p.1) cs)[j]? = if off + k ≤ j ∧ j < off + k + l.length then l[j - (off + k)]? else cs[j]? := by
  induction l with
  | nil => intro k off cs; exact ⟨rfl, fun j _ => by rw [if_neg (by simp)]; rfl⟩
  | cons x r ih =>
    intro k off cs
    obtain ⟨h1, h2⟩ := ih (k + 1) off (cs.setIfInBounds (off + k) x)
    rw [List.zipIdx_cons, List.foldl_cons]
    refine ⟨by rw [h1]; simp, fun j hj => ?_⟩
    rw [List.length_cons] at hj ⊢
    rw [h2 j (by simp; omega), Array.getElem?_setIfInBounds]
    by_cases e : off + k = j
    · subst e
      rw [if_neg (by omega), if_pos rfl, if_pos (by omega), if_pos (by omega)]
      simp
    · by_cases c : off + (k + 1) ≤ j ∧ j < off + (k + 1) + r.length
      · rw [if_pos c, if_pos (by omega)]
        rw [show j - (off + k) = (j - (off + (k + 1))) + 1 by omega, List.getElem?_cons_succ]
      · rw [if_neg c, if_neg e, if_neg (by omega)]
theorem lay_arr (v : Array Value) (off : Nat) (cs : Array Value) : (v.zipIdx.foldl (fun cs (p : Value × Nat) => cs.setIfInBounds (off + p.2) p.1) cs).size = cs.size ∧
    ∀ j, off + v.size ≤ cs.size → (v.zipIdx.foldl (fun cs (p : Value × Nat) => cs.setIfInBounds (off + p.2) p.1) cs)[j]? = if off ≤ j ∧ j < off + v.size then v[j - off]? else cs[j]? := by
  have h := lay_get v.toList 0 off cs
  rw [← Array.foldl_toList, Array.toList_zipIdx]
  refine ⟨h.1, fun j hj => ?_⟩
  have h2 := h.2 j (by simpa using hj)
  simp only [Nat.add_zero, Array.length_toList, Array.getElem?_toList] at h2
  exact h2
end Go.Proofs.Ytgainkgbodmciaa
/- Settings; large. -/
namespace Go.Proofs.Ytgainkgbodmciaa
open Go.RowKit

/-- settings: few of their cells are looked at -/
structure CfA (C : Array Value) (lg : Int) (im : Nat) (da : Option Addr) (dn dc : Nat) : Prop where
  size : C.size = 20
  c7 : ∃ ia ic, C[7]? = some (.slice ia im ic)
  c16 : C[16]? = some (.int .i64 lg)
  c17 : C[17]? = some (.slice da dn dc)
  one : C.all (·.oneCell') = true
  im : im ≤ maxLen
  dn : dn ≤ maxLen
theorem rlargeC_any {C : Array Value} {lg : Int} {im : Nat} {da : Option Addr} {dn dc : Nat} (H : CfA C lg im da dn dc) (w : World) : Calls Try.prog 15 #[.agg C] w fun e w' => e = .returned (.bool (decide (60 < im) || decide (60 < dn))) ∧ Below w.heap.size w w' := by
  have h1 := H.im
  have h2 := H.dn
  unfold maxLen at h1 h2
  generalize hb : (decide (60 < im) || decide (60 < dn)) = b
  have HBb := Lib.hid hb
  clear hb
  have hal := (Below.refl w.heap.size w).alloc (Nat.le_refl _) (.cells C 26)
  obtain ⟨ia, ic, h7⟩ := H.c7
  have k7 : (w.alloc (.cells C 26)).cell? ⟨w.heap.size, 7, none⟩ = some (.slice ia im ic) := cell_of (hnew _ _) h7
  have k17 : (w.alloc (.cells C 26)).cell? ⟨w.heap.size, 17, none⟩ = some (.slice da dn dc) := cell_of (hnew _ _) H.c17
  have HA := Lib.hid hal
  clear hal h7 H
  by_cases hi : 60 < im
  · have hi' : ((60 : Int) < (im : Int)) = True := by simp; omega
    obtain rfl : b = true := by rw [← HBb.out]; simp [hi]
    go_enter Try.func15, Try.ntmps15
    go_wp2_with fail
    go_ret
    exact ⟨rfl, HA.out⟩
  · have hi' : ((60 : Int) < (im : Int)) = False := by simp; omega
    by_cases hd : 60 < dn
    · have hd' : ((60 : Int) < (dn : Int)) = True := by simp; omega
      obtain rfl : b = true := by rw [← HBb.out]; simp [hd]
      go_enter Try.func15, Try.ntmps15
      go_wp2_with fail
      go_ret
      exact ⟨rfl, HA.out⟩
    · have hd' : ((60 : Int) < (dn : Int)) = False := by simp; omega
      obtain rfl : b = false := by rw [← HBb.out]; simp [hi, hd]
      go_enter Try.func15, Try.ntmps15
      go_wp2_with fail
      go_ret
      exact ⟨rfl, HA.out⟩
/-- what a source says -/
structure Cs where
  src : Int
  seq : Int
  a : Option Addr
  n : Nat
  c : Nat
deriving Inhabited
def RCs : Rep Cs := ⟨66, 3, by decide, fun x => [.int .i64 x.src, .int .i64 x.seq, .slice x.a x.n x.c], fun _ => rfl, fun _ => rfl⟩
/-- false is told only where p holds -/
def Denies (e : Ending) (p : Prop) : Prop := ∃ b : Bool, e = .returned (.bool b) ∧ (b = false → p)
theorem Denies.yes {p : Prop} : Denies (.returned (.bool true)) p := ⟨true, rfl, fun h => by cases h⟩
theorem Denies.no {p : Prop} (h : p) : Denies (.returned (.bool false)) p := ⟨false, rfl, fun _ => h⟩
structure Fine (dn n : Nat) (l : List If) (m : Nat) (S : List Cs) (L : List Rt) : Prop where
  dn : dn ≤ 60
  n60 : n ≤ 60
  good : Good l
  m30 : m ≤ 30
  small : largeB L = false
  s60 : ∀ x ∈ S, x.n ≤ 60
set_option maxRecDepth 100000 in
set_option maxHeartbeats 2000000 in
theorem large20 {w : World} {C : Array Value} {lg : Int} {im : Nat} {da : Option Addr} {dn dc : Nat} (H : CfA C lg im da dn dc) {oa : Option Addr} {n k : Nat} {l : List If} (hl : Ifs w oa n k l) {sa : Option Addr} {m sc : Nat} {S : List Cs} (hs : RCs.Sl w sa m sc S) (hsn : ∀ x ∈ S, x.n ≤ maxLen) {ra : Option Addr} {q rc : Nat} {L : List Rt} (hr : R40.Sl w ra q rc L) {B : Nat} (hB : B ≤ w.heap.size) (hx : ∀ x ∈ L, RtOk w B x) :
    Calls Try.prog 6 #[.agg C, .slice oa n k, .slice sa m sc, .slice ra q rc] w fun e w' => Denies e (Fine dn n l m S L) ∧ Below w.heap.size w w' := by
  have hal := (Below.refl w.heap.size w).alloc (Nat.le_refl _) (.cells C 26)
  have HA := Lib.hid (And.intro hal (hnew w (.cells C 26)))
  have HL := Lib.hid hl
  have HS := Lib.hid (And.intro hs hsn)
  have HR := Lib.hid (And.intro hr (And.intro hB hx))
  have HC := Lib.hid (rlargeC_any H)
  have hnm := hl.sl.max
  have hmm := hs.max
  unfold maxLen at hnm hmm
  have HDn := Lib.hid (show (decide (60 < im) || decide (60 < dn)) = false → dn ≤ 60 by simp)
  have hsz : (Try.prog.info? 26).map (·.size) = some C.size := by rw [H.size]; kernel_rfl
  have HSz := Lib.hid hsz
  clear hal hl hs hsn hr hB hx hsz H
  go_enter Try.func6, Try.ntmps6
  go_wp2_with (with_reducible refine halt_load 26 rfl ?_)
  refine Halted.go ?_
  refine load_whole rfl 26 _ rfl w.heap.size C rfl HA.out.2 Try.underlying26 rfl HSz.out ?_
  go_wp2_with fail
  refine (HC.out _).mono ?_
  rintro e W1 ⟨rfl, hb1⟩
  have HB := Lib.hid (bcall HA.out.1 (Nat.le_refl _) hb1)
  clear hb1 HA HC
  generalize (decide (60 < im) || decide (60 < dn)) = b at *
  cases b with
  | true =>
    go_wp2_with fail
    go_ret
    exact ⟨Denies.yes, HB.out⟩
  | false =>
    have hdn := HDn.out rfl
    have HD := Lib.hid hdn
    clear hdn HDn
    by_cases hn : 60 < n
    · have hn' : ((60 : Int) < (n : Int)) = True := by simp; omega
      go_wp2_with fail
      go_ret
      exact ⟨Denies.yes, HB.out⟩
    · have hn' : ((60 : Int) < (n : Int)) = False := by simp; omega
      go_wp2_with fail
      refine (rchk_any (HL.out.keep HB.out)).mono ?_
      rintro e W2 ⟨⟨b, rfl, hg⟩, hb2⟩
      have HB2 := Lib.hid (bcall HB.out (Nat.le_refl _) hb2)
      clear hb2 HB
      cases b with
      | false =>
        go_wp2_with fail
        go_ret
        exact ⟨Denies.yes, HB2.out⟩
      | true =>
        have HG := Lib.hid (hg rfl)
        clear hg
        by_cases hm : 30 < m
        · have hm' : ((30 : Int) < (m : Int)) = True := by simp; omega
          go_wp2_with fail
          go_ret
          exact ⟨Denies.yes, HB2.out⟩
        · have hm' : ((30 : Int) < (m : Int)) = False := by simp; omega
          go_wp2_with fail
          refine (large_any ra q rc L W2 B (Nat.le_trans HR.out.2.1 HB2.out.size) (HR.out.1.keep HB2.out) (fun x hx => (HR.out.2.2 x hx).below (HB2.out.mono HR.out.2.1))).mono ?_
          rintro e W3 ⟨rfl, hb3⟩
          have HB3 := Lib.hid (bcall HB2.out (Nat.le_refl _) hb3)
          clear hb3 HB2
          generalize hlb : largeB L = b
          have HLB := Lib.hid hlb
          clear hlb
          cases b with
          | true =>
            go_wp2_with fail
            go_ret
            exact ⟨Denies.yes, HB3.out⟩
          | false =>
            have HMl := Lib.hid HS.out.1.len
            go_wp2_with fail
            go_loopw [9] (fun iv wr => ∃ i : Nat, i ≤ m ∧ iv = .int .i64 i ∧ (∀ j, j < i → (S.getD j default).n ≤ 60) ∧ Below w.heap.size w wr) (fun iv _ => m - (intOf iv).toNat)
            case atStart => exact ⟨0, Nat.zero_le _, rfl, fun j hj => by omega, HB3.out⟩
            case round =>
              obtain ⟨i, hi, rfl, hall, hb⟩ := hrel
              have HAl := Lib.hid hall
              clear hall
              by_cases hlt : i < m
              · have hil : ((i : Int) < (m : Int)) = True := by simp; omega
                have hw3 := wrapS hlt (by unfold maxLen; omega)
                obtain ⟨b0, o0, rfl, hbb, hat⟩ := (HS.out.1.keep hb).at hlt
                have c2 := hat 2 (by decide)
                simp only [RCs, List.getElem?_cons_zero, List.getElem?_cons_succ] at c2
                have hyn := HS.out.2 _ (getD_mem (M := S) (i := i) (by rw [← HMl.out]; exact hlt))
                obtain ⟨y, hy⟩ : ∃ y, S.getD i default = y := ⟨_, rfl⟩
                rw [hy] at c2 hyn
                unfold maxLen at hyn
                have HY := Lib.hid (And.intro hy hb)
                clear hy hat hb
                by_cases hy60 : 60 < y.n
                · have hy' : ((60 : Int) < (y.n : Int)) = True := by simp; omega
                  go_wp2_with fail
                  go_ret
                  exact ⟨Denies.yes, HY.out.2⟩
                · have hy' : ((60 : Int) < (y.n : Int)) = False := by simp; omega
                  go_wp2_with fail
                  exact ⟨⟨i + 1, hlt, by first | rw [hw3] | rw [Int.natCast_succ], fun j hj => by
                    rcases Nat.lt_succ_iff_lt_or_eq.1 hj with h | rfl
                    · exact HAl.out j h
                    · rw [HY.out.1]; omega, HY.out.2⟩, by first | (rw [hw3]; exact mSucc hlt) | (rw [← Int.natCast_succ]; exact mSucc hlt)⟩
              · obtain rfl : m = i := by omega
                have hil : ((m : Int) < (m : Int)) = False := by simp
                have HY := Lib.hid hb
                clear hb
                go_wp2_with fail
                go_ret
                refine ⟨Denies.no ⟨HD.out, by omega, HG.out, by omega, HLB.out, fun x hx => ?_⟩, HY.out⟩
                obtain ⟨j, hj, rfl⟩ := List.mem_iff_getElem.1 hx
                have := HAl.out j (by rw [HMl.out]; exact hj)
                rw [List.getD_eq_getElem?_getD, List.getElem?_eq_getElem hj] at this
                exact this
end Go.Proofs.Ytgainkgbodmciaa
/- Which communities are denied. -/
namespace Go.Proofs.Ytgainkgbodmciaa
open Go.RowKit

theorem IntsAt.cell {w : World} {B : Nat} {oa : Option Addr} {n : Nat} {xs : List Int} (h : IntsAt w B oa n xs) {i : Nat} (hi : i < n) : ∃ b o, oa = some ⟨b, o, none⟩ ∧ w.cell? ⟨b, o + i, none⟩ = some (.int .i64 (xs.getD i 0)) := by
  obtain ⟨b, o, e, -, hc⟩ := h.2.2 (by omega)
  exact ⟨b, o, e, hc i hi⟩
theorem any_take {xs : List Int} {p : Int → Bool} {i : Nat} (h : ∀ j, j < i → p (xs.getD j 0) = false) (hl : xs.length = i) : xs.any p = false := by
  rw [List.any_eq_false]
  intro x hx
  obtain ⟨j, hj, rfl⟩ := List.mem_iff_getElem.1 hx
  have := h j (by omega)
  rw [List.getD_eq_getElem?_getD, List.getElem?_eq_getElem hj] at this
  simpa using this
theorem any_at {xs : List Int} {p : Int → Bool} {i : Nat} (h : p (xs.getD i 0) = true) (hl : i < xs.length) : xs.any p = true := by
  rw [List.any_eq_true]
  refine ⟨xs[i], List.getElem_mem _, ?_⟩
  rw [List.getD_eq_getElem?_getD, List.getElem?_eq_getElem hl] at h
  exact h
set_option maxRecDepth 100000 in
set_option maxHeartbeats 1000000 in
theorem indexI_any {w : World} {B : Nat} (hB : B ≤ w.heap.size) {oa : Option Addr} {n c : Nat} {xs : List Int} (h : IntsAt w B oa n xs) (v : Int) : Calls Try.prog 94 #[.slice oa n c, .int .i64 v] w fun e w' => (∃ k : Int, e = .returned (.int .i64 k) ∧ decide (0 ≤ k) = xs.any (fun x => decide (v = x))) ∧ Below w.heap.size w w' := by
  have HS := Lib.hid (And.intro h hB)
  have hmax := h.2.1
  clear h hB
  go_enter Try.func94, Try.ntmps94
  go_wp2_with fail
  go_loopw [8] (fun iv wr => ∃ i : Nat, i ≤ n ∧ iv = .int .i64 i ∧ (∀ j, j < i → decide (v = xs.getD j 0) = false) ∧ Below w.heap.size w wr) (fun iv _ => n - (intOf iv).toNat)
  case atStart => exact ⟨0, Nat.zero_le _, rfl, fun j hj => by omega, Below.refl _ _⟩
  case round =>
    obtain ⟨i, hi, rfl, hall, hb⟩ := hrel
    by_cases hlt : i < n
    · have hil : ((i : Int) < (n : Int)) = True := by simp; omega
      have hw3 := wrapS hlt hmax
      obtain ⟨b0, o0, rfl, c0⟩ := (HS.out.1.below (hb.mono HS.out.2)).cell hlt
      obtain ⟨y, hy⟩ : ∃ y, xs.getD i 0 = y := ⟨_, rfl⟩
      rw [hy] at c0
      have HY := Lib.hid (And.intro hy (And.intro hb hall))
      clear hy hb hall
      by_cases hvy : v = y
      · subst hvy
        have hbe : (v == v) = true := by simp
        go_wp2_with fail
        go_ret
        exact ⟨⟨_, rfl, by rw [any_at (p := fun x => decide (v = x)) (i := i) (by rw [HY.out.1]; simp) (by rw [← HS.out.1.1]; exact hlt)]; simp⟩, HY.out.2.1⟩
      · have hbe : (v == y) = false := by simp [hvy]
        have hve : (v = y) = False := by simp [hvy]
        have HV := Lib.hid hvy
        clear hvy
        go_wp2_with fail
        exact ⟨⟨i + 1, hlt, by first | rw [hw3] | rw [Int.natCast_succ], fun j hj => by
          rcases Nat.lt_succ_iff_lt_or_eq.1 hj with h | rfl
          · exact HY.out.2.2 j h
          · rw [HY.out.1]; exact decide_eq_false HV.out, HY.out.2.1⟩, by first | (rw [hw3]; exact mSucc hlt) | (rw [← Int.natCast_succ]; exact mSucc hlt)⟩
    · obtain rfl : n = i := by omega
      have hil : ((n : Int) < (n : Int)) = False := by simp
      have HY := Lib.hid (And.intro hb hall)
      clear hb hall
      go_wp2_with fail
      go_ret
      exact ⟨⟨_, rfl, by rw [any_take (p := fun x => decide (v = x)) HY.out.2 HS.out.1.1.symm]; rfl⟩, HY.out.1⟩
theorem containsI_any {w : World} {B : Nat} (hB : B ≤ w.heap.size) {oa : Option Addr} {n c : Nat} {xs : List Int} (h : IntsAt w B oa n xs) (v : Int) : Calls Try.prog 79 #[.slice oa n c, .int .i64 v] w fun e w' => e = .returned (.bool (xs.any (fun x => decide (v = x)))) ∧ Below w.heap.size w w' := by
  have HS := Lib.hid (indexI_any (c := c) hB h v)
  clear h hB
  generalize hd : xs.any (fun x => decide (v = x)) = b at *
  clear hd
  go_enter Try.func79, Try.ntmps79
  go_wp2_with fail
  refine (HS.out).mono ?_
  rintro e W ⟨⟨k, rfl, hk⟩, hb⟩
  have HB := Lib.hid hb
  clear hb
  by_cases h0 : 0 ≤ k
  · obtain rfl : b = true := by rw [← hk]; simp [h0]
    have hk0 : (0 ≤ k) = True := by simp [h0]
    clear hk
    go_wp2_with fail
    go_ret
    exact ⟨rfl, HB.out⟩
  · obtain rfl : b = false := by rw [← hk]; simp [h0]
    have hk0 : (0 ≤ k) = False := by simp [h0]
    clear hk
    go_wp2_with fail
    go_ret
    exact ⟨rfl, HB.out⟩
/-- a filter -/
structure FltA (Fc : Array Value) (lg : Int) (da : Option Addr) (dn dc : Nat) (xv : Value) (y : Rt) (k : Int) : Prop where
  size : Fc.size = 33
  c16 : Fc[16]? = some (.int .i64 lg)
  c17 : Fc[17]? = some (.slice da dn dc)
  c22 : Fc[21]? = some xv
  o : ∀ j, j < 11 → Fc[22 + j]? = (cdCells (y, k))[j]?
  one : Fc.all (·.oneCell') = true
theorem cleanF_any {w : World} {Fc : Array Value} {lg : Int} {da : Option Addr} {dn dc : Nat} {xv : Value} {y : Rt} {k : Int} (HF : FltA Fc lg da dn dc xv y k) {fb : Nat} (hf : w.heap[fb]? = some (.cells Fc 80)) {B : Nat} (hB : B ≤ w.heap.size) {ds : List Int} (hd : IntsAt w B da dn ds) (v : Int) : Calls Try.prog 78 #[.int .i64 v, .pointer (some ⟨fb, 0, none⟩)] w fun e w' => e = .returned (.bool (ds.any (fun x => decide (v = x)))) ∧ Below w.heap.size w w' := by
  have k17 : w.cell? ⟨fb, 17, none⟩ = some (.slice da dn dc) := cell_of hf HF.c17
  have HS := Lib.hid (containsI_any (c := dc) hB hd v)
  clear hd hB hf HF
  go_enter Try.func78, Try.ntmps78
  go_wp2_with fail
  refine (HS.out).mono ?_
  rintro e W ⟨rfl, hb⟩
  have HB := Lib.hid hb
  clear hb
  go_wp2_with fail
  go_ret
  exact ⟨rfl, HB.out⟩
set_option maxRecDepth 100000 in
set_option maxHeartbeats 1000000 in
theorem indexF_any {w : World} {Fc : Array Value} {lg : Int} {da : Option Addr} {dn dc : Nat} {xv : Value} {y : Rt} {k : Int} (HF : FltA Fc lg da dn dc xv y k) {fb : Nat} (hf : w.heap[fb]? = some (.cells Fc 80)) {B : Nat} (hB : B ≤ w.heap.size) {ds : List Int} (hd : IntsAt w B da dn ds) {oa : Option Addr} {n c : Nat} {xs : List Int} (h : IntsAt w B oa n xs) : Calls Try.prog 93 #[.slice oa n c, .func (.func 78) #[] #[.pointer (some ⟨fb, 0, none⟩)]] w fun e w' => (∃ k : Int, e = .returned (.int .i64 k) ∧ decide (0 ≤ k) = xs.any (fun v => ds.any (fun x => decide (v = x)))) ∧ Below w.heap.size w w' := by
  have HS := Lib.hid (And.intro h hB)
  have HK := Lib.hid (fun W (hW : Below w.heap.size w W) v => cleanF_any HF ((hW.block _ (lt_of_blk hf)).trans hf) (Nat.le_trans hB hW.size) (hd.below (hW.mono hB)) v)
  have hmax := h.2.1
  clear h hB HF hf hd
  go_enter Try.func93, Try.ntmps93
  go_wp2_with fail
  go_loopw [8] (fun iv wr => ∃ i : Nat, i ≤ n ∧ iv = .int .i64 i ∧ (∀ j, j < i → ds.any (fun x => decide (xs.getD j 0 = x)) = false) ∧ Below w.heap.size w wr) (fun iv _ => n - (intOf iv).toNat)
  case atStart => exact ⟨0, Nat.zero_le _, rfl, fun j hj => by omega, Below.refl _ _⟩
  case round =>
    obtain ⟨i, hi, rfl, hall, hb⟩ := hrel
    by_cases hlt : i < n
    · have hil : ((i : Int) < (n : Int)) = True := by simp; omega
      have hw3 := wrapS hlt hmax
      obtain ⟨b0, o0, rfl, c0⟩ := (HS.out.1.below (hb.mono HS.out.2)).cell hlt
      obtain ⟨z, hy⟩ : ∃ z, xs.getD i 0 = z := ⟨_, rfl⟩
      rw [hy] at c0
      have HC := Lib.hid (HK.out wr hb z)
      have HY := Lib.hid (And.intro hy (And.intro hb hall))
      clear hy hb hall
      go_wp2_with fail
      refine (HC.out).mono ?_
      rintro e W ⟨rfl, hbW⟩
      have HB := Lib.hid (bcall HY.out.2.1 (Nat.le_refl _) hbW)
      clear hbW HC c0
      generalize hpb : ds.any (fun x => decide (z = x)) = pb
      have HP := Lib.hid hpb
      clear hpb
      cases pb with
      | true =>
        go_wp2_with fail
        go_ret
        exact ⟨⟨_, rfl, by rw [any_at (p := fun v => ds.any (fun x => decide (v = x))) (i := i) (by rw [HY.out.1]; exact HP.out) (by rw [← HS.out.1.1]; exact hlt)]; simp⟩, HB.out⟩
      | false =>
        go_wp2_with fail
        exact ⟨⟨i + 1, hlt, by first | rw [hw3] | rw [Int.natCast_succ], fun j hj => by
          rcases Nat.lt_succ_iff_lt_or_eq.1 hj with h | rfl
          · exact HY.out.2.2 j h
          · rw [HY.out.1]; exact HP.out, HB.out⟩, by first | (rw [hw3]; exact mSucc hlt) | (rw [← Int.natCast_succ]; exact mSucc hlt)⟩
    · obtain rfl : n = i := by omega
      have hil : ((n : Int) < (n : Int)) = False := by simp
      have HY := Lib.hid (And.intro hb hall)
      clear hb hall
      go_wp2_with fail
      go_ret
      exact ⟨⟨_, rfl, by rw [any_take (p := fun v => ds.any (fun x => decide (v = x))) HY.out.2 HS.out.1.1.symm]; rfl⟩, HY.out.1⟩
theorem containsF_any {w : World} {Fc : Array Value} {lg : Int} {da : Option Addr} {dn dc : Nat} {xv : Value} {y : Rt} {k : Int} (HF : FltA Fc lg da dn dc xv y k) {fb : Nat} (hf : w.heap[fb]? = some (.cells Fc 80)) {B : Nat} (hB : B ≤ w.heap.size) {ds : List Int} (hd : IntsAt w B da dn ds) {oa : Option Addr} {n c : Nat} {xs : List Int} (h : IntsAt w B oa n xs) : Calls Try.prog 77 #[.slice oa n c, .func (.func 78) #[] #[.pointer (some ⟨fb, 0, none⟩)]] w fun e w' => e = .returned (.bool (xs.any (fun v => ds.any (fun x => decide (v = x))))) ∧ Below w.heap.size w w' := by
  have HS := Lib.hid (indexF_any (c := c) HF hf hB hd h)
  clear h hB HF hf hd
  generalize hd : xs.any (fun v => ds.any (fun x => decide (v = x))) = b at *
  clear hd
  go_enter Try.func77, Try.ntmps77
  go_wp2_with fail
  refine (HS.out).mono ?_
  rintro e W ⟨⟨k, rfl, hk⟩, hb⟩
  have HB := Lib.hid hb
  clear hb
  by_cases h0 : 0 ≤ k
  · obtain rfl : b = true := by rw [← hk]; simp [h0]
    have hk0 : (0 ≤ k) = True := by simp [h0]
    clear hk
    go_wp2_with fail
    go_ret
    exact ⟨rfl, HB.out⟩
  · obtain rfl : b = false := by rw [← hk]; simp [h0]
    have hk0 : (0 ≤ k) = False := by simp [h0]
    clear hk
    go_wp2_with fail
    go_ret
    exact ⟨rfl, HB.out⟩
def cleanB (ds : List Int) (x : Rt) : Bool := !(x.comms.any (fun v => ds.any (fun z => decide (v = z))))
set_option maxRecDepth 100000 in
set_option maxHeartbeats 1000000 in
theorem clean_any {w : World} {Fc : Array Value} {lg : Int} {da : Option Addr} {dn dc : Nat} {xv : Value} {y : Rt} {k : Int} (HF : FltA Fc lg da dn dc xv y k) {B : Nat} (hB : B ≤ w.heap.size) {ds : List Int} (hd : IntsAt w B da dn ds) {x : Rt} (hx : RtOk w B x) (m : Int) : Calls Try.prog 55 #[.agg Fc, x.cand m] w fun e w' => e = .returned (.bool (cleanB ds x)) ∧ Below w.heap.size w w' := by
  have hal := ((Below.refl w.heap.size w).alloc (Nat.le_refl _) (.cells Fc 80)).alloc (by simp) (.cells #[.int .i64 x.r, .int .u32 x.a, .int .i64 x.l, .int .i64 x.i, .int .i64 x.o, .slice x.pa x.pn x.pc, .int .u32 x.nx, .int .i64 x.md, .int .i64 x.pf, .slice x.ca x.cn x.cc, .int .i64 m] 46)
  have h0 : ((w.alloc (.cells Fc 80)).alloc (.cells #[.int .i64 x.r, .int .u32 x.a, .int .i64 x.l, .int .i64 x.i, .int .i64 x.o, .slice x.pa x.pn x.pc, .int .u32 x.nx, .int .i64 x.md, .int .i64 x.pf, .slice x.ca x.cn x.cc, .int .i64 m] 46)).heap[w.heap.size]? = some (.cells Fc 80) := hold (hnew _ _)
  have HC := Lib.hid (containsF_any (c := x.cc) HF h0 (Nat.le_trans hB hal.size) (hd.below (hal.mono hB)) (hx.comms.below (hal.mono hB)))
  have HA := Lib.hid hal
  clear hal h0 HF hB hd hx
  unfold Rt.cand cleanB
  generalize x.comms.any (fun v => ds.any (fun z => decide (v = z))) = b at *
  go_enter Try.func55, Try.ntmps55
  go_wp2_with fail
  refine (HC.out).mono ?_
  rintro e W ⟨rfl, hb⟩
  have HB := Lib.hid (bcall HA.out (Nat.le_refl _) hb)
  clear hb
  go_wp2_with fail
  go_ret
  exact ⟨rfl, HB.out⟩
end Go.Proofs.Ytgainkgbodmciaa
