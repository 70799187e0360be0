/- Attributes that share nothing. -/
import Derived.Test.YtadoflcomienoaaQan
import Derived.Test.YtadoflcomienoaaQah
import Derived.Test.YtadoflcomienoaaQag
import Derived.Test.YtadoflcomienoaaQaa
import Derived.Test.YtadoflcomienoaaQal
namespace Go.Proofs.Ytadoflcomienoaa
open Go.RowKit

set_option maxRecDepth 100000 in
theorem clone_ints {w : World} {oa : Option Addr} {n c : Nat} {L : List Int} (h : SlOk RI OkI w ⟨oa, n, c, L⟩) (hn : n ≤ 1000000) : Calls Try.prog 47 #[.slice oa n c] w fun e w' => ∃ v, e = .returned v ∧ RI.Own w' w.heap.size v L ∧ Below w.heap.size w w' := by
  cases oa with
  | none =>
    have h1 : n = 0 := h.sl.none_zero rfl
    have h2 : L = [] := by have h3 : n = L.length := h.sl.len; exact List.length_eq_zero_iff.1 (by omega)
    have h4 : c = 0 := h.nil rfl
    subst h1
    subst h2
    subst h4
    clear h
    have hnil : (binOp BinOp.eql 24 (.slice none 0 0) (.slice none 0 0)).run Try.prog w = .ok (.bool true) w := by kernel_rfl
    go_enter Try.func47, Try.ntmps47
    go_wp2_with fail
    go_ret
    exact ⟨_, rfl, Rep.Own.nil _ _, Below.refl _ _⟩
  | some ad =>
    have hal := (Below.refl w.heap.size w).alloc (Nat.le_refl _) (.cells #[] 3)
    have hem : RI.Own (w.alloc (.cells #[] 3)) w.heap.size (.slice (some ⟨w.heap.size, 0, none⟩) 0 0) ([] : List Int) := Rep.own_empty (hnew _ _) (Nat.le_refl _)
    have F := Lib.hid (And.intro hal (And.intro hem (h.sl.keep hal)))
    clear hal hem h
    have hnil : (binOp BinOp.eql 24 (.slice (some ad) n c) (.slice none 0 0)).run Try.prog w = .ok (.bool false) w := by kernel_rfl
    go_enter Try.func47, Try.ntmps47
    go_wp2_with (at_builtin; refine halt ?_)
    refine Halted.go ?_
    generalize w.alloc (.cells #[] 3) = W1 at *
    refine Rep.append_list TI rfl _ _ rfl rfl F.out.2.1 (L := []) (M := L) rfl F.out.2.2 (fun e => by cases e) (by rw [List.length_nil]; unfold maxLen; omega) (by rw [List.length_nil]; omega) F.out.1.size ?_
    intro v9 V9 hown9 hb9 _
    rw [List.nil_append] at hown9
    obtain ⟨a9, c9, rfl, -, -⟩ := hown9.sl0
    have HO := Lib.hid (And.intro hown9 (F.out.1.trans hb9))
    generalize L.length = m at *
    clear hown9 hb9
    go_wp2_with fail
    go_ret
    exact ⟨_, rfl, HO.out⟩
set_option maxRecDepth 100000 in
theorem clone_sgs {w : World} {oa : Option Addr} {n c : Nat} {L : List SgV} (h : SlOk RSg SgOk w ⟨oa, n, c, L⟩) (hn : n ≤ 1000000) : Calls Try.prog 48 #[.slice oa n c] w fun e w' => ∃ v, e = .returned v ∧ RSg.Own w' w.heap.size v L ∧ Below w.heap.size w w' := by
  cases oa with
  | none =>
    have h1 : n = 0 := h.sl.none_zero rfl
    have h2 : L = [] := by have h3 : n = L.length := h.sl.len; exact List.length_eq_zero_iff.1 (by omega)
    have h4 : c = 0 := h.nil rfl
    subst h1
    subst h2
    subst h4
    clear h
    have hnil : (binOp BinOp.eql 22 (.slice none 0 0) (.slice none 0 0)).run Try.prog w = .ok (.bool true) w := by kernel_rfl
    go_enter Try.func48, Try.ntmps48
    go_wp2_with fail
    go_ret
    exact ⟨_, rfl, Rep.Own.nil _ _, Below.refl _ _⟩
  | some ad =>
    have hal := (Below.refl w.heap.size w).alloc (Nat.le_refl _) (.cells #[] 53)
    have hem : RSg.Own (w.alloc (.cells #[] 53)) w.heap.size (.slice (some ⟨w.heap.size, 0, none⟩) 0 0) ([] : List SgV) := Rep.own_empty (hnew _ _) (Nat.le_refl _)
    have F := Lib.hid (And.intro hal (And.intro hem (h.sl.keep hal)))
    clear hal hem h
    have hnil : (binOp BinOp.eql 22 (.slice (some ad) n c) (.slice none 0 0)).run Try.prog w = .ok (.bool false) w := by kernel_rfl
    go_enter Try.func48, Try.ntmps48
    go_wp2_with (at_builtin; refine halt ?_)
    refine Halted.go ?_
    generalize w.alloc (.cells #[] 53) = W1 at *
    refine Rep.append_list TSg rfl _ _ rfl rfl F.out.2.1 (L := []) (M := L) rfl F.out.2.2 (fun e => by cases e) (by rw [List.length_nil]; unfold maxLen; omega) (by rw [List.length_nil]; omega) F.out.1.size ?_
    intro v9 V9 hown9 hb9 _
    rw [List.nil_append] at hown9
    obtain ⟨a9, c9, rfl, -, -⟩ := hown9.sl0
    have HO := Lib.hid (And.intro hown9 (F.out.1.trans hb9))
    generalize L.length = m at *
    clear hown9 hb9
    go_wp2_with fail
    go_ret
    exact ⟨_, rfl, HO.out⟩
/-- attributes of a size that can be copied -/
structure SmA (x : AtV) : Prop where
  p : x.p.n ≤ 1000000
  c : x.c.n ≤ 1000000
  s : ∀ y ∈ x.p.l, y.s.n ≤ 1000000
structure CpS (q : Nat) (y : AtV) (g o : Nat) (s : SlV Int) (W : World) : Prop where
  bx : BxA q y W
  c : W.cell? ⟨g, o, none⟩ = some (.slice s.a s.n s.c)
theorem CpS.keep {q : Nat} {y : AtV} {g o : Nat} {s : SlV Int} {W W' : World} (h : CpS q y g o s W) (hb : Below W.heap.size W W') : CpS q y g o s W' := ⟨h.bx.keep hb, (hb.cell (World.block_lt_of_cell? _ _ h.c)).trans h.c⟩
/-- the first i have been copied -/
structure CpI (w : World) (x : AtV) (v : Value) (s5 : SlV Int) (pn pc i : Nat) (pa : Option Addr) (Pl : List SgV) (wr : World) : Prop where
  own : RSg.Own wr w.heap.size (.slice pa pn pc) Pl
  sg : Pl.map SgV.sg = x.p.l.map SgV.sg
  ok : ∀ j, j < i → Firm (Value.ownBlock (.slice pa pn pc)) wr (fun W => SlOk RI OkI W (Pl.getD j default).s) ∧ NewS (w.heap.size + 2) (Pl.getD j default).s
  rest : ∀ j, i ≤ j → Pl.getD j default = x.p.l.getD j default
  bx : BxA w.heap.size ⟨x.o, ⟨pa, pn, pc, Pl⟩, x.nx, x.md, x.pf, s5⟩ wr
  z : wr.heap[w.heap.size + 1]? = some (.cells #[.int .i64 0, .slice none 0 0, .int .u32 0, .int .i64 0, .int .i64 0, .slice none 0 0] 26)
  c : Firm (Value.ownBlock (.slice pa pn pc)) wr (fun W => SlOk RI OkI W s5)
  far : ∀ k, Value.ownBlock (.slice pa pn pc) = some k → w.heap.size + 2 ≤ k
  old : Below w.heap.size w wr
theorem CpI.keep {w : World} {x : AtV} {v : Value} {s5 : SlV Int} {pn pc i : Nat} {pa : Option Addr} {Pl : List SgV} {wr W : World} (h : CpI w x v s5 pn pc i pa Pl wr) (hb : Below wr.heap.size wr W) : CpI w x v s5 pn pc i pa Pl W :=
  ⟨h.own.below hb, h.sg, fun j hj => ⟨(h.ok j hj).1.below hb, (h.ok j hj).2⟩, h.rest, h.bx.keep hb, (hb.block _ (lt_of_blk h.z)).trans h.z, h.c.below hb, h.far, bcall h.old (Nat.le_refl _) hb⟩
set_option maxRecDepth 100000 in
set_option maxHeartbeats 8000000 in
theorem copyOf_any {w : World} {x : AtV} (hx : AtOk w x) (hs : SmA x) : Calls Try.prog 29 #[x.v] w fun e w' => ∃ y : AtV, e = .returned y.v ∧ AtOk w' y ∧ NewA w.heap.size y ∧ y.at = x.at ∧ Below w.heap.size w w' := by
  have hal := ((Below.refl w.heap.size w).alloc (Nat.le_refl _) (.cells #[.int .i64 x.o, .slice x.p.a x.p.n x.p.c, .int .u32 x.nx, .int .i64 x.md, .int .i64 x.pf, .slice x.c.a x.c.n x.c.c] 26)).alloc (by simp) (.cells #[.int .i64 0, .slice none 0 0, .int .u32 0, .int .i64 0, .int .i64 0, .slice none 0 0] 26)
  have hX : BxA w.heap.size x ((w.alloc (.cells #[.int .i64 x.o, .slice x.p.a x.p.n x.p.c, .int .u32 x.nx, .int .i64 x.md, .int .i64 x.pf, .slice x.c.a x.c.n x.c.c] 26)).alloc (.cells #[.int .i64 0, .slice none 0 0, .int .u32 0, .int .i64 0, .int .i64 0, .slice none 0 0] 26)) := hold (hnew _ _)
  have hZ : ((w.alloc (.cells #[.int .i64 x.o, .slice x.p.a x.p.n x.p.c, .int .u32 x.nx, .int .i64 x.md, .int .i64 x.pf, .slice x.c.a x.c.n x.c.c] 26)).alloc (.cells #[.int .i64 0, .slice none 0 0, .int .u32 0, .int .i64 0, .int .i64 0, .slice none 0 0] 26)).heap[w.heap.size + 1]? = some (.cells #[.int .i64 0, .slice none 0 0, .int .u32 0, .int .i64 0, .int .i64 0, .slice none 0 0] 26) := hnewAt (by simp)
  have hsz : ((w.alloc (.cells #[.int .i64 x.o, .slice x.p.a x.p.n x.p.c, .int .u32 x.nx, .int .i64 x.md, .int .i64 x.pf, .slice x.c.a x.c.n x.c.c] 26)).alloc (.cells #[.int .i64 0, .slice none 0 0, .int .u32 0, .int .i64 0, .int .i64 0, .slice none 0 0] 26)).heap.size = w.heap.size + 2 := by simp
  have HX := Lib.hid (And.intro hx hs)
  have F := Lib.hid (And.intro hal (And.intro hX (And.intro hZ hsz)))
  have HC := Lib.hid (clone_ints (oa := x.c.a) (n := x.c.n) (c := x.c.c) (L := x.c.l) (hx.c.keepI hal) hs.c)
  obtain ⟨c0, c1, c2, c3, c4, c5⟩ := hX.cells
  unfold AtV.v
  clear hal hX hZ hsz hx hs
  go_enter Try.func29, Try.ntmps29
  go_wp2_with fail
  generalize (w.alloc (.cells #[.int .i64 x.o, .slice x.p.a x.p.n x.p.c, .int .u32 x.nx, .int .i64 x.md, .int .i64 x.pf, .slice x.c.a x.c.n x.c.c] 26)).alloc (.cells #[.int .i64 0, .slice none 0 0, .int .u32 0, .int .i64 0, .int .i64 0, .slice none 0 0] 26) = W0 at *
  refine (HC.out).mono ?_
  rintro e W1 ⟨v5, rfl, ho5, hb5⟩
  have hbx := F.out.2.1.keep hb5
  obtain ⟨s5, rfl, hl5, hs5, hn5, hv5⟩ := Own_slok (ok := OkI) ho5 (fun n hn => HX.out.1.c.all n hn)
  have e0 : W1.frozen? ⟨w.heap.size, 5, none⟩ = false := free_of hbx
  obtain ⟨d0, d1, d2, d3, d4, d5⟩ := hbx.cells
  have hst := setCell_blk hbx 5 (.slice s5.a s5.n s5.c)
  have hB1 : But W1 (W1.setCell ⟨w.heap.size, 5, none⟩ (.slice s5.a s5.n s5.c)) [w.heap.size] := (But.refl W1 [w.heap.size]).setCell (a := ⟨w.heap.size, 5, none⟩) (.inr (by simp)) _
  have hnew5 : NewS (w.heap.size + 2) s5 := fun h a e => by rw [← F.out.2.2.2]; exact hn5 h a e
  have hs5' : SlOk RI OkI (W1.setCell ⟨w.heap.size, 5, none⟩ (.slice s5.a s5.n s5.c)) s5 := (hs5.firmI (g := some w.heap.size) (hnew5.far fun k hk => by injection hk with hk; omega)) _ ⟨hB1.os, hB1.tape, hB1.output, hB1.size, fun k hk hne => hB1.block k hk (fun hm => hne (by rw [List.mem_singleton] at hm; rw [hm]))⟩
  have hbw : Below w.heap.size w (W1.setCell ⟨w.heap.size, 5, none⟩ (.slice s5.a s5.n s5.c)) := (bcall F.out.1 (Nat.le_refl _) hb5).trans (hB1.below (Nat.le_trans (by rw [F.out.2.2.2]; exact Nat.le_add_right _ _) hb5.size) (by simp))
  have hz1 : (W1.setCell ⟨w.heap.size, 5, none⟩ (.slice s5.a s5.n s5.c)).heap[w.heap.size + 1]? = some (.cells #[.int .i64 0, .slice none 0 0, .int .u32 0, .int .i64 0, .int .i64 0, .slice none 0 0] 26) := (hB1.block _ (Nat.lt_of_lt_of_le (by rw [F.out.2.2.2]; omega) hb5.size) (by simp)).trans ((hb5.block _ (by rw [F.out.2.2.2]; omega)).trans F.out.2.2.1)
  have F1 := Lib.hid (And.intro hbw (And.intro (show BxA w.heap.size ⟨x.o, x.p, x.nx, x.md, x.pf, s5⟩ (W1.setCell ⟨w.heap.size, 5, none⟩ (.slice s5.a s5.n s5.c)) from hst) (And.intro hz1 (And.intro hs5' (And.intro hnew5 (And.intro hl5 (show w.heap.size + 2 ≤ (W1.setCell ⟨w.heap.size, 5, none⟩ (.slice s5.a s5.n s5.c)).heap.size from Nat.le_trans (by rw [← F.out.2.2.2]; exact hb5.size) hB1.size)))))))
  have HC2 := Lib.hid (clone_sgs (oa := x.p.a) (n := x.p.n) (c := x.p.c) (L := x.p.l) (HX.out.1.p.keepS hbw) HX.out.2.p)
  have hx1 := F1.out.2.1.cells
  dsimp only at hx1
  obtain ⟨f0, f1, f2, f3, f4, f5⟩ := hx1
  clear ho5 hb5 hbx hl5 hs5 hn5 hv5 hst hB1 hs5' hbw hz1 hnew5 HC F c0 c1 c2 c3 c4 c5
  go_wp2_with fail
  generalize W1.setCell ⟨w.heap.size, 5, none⟩ (.slice s5.a s5.n s5.c) = W2 at *
  refine (HC2.out).mono ?_
  rintro e W3 ⟨v6, rfl, ho6, hb6⟩
  clear d0 d1 d2 d3 d4 d5 e0 f0 f1 f2 f3 f4 f5
  have hbx := F1.out.2.1.keep hb6
  obtain ⟨⟨pa, pn, pc, pl⟩, rfl, hl6, hs6, hn6, hv6⟩ := Own_slok (ok := SgOk) ho6 (fun n hn => (HX.out.1.p.keepS (bcall F1.out.1 (Nat.le_refl _) hb6)).all n hn)
  dsimp only at ho6 hl6 hs6 hn6 hv6 ⊢
  subst hl6
  have e0 : W3.frozen? ⟨w.heap.size, 1, none⟩ = false := free_of hbx
  have hx1 := hbx.cells
  dsimp only at hx1
  obtain ⟨d0, d1, d2, d3, d4, d5⟩ := hx1
  have hst := setCell_blk hbx 1 (.slice pa pn pc)
  have hB1 : But W3 (W3.setCell ⟨w.heap.size, 1, none⟩ (.slice pa pn pc)) [w.heap.size] := (But.refl W3 [w.heap.size]).setCell (a := ⟨w.heap.size, 1, none⟩) (.inr (by simp)) _
  have hG1 : W3.grownBy (W3.setCell ⟨w.heap.size, 1, none⟩ (.slice pa pn pc)) (some w.heap.size) := ⟨hB1.os, hB1.tape, hB1.output, hB1.size, fun k hk hne => hB1.block k hk (fun hm => hne (by rw [List.mem_singleton] at hm; rw [hm]))⟩
  have hbw : Below w.heap.size w (W3.setCell ⟨w.heap.size, 1, none⟩ (.slice pa pn pc)) := (bcall F1.out.1 (Nat.le_refl _) hb6).trans (hB1.below (Nat.le_trans (Nat.le_trans (Nat.le_add_right _ _) F1.out.2.2.2.2.2.2) hb6.size) (by simp))
  have hfar : ∀ k, Value.ownBlock (.slice pa pn pc) = some k → W2.heap.size ≤ k := fun k hk => (World.ownsRow.lt ho6 k hk).1
  have hq2 : w.heap.size + 2 ≤ W2.heap.size := F1.out.2.2.2.2.2.2
  have hI : CpI w x (.slice pa pn pc) s5 pn pc 0 pa x.p.l (W3.setCell ⟨w.heap.size, 1, none⟩ (.slice pa pn pc)) := by
    refine ⟨?_, rfl, fun j hj => absurd hj (Nat.not_lt_zero _), fun _ _ => rfl, hst, ?_, ?_, fun k hk => Nat.le_trans hq2 (hfar k hk), hbw⟩
    · have h1 := (ho6.mono (Nat.le_trans (Nat.le_add_right _ _) hq2))
      exact h1.keep fun b hb => hG1.block b (World.ownsRow.lt ho6 b hb).2 (fun e => by
        injection e with e
        have := hfar b hb
        omega)
    · exact (hB1.block _ (Nat.lt_of_lt_of_le (by omega) hb6.size) (by simp)).trans ((hb6.block _ (by omega)).trans F1.out.2.2.1)
    · intro W hW
      have h1 : SlOk RI OkI W3 s5 := F1.out.2.2.2.1.keepI hb6
      have h2 : Firm (some w.heap.size) W3 (fun W => SlOk RI OkI W s5) := h1.firmI (F1.out.2.2.2.2.1.far fun k hk => by injection hk with hk; omega)
      refine (SlOk.firmI (h2 _ hG1) ?_) W hW
      intro hn a e e2
      have h3 := hfar _ e2.symm
      have h4 := F1.out.2.2.2.1.low hn a e
      omega
  have H0 := Lib.hid hI
  have hpn : pn = x.p.l.length := hs6.sl.len
  have HPN := Lib.hid (And.intro hpn (And.intro HX.out.2.p F1.out.2.2.2.2))
  have hc1 := hI.bx.cells
  dsimp only at hc1
  obtain ⟨f0, f1, f2, f3, f4, f5⟩ := hc1
  have hpm : pn ≤ maxLen := hs6.sl.max
  clear ho6 hb6 hbx hs6 hn6 hv6 hst hB1 hG1 hbw hfar hq2 hI hpn HC2 F1
  go_wp2_with fail
  generalize W3.setCell ⟨w.heap.size, 1, none⟩ (.slice pa pn pc) = W4 at *
  clear d0 d1 d2 d3 d4 d5 e0 f0 f1 f2 f3 f4 f5
  go_loopw [15] (fun iv wr => ∃ (i : Nat) (Pl : List SgV), i ≤ pn ∧ iv = .int .i64 i ∧ CpI w x (.slice pa pn pc) s5 pn pc i pa Pl wr) (fun iv _ => pn - (intOf iv).toNat)
  case atStart => exact ⟨0, _, Nat.zero_le _, rfl, H0.out⟩
  case round =>
    obtain ⟨i, Pl, hi, rfl, hI⟩ := hrel
    obtain ⟨w4, rfl⟩ : ∃ w4 : World, w4 = wr := ⟨_, rfl⟩
    by_cases hlt : i < pn
    · have hil : ((i : Int) < (pn : Int)) = True := by simp; omega
      have hi0 : ((0 : Int) ≤ (i : Int)) = True := by simp
      have hw3 := wrapS hlt hpm
      have hln : Pl.length = pn := by
        have h1 := congrArg List.length hI.sg
        rw [List.length_map, List.length_map, ← HPN.out.1] at h1
        exact h1
      have hown := hI.own
      rcases hown.cases with ⟨e1, e2⟩ | ⟨g, cap, e1, hg1, hg2, hg3, hg4, hrow, -, cur, hcur, hcs⟩
      · rw [e2, List.length_nil] at hln; omega
      injection e1 with ea1 ea2 ea3
      subst ea1
      subst ea3
      have hat := hrow.get i (by omega)
      rw [Nat.zero_add] at hat
      rw [hI.rest i (Nat.le_refl _)] at hat
      have hsx := HX.out.1.p.all (x.p.l.getD i default) (getD_mem (by rw [← HPN.out.1]; exact hlt))
      have hsm := HX.out.2.s (x.p.l.getD i default) (getD_mem (by rw [← HPN.out.1]; exact hlt))
      obtain ⟨s, hse⟩ : ∃ s, x.p.l.getD i default = s := ⟨_, rfl⟩
      rw [hse] at hat hsx hsm
      have s0 := hat 0 (by decide)
      have s1 := hat 1 (by decide)
      simp only [RSg, Nat.add_zero, List.getElem?_cons_zero, List.getElem?_cons_succ] at s0 s1
      have hd := (Below.refl w4.heap.size w4).drew
      have K := Lib.hid (show CpS w.heap.size ⟨x.o, ⟨some ⟨g, 0, none⟩, pn, pc, Pl⟩, x.nx, x.md, x.pf, s5⟩ g (i * 2 + 1) s.s w4.drew from ⟨hI.bx, s1⟩)
      have HC := Lib.hid (clone_ints (oa := s.s.a) (n := s.s.n) (c := s.s.c) (L := s.s.l) (SlOk.keepI (SlOk.keepI hsx hI.old) hd) hsm)
      have G := Lib.hid (And.intro (show CpI w x (.slice (some ⟨g, 0, none⟩) pn pc) s5 pn pc i (some ⟨g, 0, none⟩) Pl w4.drew from hI.keep hd) (And.intro hln (And.intro (show w4.drew.heap[g]? = some (.cells cur RSg.T (0, 0)) from hcur) (And.intro (show w4.drew.cell? ⟨g, i * 2, none⟩ = some (.bool s.set) from s0) (And.intro hcs (And.intro hse (And.intro (show g < w4.drew.heap.size from hg2) (And.intro hlt hg3))))))))
      clear hI hln hown hrow hcur hat hsx hsm s0 s1 hd hcs hse ea2 hg1 hg2 hg3 hg4 hi
      go_wp2_with fail
      refine wp_region_T 12 (CpS w.heap.size ⟨x.o, ⟨some ⟨g, 0, none⟩, pn, pc, Pl⟩, x.nx, x.md, x.pf, s5⟩ g (i * 2 + 1) s.s) (by kernel_rfl) ?_
      generalize w4.drew = V at *
      refine T_reads [0, 1, 2, 3, 4, 5, 6, 7, 8] (g := 4) rfl (by kernel_rfl) K.out (fun _ _ d _ _ h => by cases d <;> exact h) ?_
      simp only [pick, List.getD_cons_zero, List.getD_cons_succ]
      ((with_reducible refine wpRead_step (fun K hK => ?_)); go_simp; first | ((with_reducible refine hK _ ?_); clear hK K) | (apply Exists.intro; (with_reducible refine ⟨fun w' hw' => ?_, hK _ ?_⟩); (first | exact rfl | exact ⟨rfl, rfl⟩); clear hK K))
      ((with_reducible refine wpRead_step (fun K hK => ?_)); go_simp; first | ((with_reducible refine hK _ ?_); clear hK K) | (apply Exists.intro; (with_reducible refine ⟨fun w' hw' => ?_, hK _ ?_⟩); (obtain ⟨f0, f1, f2, f3, f4, f5⟩ := hw'.bx.cells; dsimp only at f1; go_simp; first | exact rfl | exact ⟨rfl, rfl⟩); clear hK K))
      ((with_reducible refine wpRead_step (fun K hK => ?_)); go_simp; first | ((with_reducible refine hK _ ?_); clear hK K) | (apply Exists.intro; (with_reducible refine ⟨fun w' hw' => ?_, hK _ ?_⟩); (first | exact rfl | exact ⟨rfl, rfl⟩); clear hK K))
      ((with_reducible refine wpRead_step (fun K hK => ?_)); go_simp; first | ((with_reducible refine hK _ ?_); clear hK K) | (apply Exists.intro; (with_reducible refine ⟨fun w' hw' => ?_, hK _ ?_⟩); (first | exact rfl | exact ⟨rfl, rfl⟩); clear hK K))
      ((with_reducible refine wpRead_step (fun K hK => ?_)); go_simp; first | ((with_reducible refine hK _ ?_); clear hK K) | (apply Exists.intro; (with_reducible refine ⟨fun w' hw' => ?_, hK _ ?_⟩); (obtain ⟨f0, f1, f2, f3, f4, f5⟩ := hw'.bx.cells; dsimp only at f1; go_simp; first | exact rfl | exact ⟨rfl, rfl⟩); clear hK K))
      ((with_reducible refine wpRead_step (fun K hK => ?_)); go_simp; first | ((with_reducible refine hK _ ?_); clear hK K) | (apply Exists.intro; (with_reducible refine ⟨fun w' hw' => ?_, hK _ ?_⟩); (first | exact rfl | exact ⟨rfl, rfl⟩); clear hK K))
      ((with_reducible refine wpRead_step (fun K hK => ?_)); go_simp; first | ((with_reducible refine hK _ ?_); clear hK K) | (apply Exists.intro; (with_reducible refine ⟨fun w' hw' => ?_, hK _ ?_⟩); (first | exact rfl | exact ⟨rfl, rfl⟩); clear hK K))
      ((with_reducible refine wpRead_step (fun K hK => ?_)); go_simp; first | ((with_reducible refine hK _ ?_); clear hK K) | (apply Exists.intro; (with_reducible refine ⟨fun w' hw' => ?_, hK _ ?_⟩); (first | exact rfl | exact ⟨rfl, rfl⟩); clear hK K))
      ((with_reducible refine wpRead_step (fun K hK => ?_)); go_simp; first | ((with_reducible refine hK _ ?_); clear hK K) | (apply Exists.intro; (with_reducible refine ⟨fun w' hw' => ?_, hK _ ?_⟩); (have f0 := hw'.c; go_simp; first | exact rfl | exact ⟨rfl, rfl⟩); clear hK K))
      with_reducible refine wpRead_nil ?_
      refine T_one 9 (by kernel_rfl) ?_
      simp only [pick, List.getD_cons_zero, List.getD_cons_succ]
      go_wp2_with fail
      refine (HC.out).mono ?_
      rintro e V2 ⟨v7, rfl, ho7, hb7⟩
      obtain ⟨s7, rfl, hl7, hs7, hn7, hv7⟩ := Own_slok (ok := OkI) ho7 (fun n hn => by
        have h1 := HX.out.1.p.all (x.p.l.getD i default) (getD_mem (by rw [← HPN.out.1]; exact G.out.2.2.2.2.2.2.2.1))
        rw [G.out.2.2.2.2.2.1] at h1
        exact SlOk.all h1 n hn)
      have K2 := Lib.hid (K.out.keep hb7)
      have HL7 := Lib.hid (show s.s.l.length = s7.n from by rw [← hl7]; exact hs7.sl.len.symm)
      have G7 := Lib.hid (And.intro hb7 (And.intro hs7 (And.intro hn7 hl7)))
      clear ho7 hb7 hs7 hn7 hl7 hv7 HC K
      go_wp2_with fail
      refine ⟨fun _ => K2.out, ?_⟩
      refine T_reads [10, 11] (g := 1) rfl (by kernel_rfl) K2.out (fun _ _ d _ _ h => by cases d <;> exact h) ?_
      simp only [pick, List.getD_cons_zero, List.getD_cons_succ]
      ((with_reducible refine wpRead_step (fun K hK => ?_)); go_simp; first | ((with_reducible refine hK _ ?_); clear hK K) | (apply Exists.intro; (with_reducible refine ⟨fun w' hw' => ?_, hK _ ?_⟩); (first | exact rfl | exact ⟨rfl, rfl⟩); clear hK K))
      ((with_reducible refine wpRead_step (fun K hK => ?_)); go_simp; first | ((with_reducible refine hK _ ?_); clear hK K) | (apply Exists.intro; (with_reducible refine ⟨fun w' hw' => ?_, hK _ ?_⟩); (first | exact rfl | exact ⟨rfl, rfl⟩); clear hK K))
      with_reducible refine wpRead_nil ?_
      refine T_one 12 (by kernel_rfl) ?_
      simp only [pick, List.getD_cons_zero, List.getD_cons_succ]
      have hcur := (G7.out.1.block g (by have := G.out.2.2.2.2.2.2.1; exact this)).trans G.out.2.2.1
      have e0 : V2.frozen? ⟨g, i * 2 + 1, none⟩ = false := free_of hcur
      have c0 := K2.out.c
      have hst := setCell_blk hcur (i * 2 + 1) (.slice s7.a s7.n s7.c)
      have hB1 : But V2 (V2.setCell ⟨g, i * 2 + 1, none⟩ (.slice s7.a s7.n s7.c)) [g] := (But.refl V2 [g]).setCell (a := ⟨g, i * 2 + 1, none⟩) (.inr (by simp)) _
      have hnext : CpI w x (.slice (some ⟨g, 0, none⟩) pn pc) s5 pn pc (i + 1) (some ⟨g, 0, none⟩) (Pl.set i ⟨s.set, s7⟩) (V2.setCell ⟨g, i * 2 + 1, none⟩ (.slice s7.a s7.n s7.c)) := by
        have hI := G.out.1
        have hln := G.out.2.1
        have hlt := G.out.2.2.2.2.2.2.2.1
        have hG1 : V2.grownBy (V2.setCell ⟨g, i * 2 + 1, none⟩ (.slice s7.a s7.n s7.c)) (some g) := ⟨hB1.os, hB1.tape, hB1.output, hB1.size, fun k hk hne => hB1.block k hk (fun hm => hne (by rw [List.mem_singleton] at hm; rw [hm]))⟩
        have hfg := hI.far g rfl
        have hgd : Pl.getD i default = s := by rw [hI.rest i (Nat.le_refl _)]; exact G.out.2.2.2.2.2.1
        refine ⟨?_, ?_, fun j hj => ?_, fun j hj => ?_, ?_, ?_, ?_, hI.far, ?_⟩
        · have h1 := hI.own.below G7.out.1
          refine Rep.own_set h1 hlt _ hcur hst (by simp) fun q => ?_
          rw [Array.getElem?_setIfInBounds]
          have hk2 : RSg.k = 2 := rfl
          rw [hk2]
          by_cases hq : i * 2 + 1 = q
          · subst hq
            rw [if_pos rfl, if_pos (by rw [G.out.2.2.2.2.1, hk2]; have := G.out.2.2.2.2.2.2.2.2; omega), if_pos (by omega), show i * 2 + 1 - i * 2 = 1 by omega]
            rfl
          · rw [if_neg hq]
            by_cases hq2 : i * 2 ≤ q ∧ q < i * 2 + 2
            · obtain rfl : q = i * 2 := by omega
              rw [if_pos hq2, Nat.sub_self]
              have h2 := G.out.2.2.2.1
              have h3 := G.out.2.2.1
              simp only [World.cell?, h3, Option.isSome_none, Bool.false_eq_true, if_false] at h2
              rw [h2]
              rfl
            · rw [if_neg hq2]
        · rw [← hI.sg]
          have h2 : (Pl.set i ⟨s.set, s7⟩).map SgV.sg = Pl.map SgV.sg := by
            apply List.ext_getElem?
            intro j
            rw [List.getElem?_map, List.getElem?_map, List.getElem?_set]
            by_cases hj : i = j
            · subst hj
              rw [if_pos rfl, if_pos (by omega), List.getElem?_eq_getElem (show i < Pl.length by omega)]
              rw [List.getD_eq_getElem?_getD, List.getElem?_eq_getElem (show i < Pl.length by omega), Option.getD_some] at hgd
              rw [hgd]
              show some ((⟨s.set, s7⟩ : SgV).sg) = some s.sg
              unfold SgV.sg
              rw [G7.out.2.2.2]
            · rw [if_neg hj]
          exact h2
        · by_cases e : j = i
          · subst e
            rw [Rep.getD_set _ _ _ _ (by omega), if_pos rfl]
            refine ⟨?_, fun hn a e => Nat.le_trans (lt_of_blk hI.z) (G7.out.2.2.1 hn a e)⟩
            refine Firm.turn (w := V2) (g := some g) (g' := some g) (SlOk.firmI G7.out.2.1 (G7.out.2.2.1.far fun k hk => ?_)) hG1 (fun _ _ e => e)
            injection hk with hk
            rw [← hk]
            exact G.out.2.2.2.2.2.2.1
          · rw [Rep.getD_set _ _ _ _ (by omega), if_neg e]
            have h1 := hI.ok j (by omega)
            exact ⟨Firm.turn (g' := some g) (h1.1.below G7.out.1) hG1 (fun _ _ e => e), h1.2⟩
        · have hne : j ≠ i := by omega
          have h1 := hI.rest j (by omega)
          rw [← h1]
          simp only [List.getD_eq_getElem?_getD, List.getElem?_set, if_neg (show ¬ i = j by omega)]
        · exact (hB1.block _ (lt_of_blk (hI.bx.keep G7.out.1)) (by rw [List.mem_singleton]; omega)).trans (hI.bx.keep G7.out.1)
        · have hz2 := (G7.out.1.block _ (lt_of_blk hI.z)).trans hI.z
          exact (hB1.block _ (lt_of_blk hz2) (by rw [List.mem_singleton]; omega)).trans hz2
        · exact Firm.turn (g' := some g) (hI.c.below G7.out.1) hG1 (fun _ _ e => e)
        · exact (bcall hI.old (Nat.le_refl _) G7.out.1).trans (grown_below hG1 (Nat.le_trans hI.old.size G7.out.1.size) (fun k hk => by injection hk with hk; omega))
      have HN := Lib.hid hnext
      have hlt := G.out.2.2.2.2.2.2.2.1
      clear hnext hst hB1 hcur
      go_wp2_with fail
      refine ⟨fun h => absurd rfl h, ?_⟩
      refine T_done (by kernel_rfl) ?_ _
      clear e0 c0
      go_wp2_with fail
      exact ⟨⟨i + 1, _, hlt, by first | rw [hw3] | rw [Int.natCast_succ], HN.out⟩, by first | (rw [hw3]; exact mSucc hlt) | (rw [← Int.natCast_succ]; exact mSucc hlt)⟩
    · obtain rfl : i = pn := by omega
      have hil : ((i : Int) < (i : Int)) = False := by simp
      have hc1 := hI.bx.cells
      dsimp only at hc1
      obtain ⟨f0, f1, f2, f3, f4, f5⟩ := hc1
      have hln : i = Pl.length := by
        have h1 := congrArg List.length hI.sg
        rw [List.length_map, List.length_map, ← HPN.out.1] at h1
        exact h1.symm
      have G := Lib.hid (And.intro hI hln)
      clear hI hln hi
      go_wp2_with (with_reducible refine halt_store 26 (x := .tmp 2) rfl ?_)
      refine Halted.go ?_
      refine store_whole rfl 26 _ _ rfl (w.heap.size + 1) #[.int .i64 x.o, .slice pa i pc, .int .u32 x.nx, .int .i64 x.md, .int .i64 x.pf, .slice s5.a s5.n s5.c] rfl rfl G.out.1.z rfl (by kernel_rfl) (by simp [Value.oneCell']) ?_
      intro Wz hwz hsz
      have hgr : w4.grownBy Wz (some (w.heap.size + 1)) := ⟨hsz.os, hsz.tape, hsz.output, by rw [hsz.size]; exact Nat.le_refl _, fun k hk hne => hsz.other (fun e => hne (by rw [e]))⟩
      have hfin : AtOk Wz ⟨x.o, ⟨pa, i, pc, Pl⟩, x.nx, x.md, x.pf, s5⟩ ∧ NewA w.heap.size ⟨x.o, ⟨pa, i, pc, Pl⟩, x.nx, x.md, x.pf, s5⟩ ∧ AtV.at ⟨x.o, ⟨pa, i, pc, Pl⟩, x.nx, x.md, x.pf, s5⟩ = x.at ∧ Below w.heap.size w Wz := by
        have hI := G.out.1
        have hown := hI.own
        have hle : i = Pl.length := G.out.2
        have hS1 : ∀ y ∈ Pl, SgOk Wz y ∧ NewS w.heap.size y.s := by
          intro y hy
          obtain ⟨j, hj, rfl⟩ := List.getElem_of_mem hy
          have h1 := hI.ok j (by omega)
          rw [List.getD_eq_getElem?_getD, List.getElem?_eq_getElem hj, Option.getD_some] at h1
          have h2 : SlOk RI OkI w4 (Pl[j]).s := h1.1.now
          exact ⟨(h2.firmI (g := some (w.heap.size + 1)) (h1.2.far fun k hk => by injection hk with hk; omega)) Wz hgr, fun hn a e => Nat.le_trans (Nat.le_add_right _ _) (h1.2 hn a e)⟩
        have hPS : SlOk RSg SgOk Wz ⟨pa, i, pc, Pl⟩ ∧ NewS w.heap.size (⟨pa, i, pc, Pl⟩ : SlV SgV) := by
          have h3 := hown
          rw [hle] at h3
          have h4 : RSg.Own Wz w.heap.size (.slice pa Pl.length pc) Pl := h3.keep fun b hb => hgr.block b (World.ownsRow.lt h3 b hb).2 (fun e => by
            injection e with e
            have := hI.far b (by rw [hle]; exact hb)
            omega)
          obtain ⟨⟨ta, tn, tc, tl⟩, e1, e2, e3, e4, -⟩ := Own_slok (ok := SgOk) h4 (fun y hy => (hS1 y hy).1)
          injection e1 with e5 e6 e7
          dsimp only at e2 e5 e6 e7
          subst e2
          subst e5
          subst e7
          rw [hle, e6]
          exact ⟨e3, e4⟩
        refine ⟨⟨hPS.1, (hI.c.now.firmI (g := some (w.heap.size + 1)) (HPN.out.2.2.1.far fun k hk => by injection hk with hk; omega)) Wz hgr, HX.out.1.o, HX.out.1.nx, HX.out.1.md, HX.out.1.pf⟩, ⟨hPS.2, fun hn a e => Nat.le_trans (Nat.le_add_right _ _) (HPN.out.2.2.1 hn a e), fun y hy => (hS1 y hy).2⟩, ?_, ?_⟩
        · unfold AtV.at
          dsimp only
          rw [hI.sg, HPN.out.2.2.2.1]
        · exact hI.old.trans (grown_below hgr hI.old.size (fun k hk => by injection hk with hk; omega))
      have HF := Lib.hid hfin
      clear f0 f1 f2 f3 f4 f5 hgr hfin
      have HW := Lib.hid hwz
      clear hwz hsz
      go_wp2_with fail
      refine ret_cell rfl rfl rfl HW.out Try.underlying26 rfl (by kernel_rfl) ?_
      exact ⟨_, rfl, HF.out⟩
end Go.Proofs.Ytadoflcomienoaa
/- A struct stored into, loaded out of, the middle of a block. -/
namespace Go.Proofs.Ytadoflcomienoaa
open Go Go.RowKit

section
variable {P : Program} {ops : Array Oper} {rest : List Oper} {o : Oper} {a : Act} {Q : Exit → Act → World → Prop} {w : World}
theorem store_mid (hgd : o.guard = none) (ty : TypeId) (x y : Operand) (ho : o.op = .store ty x y) (b off : Nat) (v : Value) (hx : a.eval x = .pointer (some ⟨b, off, none⟩)) (hy : a.eval y = v)
    {cur : Array Value} {T : TypeId} (hb : w.heap[b]? = some (.cells cur T (0, 0))) (hs : off + v.cells.size ≤ cur.size) (hi : (P.info? ty).map (·.size) = some v.cells.size) (h1 : v.cells.all (·.oneCell') = true)
    (h : ∀ w1 cur', w1.heap[b]? = some (.cells cur' T (0, 0)) → cur'.size = cur.size → (∀ q, cur'[q]? = if off ≤ q ∧ q < off + v.cells.size then v.cells[q - off]? else cur[q]?) → SetB w w1 b (.cells cur' T (0, 0)) → wpList P ops Q rest (a.put o.dst undef) w1) : wpList P ops Q (o :: rest) a w :=
  wpList_plain hgd fun K hK => by
    obtain ⟨w1, cur', e1, e2, e3, e4, e5⟩ := Rep.run_storeCells' (P := P) b off T v.cells.toList 0 w cur hb (fun u hu => (Array.all_eq_true_iff_forall_mem.1 h1) u (by simpa using hu)) (by simpa using hs)
    have hk := hK _ _ (h w1 cur' e2 e3 (fun q => by have := e4 q; simpa using this) e5)
    have hr : (Instr.storeAt ty (.pointer (some ⟨b, off, none⟩)) v).run P w = .ok () w1 := by
      cases hq : P.info? ty with
      | none => simp [hq] at hi
      | some i =>
        have hs2 : v.cells.size = i.size := by simp [hq] at hi; omega
        simp only [Instr.storeAt, Instr.sureAddr, Sem.run_bind, Sem.run_pure, Result.andThen_ok]
        simp [storeVar, sizeOf, typeInfo, hq, hs2, e1]
    unfold Oper.wp execOp
    simp only [ho, hx, hy, Sem.run_bind, hr, Sem.run_pure, Result.andThen_ok]
    exact hk
end
theorem load_mid {P : Program} {ops : Array Oper} {rest : List Oper} {o : Oper} {a : Act} {Q : Exit → Act → World → Prop} {w : World} (hgd : o.guard = none) (ty : TypeId) (x : Operand) (ho : o.op = .load ty x) (b off : Nat) (cells : Array Value) (hx : a.eval x = .pointer (some ⟨b, off, none⟩))
    (hb : w.rangeAt b off cells.toList) {d : TypeDesc} (hu : P.underlying ty = some d) (hd : d.isRow = true) (hi : (P.info? ty).map (·.size) = some cells.size) (h : wpList P ops Q rest (a.put o.dst (.agg cells)) w) : wpList P ops Q (o :: rest) a w :=
  op_value hgd _ (exec_load_mid ty x ho b off cells hx hb hu hd hi) h
end Go.Proofs.Ytadoflcomienoaa
/- What is said behind an update, as the program tells. -/
namespace Go.Proofs.Ytadoflcomienoaa
open Go.RowKit
open Go.ChangeMaps (setBlock)

def smAt (a : At) : Prop := a.p.length ≤ 1000000 ∧ a.c.length ≤ 1000000 ∧ ∀ s ∈ a.p, s.2.length ≤ 1000000
theorem smA_at {w : World} {x : AtV} (hx : AtOk w x) (h : smAt x.at) : SmA x := by
  obtain ⟨h1, h2, h3⟩ := h
  refine ⟨?_, ?_, fun y hy => ?_⟩
  · have h4 : x.p.n = x.p.l.length := hx.p.sl.len
    have h5 : x.at.p.length = x.p.l.length := List.length_map ..
    omega
  · have h4 : x.c.n = x.c.l.length := hx.c.sl.len
    have h5 : x.at.c.length = x.c.l.length := rfl
    omega
  · have h4 : y.s.n = y.s.l.length := (hx.p.all y hy).sl.len
    have h5 := h3 y.sg (List.mem_map_of_mem hy)
    have h6 : y.sg.2.length = y.s.l.length := rfl
    omega
def setY (L : List SyV) (x : SyV) : List SyV := (L.filter fun y => decide (y.k ≠ x.k)) ++ [x]
theorem setY_spec {L : List SyV} (hL : (L.map SyV.k).Nodup) (x : SyV) : ((setY L x).map SyV.k).Nodup ∧ (∀ k, Kl.look SyV.k (setY L x) k = if k = x.k then some x else Kl.look SyV.k L k) ∧ (∀ y ∈ setY L x, y ∈ L ∨ y = x) ∧ (setY L x).length ≤ L.length + 1 := by
  have hno : Kl.look SyV.k (L.filter fun y => decide (y.k ≠ x.k)) x.k = none := Kl.look_no fun y hy => by simpa using (List.mem_filter.1 hy).2
  have h := firsts_put (Kl.nodup_filter hL fun y => decide (y.k ≠ x.k)) hno
  refine ⟨h.1, fun k => ?_, fun y hy => ?_, ?_⟩
  · rw [show setY L x = (L.filter fun y => decide (y.k ≠ x.k)) ++ [x] from rfl, h.2 k]
    by_cases hk : k = x.k
    · rw [if_pos hk, if_pos hk]
    · rw [if_neg hk, if_neg hk, Kl.look_filter hL]
      cases hl : Kl.look SyV.k L k with
      | none => rfl
      | some y =>
        have h2 := (Kl.look_mem hl).2
        rw [Option.filter_some, if_pos]
        simp only [decide_eq_true_eq]
        rw [h2]; exact hk
  · rcases List.mem_append.1 hy with h1 | h1
    · exact .inl (List.mem_filter.1 h1).1
    · exact .inr (List.mem_singleton.1 h1)
  · unfold setY
    rw [List.length_append, List.length_singleton]
    have := List.length_filter_le (fun y : SyV => decide (y.k ≠ x.k)) L
    omega
theorem keys_take {l : List Nl} {i : Nat} (hi : i < l.length) {x : Nl} (hx : l.getD i default = x) (k : PK) : k ∈ (l.take (i + 1)).map Nl.key ↔ k ∈ (l.take i).map Nl.key ∨ k = x.key := by
  rw [take_snoc l i hi, hx, List.map_append, List.mem_append]
  simp
/-- behind the first i that go; behind the first j that come -/
def lookG (sl : List SyV) (g : List Nl) (k : PK) : Option SyV := if k ∈ g.map Nl.key then none else Kl.look SyV.k sl k
def lookR (sl : List SyV) (g r : List Nl) (a : AtV) (k : PK) : Option SyV := if k ∈ r.map Nl.key then some ⟨k, a⟩ else lookG sl g k
structure GoI (W0 : World) (sl : List SyV) (f : PK → Option SyV) (n : Nat) (bm : Nat) (L : List SyV) (wr : World) : Prop where
  at' : SaidAt wr bm L
  look : ∀ k, Kl.look SyV.k L k = f k
  ok : ∀ x ∈ L, SyOk W0 x ∧ smAt x.a.at
  len : L.length ≤ n
  old : Below W0.heap.size W0 wr
structure ApI (w : World) (O0 : List SyV) (pa : Option Addr) (pn pc i : Nat) (O : List SyV) (wr : World) : Prop where
  own : RSy.Own wr w.heap.size (.slice pa pn pc) O
  sy : O.map SyV.sy = O0.map SyV.sy
  ok : ∀ j, j < i → Firm (Value.ownBlock (.slice pa pn pc)) wr (fun W => AtOk W (O.getD j default).a)
  rest : ∀ j, i ≤ j → O.getD j default = O0.getD j default
  old : Below w.heap.size w wr
theorem ord_map {O M : List SyV} (h : O.map SyV.sy = M.map SyV.sy) (hM : Kl.Ordered (ltB SyV.k) M) : Kl.Ordered (ltB SyV.k) O := by
  have hk : O.map SyV.k = M.map SyV.k := by
    have := congrArg (List.map Sy.k) h
    rw [List.map_map, List.map_map] at this
    exact this
  have h1 : (M.map SyV.k).Pairwise fun a b => ltK a b = true := List.pairwise_map.2 hM
  rw [← hk] at h1
  exact List.pairwise_map.1 h1
set_option maxRecDepth 100000 in
set_option maxHeartbeats 16000000 in
theorem dapply_any {w : World} {sa : Option Addr} {sn sc : Nat} {sl : List SyV} {u : UpV} (h : SlOk RSy SyOk w ⟨sa, sn, sc, sl⟩) (hu : UpOk w u) (hsm : ∀ s ∈ sl, smAt s.a.at) (hsu : smAt u.a.at) (hlen : sn + u.r.n ≤ 16384) : Calls Try.prog 12 #[.slice sa sn sc, u.v] w fun e w' => ∃ v O, e = .returned v ∧ OwnP RSy SyOk w' w.heap.size v O ∧ Kl.Ordered (ltB SyV.k) O ∧ (∀ k, lookA (O.map SyV.sy) k = appF u.up (lookA (sl.map SyV.sy)) k) ∧ (∀ s ∈ O, smAt s.a.at) ∧ O.length ≤ sn + u.r.n ∧ Below w.heap.size w w' := by
  have hal := (Below.refl w.heap.size w).alloc (Nat.le_refl _) (.cells #[.slice u.g.a u.g.n u.g.c, .slice u.r.a u.r.n u.r.c, .int .i64 u.a.o, .slice u.a.p.a u.a.p.n u.a.p.c, .int .u32 u.a.nx, .int .i64 u.a.md, .int .i64 u.a.pf, .slice u.a.c.a u.a.c.n u.a.c.c, .bool u.soft] 48)
  have hX : BxU w.heap.size u (w.alloc (.cells #[.slice u.g.a u.g.n u.g.c, .slice u.r.a u.r.n u.r.c, .int .i64 u.a.o, .slice u.a.p.a u.a.p.n u.a.p.c, .int .u32 u.a.nx, .int .i64 u.a.md, .int .i64 u.a.pf, .slice u.a.c.a u.a.c.n u.a.c.c, .bool u.soft] 48)) := hnew _ _
  have hsz : (w.alloc (.cells #[.slice u.g.a u.g.n u.g.c, .slice u.r.a u.r.n u.r.c, .int .i64 u.a.o, .slice u.a.p.a u.a.p.n u.a.p.c, .int .u32 u.a.nx, .int .i64 u.a.md, .int .i64 u.a.pf, .slice u.a.c.a u.a.c.n u.a.c.c, .bool u.soft] 48)).heap.size = w.heap.size + 1 := by simp
  have HO := Lib.hid (of_any (h.keepY hal))
  have hsn : sn = sl.length := h.sl.len
  have F0 := Lib.hid (And.intro hal (And.intro hX (And.intro (h.keepY hal) (And.intro (hu.keep hal) (And.intro hsm (And.intro hsu (And.intro hsz (And.intro hlen hsn))))))))
  obtain ⟨c0, c1, c2, c3, c4, c5, c6, c7, c8⟩ := hX.cells
  obtain ⟨k0, hk0⟩ : ∃ k, sn + u.r.n = k := ⟨_, rfl⟩
  unfold UpV.v
  clear hal hX hsz h hu hsm hsu hlen hsn hk0
  go_enter Try.func12, Try.ntmps12
  go_wp2_with fail
  generalize w.alloc (.cells #[.slice u.g.a u.g.n u.g.c, .slice u.r.a u.r.n u.r.c, .int .i64 u.a.o, .slice u.a.p.a u.a.p.n u.a.p.c, .int .u32 u.a.nx, .int .i64 u.a.md, .int .i64 u.a.pf, .slice u.a.c.a u.a.c.n u.a.c.c, .bool u.soft] 48) = W0 at *
  refine (HO.out).mono ?_
  rintro e w1 ⟨bm, rfl, hm, hbm, hb⟩
  have hfs := firstsK_spec (key := SyV.k) sl
  have HG := Lib.hid (show GoI W0 sl (lookG sl []) sn bm (firstsK SyV.k sl) w1 ∧ W0.heap.size ≤ bm from ⟨⟨hm, hfs.2.1, fun x hx => ⟨F0.out.2.2.1.all x (hfs.2.2.1 x hx), F0.out.2.2.2.2.1 x (hfs.2.2.1 x hx)⟩, by rw [F0.out.2.2.2.2.2.2.2.2]; exact hfs.2.2.2, hb⟩, hbm⟩)
  obtain ⟨d0, d1, d2, d3, d4, d5, d6, d7, d8⟩ := (F0.out.2.1.keep hb).cells
  clear hm hbm hb hfs c0 c1 c2 c3 c4 c5 c6 c7 c8 HO
  go_wp2_with fail
  clear d0 d1 d2 d3 d4 d5 d6 d7 d8
  go_loopw [17] (fun iv wr => ∃ (i : Nat) (L : List SyV), i ≤ u.g.n ∧ iv = .int .i64 i ∧ GoI W0 sl (lookG sl (u.g.l.take i)) sn bm L wr) (fun iv _ => u.g.n - (intOf iv).toNat)
  case atStart => exact ⟨0, _, Nat.zero_le _, rfl, HG.out.1⟩
  case round =>
    obtain ⟨i, L, hi, rfl, hg⟩ := hrel
    obtain ⟨w2, rfl⟩ : ∃ w2 : World, w2 = wr := ⟨_, rfl⟩
    by_cases hlt : i < u.g.n
    · have hil : ((i : Int) < (u.g.n : Int)) = True := by simp; omega
      have hgm : u.g.n ≤ maxLen := F0.out.2.2.2.1.g.sl.max
      have hw3 := wrapS hlt hgm
      have hsl := F0.out.2.2.2.1.g.keepN hg.old
      have hlL : i < u.g.l.length := by rw [← hsl.sl.len]; exact hlt
      obtain ⟨b, o, ea, hbb, hat⟩ := hsl.sl.at hlt
      obtain ⟨x, hx⟩ : ∃ x, u.g.l.getD i default = x := ⟨_, rfl⟩
      rw [hx] at hat
      have hok : NlOk w2 x := hsl.all x (by rw [← hx]; exact getD_mem hlL)
      have hpk : PN.ok x.key := ⟨wfU ⟨by omega, by have := hok.1; show ((x.a : Nat) : Int) ≤ _; omega⟩, wfI hok.2.2⟩
      have c0 := hat 0 (by decide)
      have c1 := hat 1 (by decide)
      have c2 := hat 2 (by decide)
      simp only [RNl, Nat.add_zero, List.getElem?_cons_zero, List.getElem?_cons_succ] at c0 c1 c2
      rw [ea]
      have G := Lib.hid (And.intro hg (And.intro hlL (And.intro hx (And.intro hpk (And.intro hlt ea)))))
      clear hg hlL hx hpk hat hok hbb hsl hi hgm ea
      go_wp2_with (with_reducible refine halt_store 70 (x := .tmp 7) rfl ?_)
      refine Halted.go ?_
      have hal := (Below.refl w2.heap.size w2).alloc (Nat.le_refl _) (.cells #[.int .i64 0, .int .u32 0, .int .i64 0] 70)
      refine store_whole rfl 70 _ _ rfl w2.heap.size #[.int .i64 x.id, .int .u32 (x.a : Int), .int .i64 x.ln] rfl rfl (hnew _ _) rfl (by kernel_rfl) (by simp [Value.oneCell']) ?_
      intro W1 hwz hsz
      have hzb : Below w2.heap.size w2 W1 := Below.trans hal (hsz.below (Nat.le_refl _))
      obtain ⟨O1, hdel, hfin⟩ := (G.out.1.at'.keep hzb).delete G.out.2.2.2.1 33 0
      have hdel2 : (Builtin.delete_ #[65, 33] 0 #[.map (some bm), .agg #[.int .u32 (x.a : Int), .int .i64 x.ln]]).run Try.prog W1 = .ok (.tuple #[]) (setBlock W1 bm O1) := hdel
      obtain ⟨z0, z1, z2⟩ := BxN.cells (n := x) (W := W1) hwz
      have HF := Lib.hid (show GoI W0 sl (lookG sl (u.g.l.take (i + 1))) sn bm (L.filter fun y => decide (y.k ≠ x.key)) (setBlock W1 bm O1) from by
        refine ⟨hfin, fun k => ?_, fun y hy => G.out.1.ok y (List.mem_filter.1 hy).1, Nat.le_trans (List.length_filter_le _ _) G.out.1.len, below_setBlock (bcall G.out.1.old (Nat.le_refl _) hzb) HG.out.2⟩
        rw [Kl.look_filter G.out.1.at'.nd, G.out.1.look k]
        unfold lookG
        by_cases h1 : k ∈ (u.g.l.take i).map Nl.key
        · rw [if_pos h1, if_pos ((keys_take G.out.2.1 G.out.2.2.1 k).2 (.inl h1))]
          rfl
        · rw [if_neg h1]
          by_cases h2 : k = x.key
          · rw [if_pos ((keys_take G.out.2.1 G.out.2.2.1 k).2 (.inr h2))]
            cases hq : Kl.look SyV.k sl k with
            | none => rfl
            | some y =>
              have := (Kl.look_mem hq).2
              rw [Option.filter_some, if_neg]
              rw [decide_eq_true_eq, this, h2]
              exact fun h => h rfl
          · rw [if_neg (fun h => ((keys_take G.out.2.1 G.out.2.2.1 k).1 h).elim h1 h2)]
            cases hq : Kl.look SyV.k sl k with
            | none => rfl
            | some y =>
              have := (Kl.look_mem hq).2
              rw [Option.filter_some, if_pos]
              simp only [decide_eq_true_eq]
              rw [this]; exact h2)
      have hlt := G.out.2.2.2.2.1
      have HEA := Lib.hid G.out.2.2.2.2.2
      clear hdel hfin hwz hsz hal hzb c0 c1 c2
      go_wp2_with fail
      exact ⟨⟨i + 1, _, hlt, by first | rw [hw3] | rw [Int.natCast_succ], HF.out⟩, by first | (rw [hw3]; exact mSucc hlt) | (rw [← Int.natCast_succ]; exact mSucc hlt)⟩
    · obtain rfl : i = u.g.n := by omega
      have hil : ((u.g.n : Int) < (u.g.n : Int)) = False := by simp
      have hgl : u.g.n = u.g.l.length := F0.out.2.2.2.1.g.sl.len
      have hg2 := hg
      rw [hgl, List.take_length] at hg2
      have H2 := Lib.hid hg2
      obtain ⟨d0, d1, d2, d3, d4, d5, d6, d7, d8⟩ := (F0.out.2.1.keep hg.old).cells
      clear hg hg2 hi hlt hgl
      go_wp2_with fail
      clear d0 d1 d2 d3 d4 d5 d6 d7 d8
      go_loopw [28] (fun iv wr => ∃ (i : Nat) (L : List SyV), i ≤ u.r.n ∧ iv = .int .i64 i ∧ GoI W0 sl (lookR sl u.g.l (u.r.l.take i) u.a) (sn + i) bm L wr) (fun iv _ => u.r.n - (intOf iv).toNat)
      case atStart => exact ⟨0, _, Nat.zero_le _, rfl, ⟨H2.out.at', fun k => by rw [H2.out.look k]; rfl, H2.out.ok, H2.out.len, H2.out.old⟩⟩
      case round =>
        obtain ⟨i, L, hi, rfl, hg⟩ := hrel
        obtain ⟨w3, rfl⟩ : ∃ w3 : World, w3 = wr := ⟨_, rfl⟩
        by_cases hlt : i < u.r.n
        · have hil : ((i : Int) < (u.r.n : Int)) = True := by simp; omega
          have hgm : u.r.n ≤ maxLen := F0.out.2.2.2.1.r.sl.max
          have hw3 := wrapS hlt hgm
          have hsl := F0.out.2.2.2.1.r.keepN hg.old
          have hlL : i < u.r.l.length := by rw [← hsl.sl.len]; exact hlt
          obtain ⟨b, o, ea, hbb, hat⟩ := hsl.sl.at hlt
          obtain ⟨x, hx⟩ : ∃ x, u.r.l.getD i default = x := ⟨_, rfl⟩
          rw [hx] at hat
          have hok : NlOk w3 x := hsl.all x (by rw [← hx]; exact getD_mem hlL)
          have hpk : PN.ok x.key := ⟨wfU ⟨by omega, by have := hok.1; show ((x.a : Nat) : Int) ≤ _; omega⟩, wfI hok.2.2⟩
          have c0 := hat 0 (by decide)
          have c1 := hat 1 (by decide)
          have c2 := hat 2 (by decide)
          simp only [RNl, Nat.add_zero, List.getElem?_cons_zero, List.getElem?_cons_succ] at c0 c1 c2
          rw [ea]
          have G := Lib.hid (And.intro hg (And.intro hlL (And.intro hx (And.intro hpk (And.intro hlt (And.intro ea (show x.a < 4294967296 ∧ I64 x.ln from ⟨hok.1, hok.2.2⟩)))))))
          clear hg hlL hx hpk hat hok hbb hsl hi hgm ea
          go_wp2_with (with_reducible refine halt_store 70 (x := .tmp 9) rfl ?_)
          refine Halted.go ?_
          have hal := (Below.refl w3.heap.size w3).alloc (Nat.le_refl _) (.cells #[.int .i64 0, .int .u32 0, .int .i64 0] 70)
          refine store_whole rfl 70 _ _ rfl w3.heap.size #[.int .i64 x.id, .int .u32 (x.a : Int), .int .i64 x.ln] rfl rfl (hnew _ _) rfl (by kernel_rfl) (by simp [Value.oneCell']) ?_
          intro W1 hwz hsz
          have hzb : Below w3.heap.size w3 W1 := Below.trans hal (hsz.below (Nat.le_refl _))
          have hsp := setY_spec G.out.1.at'.nd (⟨x.key, u.a⟩ : SyV)
          obtain ⟨O1, hupd, hfin⟩ := (G.out.1.at'.keep hzb).put (x := (⟨x.key, u.a⟩ : SyV)) G.out.2.2.2.1 hsp.1 hsp.2.1
          have hupd2 : (Instr.mapUpdate 65 (.map (some bm)) (.agg #[.int .u32 (x.a : Int), .int .i64 x.ln]) (.agg #[.int .i64 u.a.o, .slice u.a.p.a u.a.p.n u.a.p.c, .int .u32 u.a.nx, .int .i64 u.a.md, .int .i64 u.a.pf, .slice u.a.c.a u.a.c.n u.a.c.c])).run Try.prog W1 = .ok () (setBlock W1 bm O1) := hupd
          obtain ⟨z0, z1, z2⟩ := BxN.cells (n := x) (W := W1) hwz
          have HF := Lib.hid (show GoI W0 sl (lookR sl u.g.l (u.r.l.take (i + 1)) u.a) (sn + (i + 1)) bm (setY L ⟨x.key, u.a⟩) (setBlock W1 bm O1) from by
            refine ⟨hfin, fun k => ?_, fun y hy => ?_, by have := hsp.2.2.2; have := G.out.1.len; omega, below_setBlock (bcall G.out.1.old (Nat.le_refl _) hzb) HG.out.2⟩
            · rw [hsp.2.1 k]
              unfold lookR
              by_cases h2 : k = x.key
              · rw [if_pos h2, if_pos ((keys_take G.out.2.1 G.out.2.2.1 k).2 (.inr h2)), h2]
              · rw [if_neg h2, G.out.1.look k]
                unfold lookR
                by_cases h1 : k ∈ (u.r.l.take i).map Nl.key
                · rw [if_pos h1, if_pos ((keys_take G.out.2.1 G.out.2.2.1 k).2 (.inl h1))]
                · rw [if_neg h1, if_neg (fun h => ((keys_take G.out.2.1 G.out.2.2.1 k).1 h).elim h1 h2)]
            · rcases hsp.2.2.1 y hy with h1 | h1
              · exact G.out.1.ok y h1
              · subst h1
                exact ⟨⟨G.out.2.2.2.2.2.2, F0.out.2.2.2.1.a⟩, F0.out.2.2.2.2.2.1⟩)
          obtain ⟨d0, d1, d2, d3, d4, d5, d6, d7, d8⟩ := (F0.out.2.1.keep (bcall G.out.1.old (Nat.le_refl _) hzb)).cells
          have hlt := G.out.2.2.2.2.1
          have HEA := Lib.hid G.out.2.2.2.2.2.1
          clear hupd hfin hwz hsz hal hzb c0 c1 c2 hsp d0 d1 d8
          go_wp2_with fail
          exact ⟨⟨i + 1, _, hlt, by first | rw [hw3] | rw [Int.natCast_succ], HF.out⟩, by first | (rw [hw3]; exact mSucc hlt) | (rw [← Int.natCast_succ]; exact mSucc hlt)⟩
        · obtain rfl : i = u.r.n := by omega
          have hil : ((u.r.n : Int) < (u.r.n : Int)) = False := by simp
          have hrl : u.r.n = u.r.l.length := F0.out.2.2.2.1.r.sl.len
          have hll : L.length ≤ 16384 := by have := hg.len; have := F0.out.2.2.2.2.2.2.2.1; omega
          have HL := Lib.hid (list_any hg.at' (by omega))
          have hlk := hg.look
          rw [show u.r.l.take u.r.n = u.r.l from by rw [hrl, List.take_length]] at hlk
          have H3 := Lib.hid (And.intro hg.old (And.intro hg.ok (And.intro hlk (And.intro hg.at'.nd (And.intro hll hg.len)))))
          clear hg hi hlt hrl hll hlk
          go_wp2_with fail
          refine (HL.out).mono ?_
          rintro e w5 ⟨v5, rfl, ho5, hb5⟩
          have hbw5 : Below W0.heap.size W0 w5 := bcall H3.out.1 (Nat.le_refl _) hb5
          have hww : Below w.heap.size w w5 := F0.out.1.trans (hbw5.mono F0.out.1.size)
          obtain ⟨⟨pa, pn, pc, pl⟩, rfl, hp1, hp2, hp3, hp4⟩ := Own_slok (ok := SyOk) ho5 (fun x hx => (H3.out.2.1 x ((sortK_perm L).mem_iff.1 hx)).1.keep hbw5)
          dsimp only at ho5 hp1 hp2 hp3 hp4 ⊢
          have hpn : pn = (sortK SyV.k L).length := by rw [← hp1]; exact hp2.sl.len
          have hpm : pn ≤ 16384 := by rw [hpn, sortK_length]; exact H3.out.2.2.2.2.1
          have hPW : Below w.heap.size w w5 := hww
          have H5 := Lib.hid (show ApI w (sortK SyV.k L) pa pn pc 0 (sortK SyV.k L) w5 from ⟨ho5.mono (Nat.le_trans F0.out.1.size H3.out.1.size), rfl, (fun j hj => absurd hj (Nat.not_lt_zero _)), fun _ _ => rfl, hww⟩)
          have H6 := Lib.hid (And.intro hpn (show ∀ x ∈ sortK SyV.k L, SyOk W0 x ∧ smAt x.a.at from fun x hx => H3.out.2.1 x ((sortK_perm L).mem_iff.1 hx)))
          have H7 := Lib.hid hbw5
          have H8 := Lib.hid (show ∀ k, Value.ownBlock (.slice pa pn pc) = some k → W0.heap.size ≤ k from fun k hk => Nat.le_trans H3.out.1.size (World.ownsRow.lt ho5 k hk).1)
          clear ho5 hb5 hbw5 hww hp1 hp2 hp3 hp4 hpn hPW HL
          go_wp2_with fail
          go_loopw [42] (fun iv wr => ∃ (i : Nat) (O : List SyV), i ≤ pn ∧ iv = .int .i64 i ∧ ApI w (sortK SyV.k L) pa pn pc i O wr ∧ Below W0.heap.size W0 wr) (fun iv _ => pn - (intOf iv).toNat)
          case atStart => exact ⟨0, _, Nat.zero_le _, rfl, H5.out, H7.out⟩
          case round =>
            obtain ⟨i, O, hi, rfl, hI, hW0⟩ := hrel
            obtain ⟨w6, rfl⟩ : ∃ w6 : World, w6 = wr := ⟨_, rfl⟩
            by_cases hlt : i < pn
            · have hil : ((i : Int) < (pn : Int)) = True := by simp; omega
              have hi0 : ((0 : Int) ≤ (i : Int)) = True := by simp
              have hw3 := wrapS hlt (show pn ≤ maxLen by unfold maxLen; omega)
              have hln : O.length = pn := by
                have h1 := congrArg List.length hI.sy
                rw [List.length_map, List.length_map, ← H6.out.1] at h1
                exact h1
              have hown := hI.own
              rcases hown.cases with ⟨e1, e2⟩ | ⟨g, cap, e1, hg1, hg2, hg3, hg4, hrow, -, cur, hcur, hcs⟩
              · rw [e2, List.length_nil] at hln; omega
              injection e1 with ea1 ea2 ea3
              subst ea1
              subst ea3
              have hat := hrow.get i (by omega)
              rw [Nat.zero_add] at hat
              rw [hI.rest i (Nat.le_refl _)] at hat
              obtain ⟨s, hse⟩ : ∃ s, (sortK SyV.k L).getD i default = s := ⟨_, rfl⟩
              rw [hse] at hat
              have hsok := H6.out.2 s (by rw [← hse]; exact getD_mem (by rw [← H6.out.1]; exact hlt))
              have HC := Lib.hid (copyOf_any (hsok.1.a.keep hW0) (smA_at hsok.1.a hsok.2))
              have c0 := hat 0 (by decide)
              have c1 := hat 1 (by decide)
              have c2 := hat 2 (by decide)
              have c3 := hat 3 (by decide)
              have c4 := hat 4 (by decide)
              have c5 := hat 5 (by decide)
              have c6 := hat 6 (by decide)
              have c7 := hat 7 (by decide)
              simp only [RSy, Nat.add_zero, List.getElem?_cons_zero, List.getElem?_cons_succ] at c0 c1 c2 c3 c4 c5 c6 c7
              have G := Lib.hid (And.intro hI (And.intro hln (And.intro hcur (And.intro (And.intro c0 c1) (And.intro hcs (And.intro hse (And.intro hg2 (And.intro hlt (And.intro hg3 hW0)))))))))
              unfold AtV.v at HC
              clear hI hln hown hrow hcur hat hsok hcs hse ea2 hg1 hg2 hg3 hg4 hi hW0
              go_wp2_with fail
              refine (HC.out).mono ?_
              rintro e V2 ⟨y, rfl, hy1, hy2, hy3, hb7⟩
              have G7 := Lib.hid (And.intro hb7 (And.intro hy1 (And.intro hy2 hy3)))
              clear c0 c1 c2 c3 c4 c5 c6 c7 hb7 hy1 hy2 hy3 HC
              go_wp2_with (with_reducible refine halt_store 26 (x := .tmp 54) rfl ?_)
              refine Halted.go ?_
              have hcur := (G7.out.1.block g G.out.2.2.2.2.2.2.1).trans G.out.2.2.1
              have hcap : i * 8 + 8 ≤ cur.size := by
                rw [G.out.2.2.2.2.1]
                have h1 := G.out.2.2.2.2.2.2.2.2.1
                have h2 := G.out.2.2.2.2.2.2.2.1
                have h3 := G.out.2.1
                show i * 8 + 8 ≤ pc * 8
                omega
              refine store_mid rfl 26 _ _ rfl g (i * 8 + 2) (.agg #[.int .i64 y.o, .slice y.p.a y.p.n y.p.c, .int .u32 y.nx, .int .i64 y.md, .int .i64 y.pf, .slice y.c.a y.c.n y.c.c]) rfl rfl hcur (by show i * 8 + 2 + 6 ≤ _; omega) (by kernel_rfl) (by simp [Value.cells, Value.oneCell']) ?_
              intro W3 cur' hset hcsz hcq hsb
              have hG1 : V2.grownBy W3 (some g) := ⟨hsb.os, hsb.tape, hsb.output, by rw [hsb.size]; exact Nat.le_refl _, fun k hk hne => hsb.other (fun e => hne (by rw [e]))⟩
              have hgw : w.heap.size ≤ g := (World.ownsRow.lt G.out.1.own g rfl).1
              have hgW0 : W0.heap.size ≤ g := H8.out g rfl
              have HN := Lib.hid (show ApI w (sortK SyV.k L) (some ⟨g, 0, none⟩) pn pc (i + 1) (O.set i ⟨s.k, y⟩) W3 ∧ Below W0.heap.size W0 W3 from by
                have hI := G.out.1
                have hln := G.out.2.1
                have hlt := G.out.2.2.2.2.2.2.2.1
                have hgd : O.getD i default = s := by rw [hI.rest i (Nat.le_refl _)]; exact G.out.2.2.2.2.2.1
                refine ⟨⟨?_, ?_, fun j hj => ?_, fun j hj => ?_, ?_⟩, (bcall G.out.2.2.2.2.2.2.2.2.2 (Nat.le_refl _) G7.out.1).trans (grown_below hG1 (Nat.le_trans G.out.2.2.2.2.2.2.2.2.2.size G7.out.1.size) (fun k hk => by injection hk with hk; omega))⟩
                · refine Rep.own_set (hI.own.below G7.out.1) hlt _ hcur hset hcsz fun q => ?_
                  rw [hcq q]
                  have hk8 : RSy.k = 8 := rfl
                  rw [hk8]
                  have hvs : (Value.agg #[.int .i64 y.o, .slice y.p.a y.p.n y.p.c, .int .u32 y.nx, .int .i64 y.md, .int .i64 y.pf, .slice y.c.a y.c.n y.c.c]).cells.size = 6 := rfl
                  rw [hvs]
                  by_cases hq : i * 8 + 2 ≤ q ∧ q < i * 8 + 2 + 6
                  · rw [if_pos hq, if_pos (by omega)]
                    obtain ⟨d, rfl⟩ : ∃ d, q = i * 8 + 2 + d := ⟨q - (i * 8 + 2), by omega⟩
                    rw [show i * 8 + 2 + d - (i * 8 + 2) = d by omega, show i * 8 + 2 + d - i * 8 = d + 1 + 1 by omega]
                    simp only [RSy, Value.cells, List.getElem?_cons_succ, List.getElem?_toArray]
                  · rw [if_neg hq]
                    by_cases hq2 : i * 8 ≤ q ∧ q < i * 8 + 8
                    · rw [if_pos hq2]
                      have h2 := G.out.2.2.2.1
                      have h3 := G.out.2.2.1
                      simp only [World.cell?, h3, Option.isSome_none, Bool.false_eq_true, if_false] at h2
                      rcases (show q = i * 8 ∨ q = i * 8 + 1 by omega) with rfl | rfl
                      · rw [Nat.sub_self, h2.1]
                        rfl
                      · rw [show i * 8 + 1 - i * 8 = 1 by omega, h2.2]
                        rfl
                    · rw [if_neg hq2]
                · rw [← hI.sy]
                  apply List.ext_getElem?
                  intro j
                  rw [List.getElem?_map, List.getElem?_map, List.getElem?_set]
                  by_cases hj : i = j
                  · subst hj
                    rw [if_pos rfl, if_pos (by omega), List.getElem?_eq_getElem (show i < O.length by omega)]
                    rw [List.getD_eq_getElem?_getD, List.getElem?_eq_getElem (show i < O.length by omega), Option.getD_some] at hgd
                    rw [hgd]
                    show some ((⟨s.k, y⟩ : SyV).sy) = some s.sy
                    unfold SyV.sy
                    rw [G7.out.2.2.2]
                  · rw [if_neg hj]
                · by_cases e : j = i
                  · subst e
                    rw [Rep.getD_set _ _ _ _ (by omega), if_pos rfl]
                    refine Firm.turn (w := V2) (g := some g) (g' := some g) (G7.out.2.1.firm (G7.out.2.2.1.far fun k hk => ?_)) hG1 (fun _ _ e => e)
                    injection hk with hk
                    rw [← hk]
                    exact G.out.2.2.2.2.2.2.1
                  · rw [Rep.getD_set _ _ _ _ (by omega), if_neg e]
                    exact Firm.turn (g' := some g) ((hI.ok j (by omega)).below G7.out.1) hG1 (fun _ _ e => e)
                · have h1 := hI.rest j (by omega)
                  rw [← h1]
                  simp only [List.getD_eq_getElem?_getD, List.getElem?_set, if_neg (show ¬ i = j by omega)]
                · exact (bcall hI.old (Nat.le_refl _) G7.out.1).trans (grown_below hG1 (Nat.le_trans hI.old.size G7.out.1.size) (fun k hk => by injection hk with hk; omega)))
              have hlt := G.out.2.2.2.2.2.2.2.1
              clear hcur hcap hset hcsz hcq hsb hG1 hgw hgW0
              go_wp2_with fail
              exact ⟨⟨i + 1, _, hlt, by first | rw [hw3] | rw [Int.natCast_succ], HN.out⟩, by first | (rw [hw3]; exact mSucc hlt) | (rw [← Int.natCast_succ]; exact mSucc hlt)⟩
            · obtain rfl : i = pn := by omega
              have hil : ((i : Int) < (i : Int)) = False := by simp
              have hln : i = O.length := by
                have h1 := congrArg List.length hI.sy
                rw [List.length_map, List.length_map, ← H6.out.1] at h1
                exact h1.symm
              have HF := Lib.hid (show OwnP RSy SyOk w6 w.heap.size (.slice pa i pc) O ∧ Kl.Ordered (ltB SyV.k) O ∧ (∀ k, lookA (O.map SyV.sy) k = appF u.up (lookA (sl.map SyV.sy)) k) ∧ (∀ s ∈ O, smAt s.a.at) ∧ O.length ≤ sn + u.r.n ∧ Below w.heap.size w w6 from by
                have hget : ∀ x ∈ O, ∃ z ∈ sortK SyV.k L, x.sy = z.sy := fun x hx => by
                  have h1 : x.sy ∈ O.map SyV.sy := List.mem_map_of_mem hx
                  rw [hI.sy] at h1
                  obtain ⟨z, hz, e⟩ := List.mem_map.1 h1
                  exact ⟨z, hz, e.symm⟩
                refine ⟨⟨hI.own, fun x hx => ?_⟩, ?_, fun k => ?_, fun x hx => ?_, ?_, hI.old⟩
                · obtain ⟨j, hj, rfl⟩ := List.getElem_of_mem hx
                  have h1 := hI.ok j (by omega)
                  rw [List.getD_eq_getElem?_getD, List.getElem?_eq_getElem hj, Option.getD_some] at h1
                  obtain ⟨z, hz, e⟩ := hget _ hx
                  have h2 := (H6.out.2 z hz).1.k
                  have h3 : (O[j]).k = z.k := congrArg Sy.k e
                  exact fun W hW => ⟨by rw [h3]; exact h2, h1 W hW⟩
                · have h1 := sortK_ord (key := SyV.k) H3.out.2.2.2.1
                  exact ord_map hI.sy h1
                · rw [hI.sy]
                  have hA : lookA (sl.map SyV.sy) k = (Kl.look SyV.k sl k).map (fun s => s.a.at) := by
                    unfold lookA
                    rw [look_map (key := SyV.k) SyV.sy (fun _ => rfl)]
                    cases Kl.look SyV.k sl k <;> rfl
                  have hL : lookA ((sortK SyV.k L).map SyV.sy) k = (lookR sl u.g.l u.r.l u.a k).map (fun s => s.a.at) := by
                    unfold lookA
                    rw [look_map (key := SyV.k) SyV.sy (fun _ => rfl), ← Kl.look_perm H3.out.2.2.2.1 (sortK_perm L).symm, H3.out.2.2.1 k]
                    cases lookR sl u.g.l u.r.l u.a k <;> rfl
                  rw [hL]
                  unfold lookR lookG appF
                  show _ = if k ∈ u.r.l.map Nl.key then some u.a.at else if k ∈ u.g.l.map Nl.key then none else lookA (sl.map SyV.sy) k
                  rw [hA]
                  split
                  · rfl
                  · split
                    · rfl
                    · rfl
                · obtain ⟨z, hz, e⟩ := hget _ hx
                  have h3 : x.a.at = z.a.at := congrArg Sy.a e
                  rw [h3]
                  exact (H6.out.2 z hz).2
                · rw [← hln, H6.out.1, sortK_length]
                  exact H3.out.2.2.2.2.2)
              clear hI hW0 hi hlt hln
              go_wp2_with fail
              go_ret
              first | exact ⟨_, _, rfl, HF.out⟩ | exact ⟨_, rfl, _, HF.out⟩
end Go.Proofs.Ytadoflcomienoaa
