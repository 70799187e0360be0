/- The reference's trie: Longest. -/
import Derived.Test.YtdhebjeajdohoaaRg
import Derived.Test.YtdhebjeajdohoaaRf
import Derived.Test.YtdhebjeajdohoaaTl
namespace Go.Proofs.Ytdhebjeajdohoaa
open Go.RowKit

def bst (E : List ((Nat × Nat) × Int)) (a : Nat) : Nat → Option Nat
  | 0 => none
  | i + 1 => if holdsP (E.getD i default).1.1 (E.getD i default).1.2 a && (match bst E a i with | none => true | some j => decide ((E.getD j default).1.2 < (E.getD i default).1.2)) then some i else bst E a i
/-- what the end of Longest reads -/
structure LongS (c bb o : Nat) (v : Value) (y : (Nat × Nat) × Int) (w : World) : Prop where
  box : w.cell? ⟨c, 0, none⟩ = some v
  c0 : w.cell? ⟨bb, o, none⟩ = some (.int .u32 y.1.1)
  c1 : w.cell? ⟨bb, o + 1, none⟩ = some (.int .i64 y.1.2)
  c2 : w.cell? ⟨bb, o + 2, none⟩ = some (.int .i64 y.2)
def bstN (E : List ((Nat × Nat) × Int)) (a i : Nat) : Int := match bst E a i with | none => -1 | some j => j
theorem bst_lt {E : List ((Nat × Nat) × Int)} {a : Nat} : ∀ {i j : Nat}, bst E a i = some j → j < i
  | 0, _, h => by cases h
  | i + 1, j, h => by
    rw [bst] at h
    split at h <;> split at h <;> first | (injection h with h; omega) | (have := bst_lt h; omega)
set_option maxRecDepth 100000 in
set_option maxHeartbeats 2000000 in
theorem rlong_any {w : World} {c base : Nat} {E : List ((Nat × Nat) × Int)} (h : RefT w c base E) (hk : ∀ e ∈ E, e.1.1 < 4294967296) (hE : E.length ≤ 1000000) (a : Nat) (ha : a < 4294967296) : Calls Try.prog 43 #[.pointer (some ⟨c, 0, none⟩), .int .u32 a] w fun e w' => e = .returned (.tuple (match bst E a E.length with | none => #[pfx 0 0, .int .i64 0, .bool false] | some j => #[pfx (E.getD j default).1.1 (E.getD j default).1.2, .int .i64 (E.getD j default).2, .bool true])) ∧ Below w.heap.size w w' := by
  have hb0 := ((Below.refl w.heap.size w).alloc (Nat.le_refl _) (.cells #[.int .u32 0, .int .i64 0] 32))
  have hpb := hnew w (.cells #[.int .u32 0, .int .i64 0] 32)
  obtain ⟨⟨v, hbox, hown⟩, hle⟩ := h
  obtain ⟨oa, cc, rfl, hlc, hcm, hsl, -⟩ := hown.sl
  have hcl := lt_of_blk hbox
  have H0 := Lib.hid (And.intro hbox (And.intro hsl (And.intro hb0 hpb)))
  have HK := Lib.hid (And.intro hk ha)
  clear hbox hown hsl hb0 hpb hk ha hle
  generalize hres : (match bst E a E.length with | none => #[pfx 0 0, .int .i64 0, .bool false] | some j => #[pfx (E.getD j default).1.1 (E.getD j default).1.2, .int .i64 (E.getD j default).2, .bool true]) = res
  have HR := Lib.hid hres
  clear hres
  go_enter Try.func43, Try.ntmps43
  go_wp2_with fail
  obtain ⟨w1, hw1⟩ : ∃ w1 : World, w1 = w.alloc (.cells #[.int .u32 0, .int .i64 0] 32) := ⟨_, rfl⟩
  rw [← hw1] at H0 ⊢
  have hs1 : w1.heap.size = w.heap.size + 1 := by rw [hw1]; simp
  clear hw1
  go_loopw [7, 8] (fun bv iv wr => ∃ i : Nat, i ≤ E.length ∧ bv = .int .i64 (bstN E a i) ∧ iv = .int .i64 i ∧ Below w1.heap.size w1 wr) (fun _ iv _ => E.length + 1 - (intOf iv).toNat)
  case atStart => exact ⟨0, Nat.zero_le _, rfl, rfl, Below.refl _ _⟩
  case round =>
    obtain ⟨i, hi, rfl, rfl, hb⟩ := hrel
    have hbw := H0.out.2.2.1.trans (hb.mono H0.out.2.2.1.size)
    have hcr := (hbw.block c hcl).trans H0.out.1
    have hpr := (hb.block w.heap.size (by omega)).trans H0.out.2.2.2
    have f0 : wr.cell? ⟨c, 0, none⟩ = some (.slice oa E.length cc) := cell_of hcr rfl
    by_cases hlt : i < E.length
    · obtain ⟨bb, oo, rfl, hbb, hat⟩ := H0.out.2.1.at hlt
      have har := hat.keep (hbw.block bb hbb)
      have hil : ((i : Int) < (E.length : Int)) = True := by simp; omega
      have hxk := HK.out.1 _ (show E.getD i default ∈ E by rw [List.getD_eq_getElem?_getD, List.getElem?_eq_getElem hlt]; exact List.getElem_mem _)
      have hstep : bst E a (i + 1) = if holdsP (E.getD i default).1.1 (E.getD i default).1.2 a && (match bst E a i with | none => true | some j => decide ((E.getD j default).1.2 < (E.getD i default).1.2)) then some i else bst E a i := rfl
      have hbl := fun j (hj : bst E a i = some j) => bst_lt hj
      have HB := Lib.hid (And.intro hb hbw)
      generalize E.getD i default = x at *
      have HC := Lib.hid (fun w' => rholds_any x.1.1 x.1.2 a hxk HK.out.2 w')
      unfold pfx at HC
      cases hv : holdsP x.1.1 x.1.2 a with
      | false =>
        have HS := Lib.hid (show bstN E a (i + 1) = bstN E a i by unfold bstN; rw [hstep, hv]; simp)
        rw [hv] at HC
        have HF := Lib.hid (fun w' (hw' : Below wr.heap.size wr w') => (⟨cell_of ((hw'.block c (Nat.lt_of_lt_of_le hcl hbw.size)).trans hcr) rfl, ro_cells (har.keep (hw'.block bb (Nat.lt_of_lt_of_le hbb hbw.size)))⟩ : w'.cell? ⟨c, 0, none⟩ = some (.slice (some ⟨bb, oo, none⟩) E.length cc) ∧ w'.cell? ⟨bb, oo + i * 3, none⟩ = some (.int .u32 x.1.1) ∧ w'.cell? ⟨bb, oo + i * 3 + 1, none⟩ = some (.int .i64 x.1.2) ∧ w'.cell? ⟨bb, oo + i * 3 + 2, none⟩ = some (.int .i64 x.2)))
        generalize bstN E a i = bv at *
        clear hv hb hcr hpr har hat hbw hstep hbl hxk
        go_wp2_with fail
        refine wp_region_quiet_tail (fun w' => Below wr.heap.size wr w') 34 (by kernel_rfl) (by kernel_rfl) (Below.drew (Below.refl _ _)) ?_
        simp only [List.take_succ_cons, List.take_zero, List.drop_succ_cons, List.drop_zero]
        iterate 34 ((with_reducible refine wpQuiet_step (fun K hK => ?_)); go_simp; first | ((with_reducible refine hK _ ?_); clear hK K) | ((rw [if_neg (by decide)]); (with_reducible refine hK _ ?_); clear hK K) | (apply Exists.intro; (with_reducible refine ⟨fun w' hw' => ?_, hK _ ?_⟩); first | (go_at_call 47; (with_reducible refine (HC.out w').mono ?_); rintro e w2 ⟨rfl, hb2⟩; exact ⟨rfl, hw'.trans (hb2.mono hw'.size)⟩) | (obtain ⟨f1, f2, f3, f4⟩ := HF.out w' hw'; go_simp; first | exact rfl | exact ⟨rfl, rfl⟩); clear hK K))
        with_reducible refine wpQuiet_nil ?_
        intro wq hq
        have HQ := Lib.hid hq
        clear hq
        go_wp2_with fail
        go_roundw
        case rel => exact ⟨i + 1, by omega, by rw [HS.out], by go_num, HB.out.1.trans (HQ.out.mono HB.out.1.size)⟩
        case measure => simp [intOf]; omega
      | true =>
        rw [hv] at HC
        cases hbi : bst E a i with
        | none =>
          have HS := Lib.hid (show bstN E a (i + 1) = i by unfold bstN; rw [hstep, hv, hbi]; simp)
          have hbn : bstN E a i = -1 := by unfold bstN; rw [hbi]
          rw [hbn]
          have HF := Lib.hid (fun w' (hw' : Below wr.heap.size wr w') => (⟨cell_of ((hw'.block c (Nat.lt_of_lt_of_le hcl hbw.size)).trans hcr) rfl, ro_cells (har.keep (hw'.block bb (Nat.lt_of_lt_of_le hbb hbw.size)))⟩ : w'.cell? ⟨c, 0, none⟩ = some (.slice (some ⟨bb, oo, none⟩) E.length cc) ∧ w'.cell? ⟨bb, oo + i * 3, none⟩ = some (.int .u32 x.1.1) ∧ w'.cell? ⟨bb, oo + i * 3 + 1, none⟩ = some (.int .i64 x.1.2) ∧ w'.cell? ⟨bb, oo + i * 3 + 2, none⟩ = some (.int .i64 x.2)))
          clear hv hb hcr hpr har hat hbw hstep hbl hxk hbi hbn
          go_wp2_with fail
          refine wp_region_quiet_tail (fun w' => Below wr.heap.size wr w') 34 (by kernel_rfl) (by kernel_rfl) (Below.drew (Below.refl _ _)) ?_
          simp only [List.take_succ_cons, List.take_zero, List.drop_succ_cons, List.drop_zero]
          iterate 34 ((with_reducible refine wpQuiet_step (fun K hK => ?_)); go_simp; first | ((with_reducible refine hK _ ?_); clear hK K) | ((rw [if_neg (by decide)]); (with_reducible refine hK _ ?_); clear hK K) | (apply Exists.intro; (with_reducible refine ⟨fun w' hw' => ?_, hK _ ?_⟩); first | (go_at_call 47; (with_reducible refine (HC.out w').mono ?_); rintro e w2 ⟨rfl, hb2⟩; exact ⟨rfl, hw'.trans (hb2.mono hw'.size)⟩) | (obtain ⟨f1, f2, f3, f4⟩ := HF.out w' hw'; go_simp; first | exact rfl | exact ⟨rfl, rfl⟩); clear hK K))
          with_reducible refine wpQuiet_nil ?_
          intro wq hq
          have HQ := Lib.hid hq
          clear hq
          go_wp2_with fail
          go_roundw
          case rel => exact ⟨i + 1, by omega, by rw [HS.out], by go_num, HB.out.1.trans (HQ.out.mono HB.out.1.size)⟩
          case measure => simp [intOf]; omega
        | some j =>
          have hji := hbl j hbi
          obtain ⟨b2, o2, e2, -, hat2⟩ := H0.out.2.1.at (show j < E.length by omega)
          injection e2 with e2
          injection e2 with e21 e22
          subst e21
          subst e22
          have har2 := hat2.keep (hbw.block bb hbb)
          have hjl : ((j : Int) < (E.length : Int)) = True := by simp; omega
          have hj0 : ((j : Int) < 0) = False := by simp only [eq_iff_iff, iff_false]; omega
          have hbn : bstN E a i = j := by unfold bstN; rw [hbi]
          rw [hbn]
          rw [hv, hbi] at hstep
          simp only [Bool.true_and, decide_eq_true_eq] at hstep
          generalize E.getD j default = y at *
          by_cases hyx : y.1.2 < x.1.2
          · rw [if_pos hyx] at hstep
            have HS := Lib.hid (show bstN E a (i + 1) = i by unfold bstN; rw [hstep])
            have hyx' : ((y.1.2 : Int) < (x.1.2 : Int)) = True := by simp; omega
            have HF := Lib.hid (fun w' (hw' : Below wr.heap.size wr w') => (⟨⟨cell_of ((hw'.block c (Nat.lt_of_lt_of_le hcl hbw.size)).trans hcr) rfl, ro_cells (har.keep (hw'.block bb (Nat.lt_of_lt_of_le hbb hbw.size)))⟩, (ro_cells (har2.keep (hw'.block bb (Nat.lt_of_lt_of_le hbb hbw.size)))).2.1⟩ : (w'.cell? ⟨c, 0, none⟩ = some (.slice (some ⟨bb, oo, none⟩) E.length cc) ∧ w'.cell? ⟨bb, oo + i * 3, none⟩ = some (.int .u32 x.1.1) ∧ w'.cell? ⟨bb, oo + i * 3 + 1, none⟩ = some (.int .i64 x.1.2) ∧ w'.cell? ⟨bb, oo + i * 3 + 2, none⟩ = some (.int .i64 x.2)) ∧ w'.cell? ⟨bb, oo + j * 3 + 1, none⟩ = some (.int .i64 y.1.2)))
            clear hv hb hcr hpr har hat har2 hat2 hbw hstep hbl hxk hbi hbn hji hyx
            go_wp2_with fail
            refine wp_region_quiet_tail (fun w' => Below wr.heap.size wr w') 34 (by kernel_rfl) (by kernel_rfl) (Below.drew (Below.refl _ _)) ?_
            simp only [List.take_succ_cons, List.take_zero, List.drop_succ_cons, List.drop_zero]
            iterate 34 ((with_reducible refine wpQuiet_step (fun K hK => ?_)); go_simp; first | ((with_reducible refine hK _ ?_); clear hK K) | ((rw [if_neg (by decide)]); (with_reducible refine hK _ ?_); clear hK K) | (apply Exists.intro; (with_reducible refine ⟨fun w' hw' => ?_, hK _ ?_⟩); first | (go_at_call 47; (with_reducible refine (HC.out w').mono ?_); rintro e w2 ⟨rfl, hb2⟩; exact ⟨rfl, hw'.trans (hb2.mono hw'.size)⟩) | (obtain ⟨⟨f1, f2, f3, f4⟩, f5⟩ := HF.out w' hw'; go_simp; first | exact rfl | exact ⟨rfl, rfl⟩); clear hK K))
            with_reducible refine wpQuiet_nil ?_
            intro wq hq
            have HQ := Lib.hid hq
            clear hq
            go_wp2_with fail
            go_roundw
            case rel => exact ⟨i + 1, by omega, by rw [HS.out], by go_num, HB.out.1.trans (HQ.out.mono HB.out.1.size)⟩
            case measure => simp [intOf]; omega
          · rw [if_neg hyx] at hstep
            have HS := Lib.hid (show bstN E a (i + 1) = j by unfold bstN; rw [hstep])
            have hyx' : ((y.1.2 : Int) < (x.1.2 : Int)) = False := by simp; omega
            have HF := Lib.hid (fun w' (hw' : Below wr.heap.size wr w') => (⟨⟨cell_of ((hw'.block c (Nat.lt_of_lt_of_le hcl hbw.size)).trans hcr) rfl, ro_cells (har.keep (hw'.block bb (Nat.lt_of_lt_of_le hbb hbw.size)))⟩, (ro_cells (har2.keep (hw'.block bb (Nat.lt_of_lt_of_le hbb hbw.size)))).2.1⟩ : (w'.cell? ⟨c, 0, none⟩ = some (.slice (some ⟨bb, oo, none⟩) E.length cc) ∧ w'.cell? ⟨bb, oo + i * 3, none⟩ = some (.int .u32 x.1.1) ∧ w'.cell? ⟨bb, oo + i * 3 + 1, none⟩ = some (.int .i64 x.1.2) ∧ w'.cell? ⟨bb, oo + i * 3 + 2, none⟩ = some (.int .i64 x.2)) ∧ w'.cell? ⟨bb, oo + j * 3 + 1, none⟩ = some (.int .i64 y.1.2)))
            clear hv hb hcr hpr har hat har2 hat2 hbw hstep hbl hxk hbi hbn hji hyx
            go_wp2_with fail
            refine wp_region_quiet_tail (fun w' => Below wr.heap.size wr w') 34 (by kernel_rfl) (by kernel_rfl) (Below.drew (Below.refl _ _)) ?_
            simp only [List.take_succ_cons, List.take_zero, List.drop_succ_cons, List.drop_zero]
            iterate 34 ((with_reducible refine wpQuiet_step (fun K hK => ?_)); go_simp; first | ((with_reducible refine hK _ ?_); clear hK K) | ((rw [if_neg (by decide)]); (with_reducible refine hK _ ?_); clear hK K) | (apply Exists.intro; (with_reducible refine ⟨fun w' hw' => ?_, hK _ ?_⟩); first | (go_at_call 47; (with_reducible refine (HC.out w').mono ?_); rintro e w2 ⟨rfl, hb2⟩; exact ⟨rfl, hw'.trans (hb2.mono hw'.size)⟩) | (obtain ⟨⟨f1, f2, f3, f4⟩, f5⟩ := HF.out w' hw'; go_simp; first | exact rfl | exact ⟨rfl, rfl⟩); clear hK K))
            with_reducible refine wpQuiet_nil ?_
            intro wq hq
            have HQ := Lib.hid hq
            clear hq
            go_wp2_with fail
            go_roundw
            case rel => exact ⟨i + 1, by omega, by rw [HS.out], by go_num, HB.out.1.trans (HQ.out.mono HB.out.1.size)⟩
            case measure => simp [intOf]; omega
    · obtain rfl : i = E.length := by omega
      have hil : ((E.length : Int) < (E.length : Int)) = False := by simp
      have hres := HR.out
      have HB := Lib.hid (And.intro hbw hpr)
      cases hbi : bst E a E.length with
      | none =>
        have hbn : bstN E a E.length = -1 := by unfold bstN; rw [hbi]
        rw [hbi] at hres
        rw [hbn]
        dsimp only at hres
        have HE := Lib.hid hres
        have d0 : wr.cell? ⟨w.heap.size, 0, none⟩ = some (.int .u32 0) := cell_of hpr rfl
        have d1 : wr.cell? ⟨w.heap.size, 1, none⟩ = some (.int .i64 0) := cell_of hpr rfl
        have e0 : ∀ o, wr.frozen? ⟨w.heap.size, o, none⟩ = false := fun o => free_of hpr
        clear hb hcr hpr hbw hbi hbn hres hi
        go_wp2_with fail
        have hs := ((SetB.self HB.out.2).store (o := 0) (lt_of_blk HB.out.2) (.int .u32 0)).store (o := 1) (lt_of_blk HB.out.2) (.int .i64 0)
        rw [← HE.out]
        refine ret_cell3 rfl rfl rfl (hs.at (lt_of_blk HB.out.2)) Try.underlying32 rfl (by kernel_rfl) ⟨rfl, HB.out.1.trans (hs.below (Nat.le_refl _))⟩
      | some j =>
        have hji := bst_lt hbi
        obtain ⟨bb, oo, rfl, hbb, hat⟩ := H0.out.2.1.at hji
        have har := hat.keep (hbw.block bb hbb)
        have hjl : ((j : Int) < (E.length : Int)) = True := by simp; omega
        have hj0 : ((j : Int) < 0) = False := by simp only [eq_iff_iff, iff_false]; omega
        have hbn : bstN E a E.length = j := by unfold bstN; rw [hbi]
        rw [hbi] at hres
        rw [hbn]
        dsimp only at hres
        unfold pfx at hres
        generalize E.getD j default = y at *
        have HE := Lib.hid hres
        have HS := Lib.hid (fun w' (hc : w'.heap[c]? = wr.heap[c]?) (hb : w'.heap[bb]? = wr.heap[bb]?) => (⟨cell_of (hc.trans hcr) rfl, (ro_cells (har.keep hb)).1, (ro_cells (har.keep hb)).2.1, (ro_cells (har.keep hb)).2.2⟩ : LongS c bb (oo + j * 3) (.slice (some ⟨bb, oo, none⟩) E.length cc) y w'))
        have d0 : wr.cell? ⟨w.heap.size, 0, none⟩ = some (.int .u32 0) := cell_of hpr rfl
        have d1 : wr.cell? ⟨w.heap.size, 1, none⟩ = some (.int .i64 0) := cell_of hpr rfl
        have e0 : ∀ o, wr.frozen? ⟨w.heap.size, o, none⟩ = false := fun o => free_of hpr
        clear hb hcr hbw hbi hbn hres hi hat har hpr
        go_wp2_with fail
        refine wp_region_heldP (LongS c bb (oo + j * 3) (.slice (some ⟨bb, oo, none⟩) E.length cc) y) (by kernel_rfl) ?_
        have hS := HS.out wr.drew rfl rfl
        have d0' : wr.drew.cell? ⟨w.heap.size, 0, none⟩ = some (.int .u32 0) := d0
        have d1' : wr.drew.cell? ⟨w.heap.size, 1, none⟩ = some (.int .i64 0) := d1
        have e0' : ∀ o, wr.drew.frozen? ⟨w.heap.size, o, none⟩ = false := e0
        refine held_reads [0, 1, 2, 3, 4, 5, 6, 7, 8, 9, 10, 11, 12, 13, 14, 15] (g := 3) rfl (by kernel_rfl) hS (fun _ _ d _ _ h => by cases d <;> exact h) ?_
        simp only [pick, List.getD_cons_zero, List.getD_cons_succ]
        iterate 16 ((with_reducible refine wpRead_step (fun K hK => ?_)); go_simp; first | ((with_reducible refine hK _ ?_); clear hK K) | (apply Exists.intro; (with_reducible refine ⟨fun w' hw' => ?_, hK _ ?_⟩); (obtain ⟨f1, f2, f3, f4⟩ := hw'; go_simp; first | exact rfl | exact ⟨rfl, rfl⟩); clear hK K))
        with_reducible refine wpRead_nil ?_
        refine held_one 16 (by kernel_rfl) ?_
        simp only [pick, List.getD_cons_zero, List.getD_cons_succ]
        go_wp2_with fail
        have hs := (((SetB.self HB.out.2).store (o := 0) (lt_of_blk HB.out.2) (.int .u32 y.1.1)).store (o := 1) (lt_of_blk HB.out.2) (.int .i64 y.1.2)).drew
        have hS2 := HS.out _ (hs.other (show c ≠ w.heap.size by omega)) (hs.other (show bb ≠ w.heap.size by omega))
        refine ⟨hS2, ?_⟩
        refine held_reads [17, 18] (g := 0) rfl (by kernel_rfl) hS2 (fun _ _ d _ _ h => by cases d <;> exact h) ?_
        simp only [pick, List.getD_cons_zero, List.getD_cons_succ]
        iterate 2 ((with_reducible refine wpRead_step (fun K hK => ?_)); go_simp; (apply Exists.intro; (with_reducible refine ⟨fun w' hw' => ?_, hK _ ?_⟩); first | exact rfl | exact ⟨rfl, rfl⟩; clear hK K))
        with_reducible refine wpRead_nil ?_
        refine wpAnyH_done (by kernel_rfl) ?_ _
        clear d0 d1 e0 d0' d1' e0' hS hS2
        go_wp2_with fail
        rw [← HE.out]
        refine ret_cell3 rfl rfl rfl (hs.at (lt_of_blk HB.out.2)) Try.underlying32 rfl (by kernel_rfl) ⟨rfl, HB.out.1.trans (hs.below (Nat.le_refl _))⟩
end Go.Proofs.Ytdhebjeajdohoaa
