/- The reference's trie: find. -/
import Derived.Test.YtdhebjeajdohoaaRc
import Derived.Test.YtdhebjeajdohoaaTw
import Derived.Test.YtdhebjeajdohoaaPc
import Derived.Test.YtdhebjeajdohoaaPc
import Derived.Test.YtdhebjeajdohoaaPc
import Derived.Test.YtdhebjeajdohoaaPc
namespace Go.Proofs.Ytdhebjeajdohoaa
open Go.RowKit

def RO : Rep ((Nat × Nat) × Int) := ⟨74, 3, by decide, fun e => [.int .u32 e.1.1, .int .i64 e.1.2, .int .i64 e.2], fun _ => rfl, fun _ => rfl⟩
theorem info74 : (Try.prog.info? 74).map (fun i => (i.zero, i.size, i.bytes)) = some (some (.agg #[.int .u32 0, .int .i64 0, .int .i64 0]), 3, 24) := by kernel_rfl
theorem T27 : Rep.Ty Try.prog 27 RO 24 := Rep.Ty.mk' Try.underlying27 (z := .agg #[.int .u32 0, .int .i64 0, .int .i64 0]) info74 rfl
/-- the reference's trie in memory -/
structure RefT (w : World) (c base : Nat) (E : List ((Nat × Nat) × Int)) : Prop where
  box : ∃ v, w.heap[c]? = some (.cells #[v] 29 (0, 0)) ∧ RO.Own w base v E
  le : True
theorem ro_cells {w : World} {b o : Nat} {x : (Nat × Nat) × Int} (h : RO.At w b o x) : w.cell? ⟨b, o, none⟩ = some (.int .u32 x.1.1) ∧ w.cell? ⟨b, o + 1, none⟩ = some (.int .i64 x.1.2) ∧ w.cell? ⟨b, o + 2, none⟩ = some (.int .i64 x.2) := ⟨h 0 (by decide), h 1 (by decide), h 2 (by decide)⟩
def ltI (e : Nat × Nat) (a : Nat) (l : Int) : Bool := decide (e.1 < a ∨ (e.1 = a ∧ (e.2 : Int) < l))
def idx (E : List ((Nat × Nat) × Int)) (a : Nat) (l : Int) : Nat := (E.takeWhile (fun e => ltI e.1 a l)).length
def fnd (E : List ((Nat × Nat) × Int)) (a : Nat) (l : Int) : Bool := decide (idx E a l < E.length) && decide ((E.getD (idx E a l) default).1.1 = a) && decide (((E.getD (idx E a l) default).1.2 : Int) = l)
theorem cmp_lt (e : Nat × Nat) (a : Nat) (l : Int) : (cmpP e.1 e.2 a l < 0) ↔ ltI e a l = true := by
  unfold cmpP ltI
  simp only [decide_eq_true_eq]
  split
  · rename_i h; simp [h]
  · rename_i h; split <;> simp [h]
theorem idx_le (E : List ((Nat × Nat) × Int)) (a : Nat) (l : Int) : idx E a l ≤ E.length := (List.takeWhile_prefix _).length_le
theorem idx_spec (E : List ((Nat × Nat) × Int)) (a : Nat) (l : Int) (i : Nat) (hi : i ≤ idx E a l) : (i < idx E a l → i < E.length ∧ ltI (E.getD i default).1 a l = true) ∧ (i = idx E a l → i < E.length → ltI (E.getD i default).1 a l = false) := by
  unfold idx at *
  induction E generalizing i with
  | nil => simp
  | cons e r ih =>
    by_cases h : ltI e.1 a l = true
    · rw [List.takeWhile_cons_of_pos (by exact h)] at hi ⊢
      cases i with
      | zero => simp [h]
      | succ i =>
        have := ih i (by simpa using hi)
        simpa using this
    · rw [List.takeWhile_cons_of_neg (by exact h)] at hi ⊢
      obtain rfl : i = 0 := by simpa using hi
      simp at h ⊢
      exact h
set_option maxHeartbeats 1000000 in
theorem rfind_any {w : World} {c base : Nat} {E : List ((Nat × Nat) × Int)} (h : RefT w c base E) (a : Nat) (l : Int) : Calls Try.prog 40 #[.pointer (some ⟨c, 0, none⟩), pfx a l] w fun e w' => e = .returned (.tuple #[.int .i64 (idx E a l), .bool (fnd E a l)]) ∧ Below w.heap.size w w' := by
  obtain ⟨⟨v, hbox, hown⟩, hle⟩ := h
  obtain ⟨oa, cc, rfl, -, -, hsl, -⟩ := hown.sl
  have hb0 := ((Below.refl w.heap.size w).alloc (Nat.le_refl _) (.cells #[.int .u32 a, .int .i64 l] 32))
  have hpb := hnew w (.cells #[.int .u32 a, .int .i64 l] 32)
  have hcl := lt_of_blk hbox
  have H0 := Lib.hid (And.intro hbox (And.intro hsl (And.intro hb0 hpb)))
  clear hbox hown hsl hb0 hpb hle
  have hmax : (E.length : Int) ≤ 9223372036854775807 := by have := H0.out.2.1.max; unfold maxLen at this; omega
  unfold pfx
  go_enter Try.func40, Try.ntmps40
  go_wp2_with fail
  obtain ⟨w1, hw1⟩ : ∃ w1 : World, w1 = w.alloc (.cells #[.int .u32 a, .int .i64 l] 32) := ⟨_, rfl⟩
  rw [← hw1] at H0 ⊢
  have hs1 : w1.heap.size = w.heap.size + 1 := by rw [hw1]; simp
  clear hw1
  go_loopw [6] (fun iv wr => ∃ i : Nat, i ≤ idx E a l ∧ iv = .int .i64 i ∧ Below w1.heap.size w1 wr) (fun iv _ => E.length + 1 - (intOf iv).toNat)
  case atStart => exact ⟨0, Nat.zero_le _, rfl, Below.refl _ _⟩
  case round =>
    obtain ⟨i, hi, rfl, hb⟩ := hrel
    have hbw := H0.out.2.2.1.trans (hb.mono H0.out.2.2.1.size)
    have hle := idx_le E a l
    have hsp := idx_spec E a l i hi
    have hcr := (hbw.block c hcl).trans H0.out.1
    have hpr := (hb.block w.heap.size (by omega)).trans H0.out.2.2.2
    by_cases hlt : i < E.length
    · obtain ⟨bb, oo, rfl, hbb, hat⟩ := H0.out.2.1.at hlt
      have har := hat.keep (hbw.block bb hbb)
      have hil : ((i : Int) < (E.length : Int)) = True := by simp; omega
      generalize hx : E.getD i default = x at *
      have HX := Lib.hid hx
      have HC := Lib.hid (fun w' => rcompare_any x.1.1 x.1.2 a l w')
      have HB := Lib.hid hbw
      have hcm := cmp_lt x.1 a l
      have HF := Lib.hid (fun w' (hw' : Below wr.heap.size wr w') => (⟨cell_of ((hw'.block c (Nat.lt_of_lt_of_le hcl hbw.size)).trans hcr) rfl, cell_of ((hw'.block w.heap.size (lt_of_blk hpr)).trans hpr) rfl, cell_of ((hw'.block w.heap.size (lt_of_blk hpr)).trans hpr) rfl, ro_cells (har.keep (hw'.block bb (Nat.lt_of_lt_of_le hbb hbw.size)))⟩ : w'.cell? ⟨c, 0, none⟩ = some (.slice (some ⟨bb, oo, none⟩) E.length cc) ∧ w'.cell? ⟨w.heap.size, 0, none⟩ = some (.int .u32 a) ∧ w'.cell? ⟨w.heap.size, 1, none⟩ = some (.int .i64 l) ∧ w'.cell? ⟨bb, oo + i * 3, none⟩ = some (.int .u32 x.1.1) ∧ w'.cell? ⟨bb, oo + i * 3 + 1, none⟩ = some (.int .i64 x.1.2) ∧ w'.cell? ⟨bb, oo + i * 3 + 2, none⟩ = some (.int .i64 x.2)))
      unfold pfx at HC
      by_cases hc : ltI x.1 a l = true
      · have hcc : (cmpP x.1.1 x.1.2 a l < 0) = True := by simp [hcm, hc]
        have hne : i ≠ idx E a l := fun e => by have := hsp.2 e hlt; rw [hc] at this; cases this
        have HI := Lib.hid (And.intro hne hb)
        generalize cmpP x.1.1 x.1.2 a l = cv at *
        clear hb hcr hpr har hx hcm hsp hne hat hbw
        go_wp2_with fail
        refine wp_region_quiet_tail (fun w' => Below wr.heap.size wr w') 19 (by kernel_rfl) (by kernel_rfl) (Below.drew (Below.refl _ _)) ?_
        simp only [List.take_succ_cons, List.take_zero, List.drop_succ_cons, List.drop_zero]
        iterate 19 ((with_reducible refine wpQuiet_step (fun K hK => ?_)); go_simp; first | ((with_reducible refine hK _ ?_); clear hK K) | (apply Exists.intro; (with_reducible refine ⟨fun w' hw' => ?_, hK _ ?_⟩); first | (go_at_call 54; (with_reducible refine (HC.out w').mono ?_); rintro e w2 ⟨rfl, hb2⟩; exact ⟨rfl, hw'.trans (hb2.mono hw'.size)⟩) | (obtain ⟨f1, f2, f3, f4, f5, f6⟩ := HF.out w' hw'; go_simp; first | exact rfl | exact ⟨rfl, rfl⟩); clear hK K))
        with_reducible refine wpQuiet_nil ?_
        intro wq hq
        have HQ := Lib.hid hq
        clear hq
        go_wp2_with fail
        go_roundw
        case rel => exact ⟨i + 1, by have := HI.out.1; omega, by go_num, HI.out.2.trans (HQ.out.mono HI.out.2.size)⟩
        case measure => simp [intOf]; omega
      · have hcc : (cmpP x.1.1 x.1.2 a l < 0) = False := by simp [hcm, hc]
        have hie : i = idx E a l := Classical.byContradiction fun hne => by have := (hsp.1 (by omega)).2; exact hc this
        have hf : fnd E a l = (decide (x.1.1 = a) && decide ((x.1.2 : Int) = l)) := by
          unfold fnd
          rw [← hie, hx]; simp [hlt]
        have hcase : (((x.1.1 : Int) = a) = True ∧ ((x.1.2 : Int) = l) = True ∧ fnd E a l = true) ∨ (((x.1.1 : Int) = a) = True ∧ ((x.1.2 : Int) = l) = False ∧ fnd E a l = false) ∨ (((x.1.1 : Int) = a) = False ∧ fnd E a l = false) := by
          rw [hf]
          by_cases h1 : x.1.1 = a <;> by_cases h2 : (x.1.2 : Int) = l <;> simp [h1, h2]
          all_goals omega
        generalize cmpP x.1.1 x.1.2 a l = cv at *
        have HIE := Lib.hid hie
        clear hb hcr hpr har hx hcm hsp hat hbw hf hie hi hle
        rcases hcase with ⟨h1, h2, hfv⟩ | ⟨h1, h2, hfv⟩ | ⟨h1, hfv⟩
        all_goals
          have HFV := Lib.hid hfv
          clear hfv
          go_wp2_with fail
          refine wp_region_quiet_tail (fun w' => Below wr.heap.size wr w') 19 (by kernel_rfl) (by kernel_rfl) (Below.drew (Below.refl _ _)) ?_
          simp only [List.take_succ_cons, List.take_zero, List.drop_succ_cons, List.drop_zero]
          iterate 19 ((with_reducible refine wpQuiet_step (fun K hK => ?_)); go_simp; first | ((with_reducible refine hK _ ?_); clear hK K) | (apply Exists.intro; (with_reducible refine ⟨fun w' hw' => ?_, hK _ ?_⟩); first | (go_at_call 54; (with_reducible refine (HC.out w').mono ?_); rintro e w2 ⟨rfl, hb2⟩; exact ⟨rfl, hw'.trans (hb2.mono hw'.size)⟩) | (obtain ⟨f1, f2, f3, f4, f5, f6⟩ := HF.out w' hw'; go_simp; first | exact rfl | exact ⟨rfl, rfl⟩); clear hK K))
          with_reducible refine wpQuiet_nil ?_
          intro wq hq
          have HQ := Lib.hid hq
          clear hq
          go_wp2_with fail
          refine wp_region_pieces (by kernel_rfl) ?_
          refine wpAny_seg (fun w' => w' = wq.drew) [0, 1, 2, 3, 4, 5, 6, 7, 8, 20, 9, 10, 11, 12, 13, 14, 15, 16, 17, 18, 19] (g := 1) rfl (by kernel_rfl) rfl ?_
          simp only [pick, List.getD_cons_zero, List.getD_cons_succ]
          obtain ⟨f1, f2, f3, f4, f5, f6⟩ := HF.out wq HQ.out
          iterate 21 ((with_reducible refine wpQuiet_step (fun K hK => ?_)); go_simp; (with_reducible refine hK _ ?_); clear hK K)
          with_reducible refine wpQuiet_nil ?_
          rintro _ rfl
          refine wpAny_pure [21] (g := 0) rfl (by kernel_rfl) (fun _ _ d _ _ h => by cases d <;> exact h) ?_
          simp only [pick, List.getD_cons_zero, List.getD_cons_succ]
          iterate 1 ((with_reducible refine wpPure_step (fun K hK => ?_)); go_simp; (with_reducible refine hK _ ?_); clear hK K)
          with_reducible refine wpPure_nil ?_
          refine wpAny_done (by kernel_rfl) ?_ _
          clear f1 f2 f3 f4 f5 f6
          go_wp2_with fail
          go_ret2
          exact ⟨by rw [← HIE.out, HFV.out]; rfl, HB.out.trans (HQ.out.drew.mono HB.out.size)⟩
    · have hil : ((i : Int) < (E.length : Int)) = False := by simp; omega
      have hie : i = idx E a l := by omega
      have hfv : fnd E a l = false := by unfold fnd; rw [← hie]; simp [hlt]
      have HB := Lib.hid hbw
      have HC := Lib.hid True.intro
      have HF := Lib.hid (fun w' (hw' : Below wr.heap.size wr w') => (⟨cell_of ((hw'.block c (Nat.lt_of_lt_of_le hcl hbw.size)).trans hcr) rfl, cell_of ((hw'.block w.heap.size (lt_of_blk hpr)).trans hpr) rfl, cell_of ((hw'.block w.heap.size (lt_of_blk hpr)).trans hpr) rfl, trivial, trivial, trivial⟩ : w'.cell? ⟨c, 0, none⟩ = some (.slice oa E.length cc) ∧ w'.cell? ⟨w.heap.size, 0, none⟩ = some (.int .u32 a) ∧ w'.cell? ⟨w.heap.size, 1, none⟩ = some (.int .i64 l) ∧ True ∧ True ∧ True))
      have HIE := Lib.hid hie
      have HFV := Lib.hid hfv
      clear hb hcr hpr hsp hbw hie hfv hi hle
      go_wp2_with fail
      refine wp_region_quiet_tail (fun w' => Below wr.heap.size wr w') 19 (by kernel_rfl) (by kernel_rfl) (Below.drew (Below.refl _ _)) ?_
      simp only [List.take_succ_cons, List.take_zero, List.drop_succ_cons, List.drop_zero]
      iterate 19 ((with_reducible refine wpQuiet_step (fun K hK => ?_)); go_simp; first | ((with_reducible refine hK _ ?_); clear hK K) | (apply Exists.intro; (with_reducible refine ⟨fun w' hw' => ?_, hK _ ?_⟩); first | (obtain ⟨f1, f2, f3, f4, f5, f6⟩ := HF.out w' hw'; go_simp; first | exact rfl | exact ⟨rfl, rfl⟩); clear hK K))
      with_reducible refine wpQuiet_nil ?_
      intro wq hq
      have HQ := Lib.hid hq
      clear hq
      go_wp2_with fail
      refine wp_region_pieces (by kernel_rfl) ?_
      refine wpAny_seg (fun w' => w' = wq.drew) [0, 1, 2, 3, 4, 5, 6, 7, 8, 20, 9, 10, 11, 12, 13, 14, 15, 16, 17, 18, 19] (g := 1) rfl (by kernel_rfl) rfl ?_
      simp only [pick, List.getD_cons_zero, List.getD_cons_succ]
      obtain ⟨f1, f2, f3, f4, f5, f6⟩ := HF.out wq HQ.out
      iterate 21 ((with_reducible refine wpQuiet_step (fun K hK => ?_)); go_simp; (with_reducible refine hK _ ?_); clear hK K)
      with_reducible refine wpQuiet_nil ?_
      rintro _ rfl
      refine wpAny_pure [21] (g := 0) rfl (by kernel_rfl) (fun _ _ d _ _ h => by cases d <;> exact h) ?_
      simp only [pick, List.getD_cons_zero, List.getD_cons_succ]
      iterate 1 ((with_reducible refine wpPure_step (fun K hK => ?_)); go_simp; (with_reducible refine hK _ ?_); clear hK K)
      with_reducible refine wpPure_nil ?_
      refine wpAny_done (by kernel_rfl) ?_ _
      clear f1 f2 f3 f4 f5 f6
      go_wp2_with fail
      go_ret2
      exact ⟨by rw [← HIE.out, HFV.out]; rfl, HB.out.trans (HQ.out.drew.mono HB.out.size)⟩
end Go.Proofs.Ytdhebjeajdohoaa
