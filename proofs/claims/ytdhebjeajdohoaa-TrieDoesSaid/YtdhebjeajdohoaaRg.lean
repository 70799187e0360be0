/- The reference's trie: Delete. -/
import Derived.Test.YtdhebjeajdohoaaRe
import Derived.Test.YtdhebjeajdohoaaPx
namespace Go.Proofs.Ytdhebjeajdohoaa
open Go.RowKit

def BoxS (c : Nat) (v : Value) (w : World) : Prop := w.heap[c]? = some (.cells #[v] 29 (0, 0))
set_option maxHeartbeats 2000000 in
theorem rdel_any {w : World} {c base : Nat} {E : List ((Nat × Nat) × Int)} (h : RefT w c base E) (hE : E.length ≤ 1000000) (a : Nat) (l : Int) : Calls Try.prog 13 #[.pointer (some ⟨c, 0, none⟩), pfx a l] w fun e w' => e = .returned (.bool (fnd E a l)) ∧ ((fnd E a l = true ∧ RefT w' c w.heap.size (E.take (idx E a l) ++ E.drop (idx E a l + 1)) ∧ But w w' [c]) ∨ (fnd E a l = false ∧ Below w.heap.size w w')) := by
  have hb0 := ((Below.refl w.heap.size w).alloc (Nat.le_refl _) (.cells #[.int .u32 a, .int .i64 l] 32))
  have hf := Lib.hid (rfind_any (h.keep hb0) a l)
  have hlt := fun hh => fnd_lt (E := E) (a := a) (l := l) hh
  obtain ⟨⟨v, hbox, hown⟩, hle⟩ := h
  obtain ⟨oa, cc, rfl, hlc, hcm, hsl, -⟩ := hown.sl
  have hoa : oa = none ∨ ∃ g, oa = some ⟨g, 0, none⟩ := by
    rcases hown.cases with ⟨hv, _⟩ | ⟨g, cap, hv, _⟩
    · injection hv; exact .inl ‹_›
    · injection hv; exact .inr ⟨g, ‹_›⟩
  have hcl := lt_of_blk hbox
  have H0 := Lib.hid (And.intro hbox (And.intro hsl hb0))
  clear hbox hown hb0
  unfold pfx at hf ⊢
  generalize idx E a l = i at *
  cases hfv : fnd E a l with
  | false =>
    rw [hfv] at hf
    clear hfv hlt hsl hoa
    go_enter Try.func13, Try.ntmps13
    go_wp2_with (go_at_call 40; refine (hf.out).mono ?_; rintro e w1 ⟨rfl, hb1⟩)
    go_ret
    exact ⟨rfl, .inr ⟨trivial, H0.out.2.2.trans (hb1.mono H0.out.2.2.size)⟩⟩
  | true =>
    have hi := hlt hfv
    rcases hoa with rfl | ⟨g, rfl⟩
    · obtain ⟨bb, oo, h9, -, -⟩ := hsl.at hi; cases h9
    rw [hfv] at hf
    clear hfv hlt hsl
    have hcc : (cc : Int) ≤ 9223372036854775807 := by unfold maxLen at hcm; omega
    have hi1 : ((i : Int) ≤ (cc : Int)) = True := by simp; omega
    have hi2 : ((i : Int) + 1 ≤ (E.length : Int)) = True := by simp; omega
    have hi3 : IntKind.i64.wrap ((i : Int) + 1) = (i : Int) + 1 := IntWalk.i64_in _ (by omega)
    have hi4 : ((E.length : Int) ≤ (cc : Int)) = True := by simp; omega
    go_enter Try.func13, Try.ntmps13
    go_wp2_with (go_at_call 40; refine (hf.out).mono ?_; rintro e w1 ⟨rfl, hb1⟩)
    have HB := Lib.hid ((H0.out.2.2.trans (hb1.mono H0.out.2.2.size)).drew)
    have hcw := (HB.out.block c hcl).trans H0.out.1
    clear hf hb1
    refine wp_region_T 19 (BoxS c (.slice (some ⟨g, 0, none⟩) E.length cc)) (by kernel_rfl) ?_
    have hcl2 := Nat.lt_of_lt_of_le hcl HB.out.size
    generalize w1.drew = w2 at *
    by_cases hjc : i + 1 = cc
    rotate_left
    · have hjc' : ((i : Int) + 1 = (cc : Int)) = False := by simp; omega
      refine T_reads [0, 2, 3, 4, 5, 6, 7, 9, 10, 11, 12, 13, 14, 15] (g := 6) rfl (by kernel_rfl) hcw (fun _ _ d _ _ h => by cases d <;> exact h) ?_
      simp only [pick, List.getD_cons_zero, List.getD_cons_succ]
      iterate 14 ((with_reducible refine wpRead_step (fun K hK => ?_)); go_simp; first | ((with_reducible refine hK _ ?_); clear hK K) | (apply Exists.intro; (with_reducible refine ⟨fun w' hw' => ?_, hK _ ?_⟩); (have f1 : w'.cell? ⟨c, 0, none⟩ = some (.slice (some ⟨g, 0, none⟩) E.length cc) := cell_of (show w'.heap[c]? = some (.cells #[.slice (some ⟨g, 0, none⟩) E.length cc] 29 (0, 0)) from hw') rfl); (go_simp; first | exact rfl | exact ⟨rfl, rfl⟩); clear hK K))
      with_reducible refine wpRead_nil ?_
      refine T_one 1 (by kernel_rfl) ?_
      simp only [pick, List.getD_cons_zero, List.getD_cons_succ]
      go_wp2_with fail
      have hal := (Below.refl w2.heap.size w2).alloc (Nat.le_refl _) (.cells #[] 74)
      refine ⟨by first | exact (show BoxS c _ _ from (hal.block c hcl2).trans hcw) | exact fun _ => (show BoxS c _ _ from (hal.block c hcl2).trans hcw), ?_⟩
      refine T_one 8 (by kernel_rfl) ?_
      simp only [pick, List.getD_cons_zero, List.getD_cons_succ]
      go_wp2_with (at_builtin; refine halt ?_)
      refine Halted.go ?_
      refine Rep.append_list T27 rfl _ _ rfl (base := w2.heap.size) (L := []) (M := E.take i) rfl (ro_empty w2) rfl (sl_take (H0.out.2.1.keep (HB.out.trans (hal.mono HB.out.size))) (by omega)) (fun h => (by cases h)) (by unfold maxLen; simp; omega) (by simp; omega) (by simp) ?_
      intro v3 w3 hown3 hb3 _
      have H3 := Lib.hid (And.intro hown3 (hal.trans hb3))
      have hc3 := (H3.out.2.block c hcl2).trans hcw
      clear hown3 hb3 hal
      have hti : ([] ++ E.take i).length = i := by simp; omega
      have hdl : (E.drop (i + 1)).length = E.length - (i + 1) := List.length_drop
      go_wp2_with fail
      refine ⟨by first | exact (show BoxS c _ _ from hc3) | exact fun _ => (show BoxS c _ _ from hc3), ?_⟩
      refine T_one 16 (by kernel_rfl) ?_
      simp only [pick, List.getD_cons_zero, List.getD_cons_succ]
      go_wp2_with (at_builtin; refine halt ?_)
      refine Halted.go ?_
      refine Rep.append_list T27 rfl _ _ rfl (base := w2.heap.size) (M := E.drop (i + 1)) rfl H3.out.1 rfl (⟨by simp, by unfold maxLen; omega, fun _ => ⟨g, _, rfl, by have h := (H0.out.2.1.keep (HB.out.trans (H3.out.2.mono HB.out.size))).row (by omega); obtain ⟨b9, o9, h9, hr9⟩ := h; injection h9 with h9; injection h9 with h91 h92; subst h91; subst h92; have h10 := hr9.drop (i + 1); rw [Nat.zero_add] at h10; exact h10⟩⟩) (fun h => (by cases h)) (by unfold maxLen; rw [hti]; omega) (by rw [hti]; omega) H3.out.2.size ?_
      intro v4 w4 hown4 hb4 _
      have hb24 : Below w2.heap.size w2 w4 := H3.out.2.trans hb4
      have hc4 := (hb24.block c hcl2).trans hcw
      have f4 : w4.cell? ⟨c, 0, none⟩ = some (.slice (some ⟨g, 0, none⟩) E.length cc) := cell_of hc4 rfl
      have e4 : w4.frozen? ⟨c, 0, none⟩ = false := free_of hc4
      obtain ⟨a4, n4, c4, rfl⟩ : ∃ a4 n4 c4, v4 = Value.slice a4 n4 c4 := by
        obtain ⟨a9, c9, h9, -⟩ := hown4.sl
        exact ⟨a9, _, c9, h9⟩
      have HF := Lib.hid (And.intro hown4 (And.intro hb24 hc4))
      clear hown4 hb24 hc4 hb4
      refine ⟨by first | exact (show BoxS c _ _ from HF.out.2.2) | exact fun _ => (show BoxS c _ _ from HF.out.2.2), ?_⟩
      refine T_reads [17, 18] (g := 1) rfl (by kernel_rfl) (show BoxS c _ _ from HF.out.2.2) (fun _ _ d _ _ h => by cases d <;> exact h) ?_
      simp only [pick, List.getD_cons_zero, List.getD_cons_succ]
      iterate 2 ((with_reducible refine wpRead_step (fun K hK => ?_)); go_simp; (apply Exists.intro; (with_reducible refine ⟨fun w' hw' => ?_, hK _ ?_⟩); first | exact rfl | exact ⟨rfl, rfl⟩; clear hK K))
      with_reducible refine wpRead_nil ?_
      refine T_one 19 (by kernel_rfl) ?_
      simp only [pick, List.getD_cons_zero, List.getD_cons_succ]
      go_wp2_with fail
      refine ⟨by first | exact (fun h => absurd rfl h) | trivial, T_done (by kernel_rfl) ?_ _⟩
      clear f4 e4
      go_wp2_with fail
      go_ret
      obtain ⟨hown4, hb24, hc4⟩ := HF.out
      have hs := (SetB.self hc4).store (o := 0) (lt_of_blk hc4) (.slice a4 n4 c4)
      refine ⟨rfl, .inl ⟨trivial, ⟨⟨_, hs.at (lt_of_blk hc4), ?_⟩, hle⟩, ?_⟩⟩
      · refine (hown4.keep fun q hq => hs.other ?_).mono HB.out.size
        rcases hown4.cases with ⟨hv, _⟩ | ⟨q', _, hv, h1, _⟩
        · rw [hv] at hq; cases hq
        · rw [hv] at hq; injection hq with hq; dsimp only at hq; omega
      · exact ((But.of_below HB.out [c]).trans (But.of_below hb24 [c])).thenSet hs (.inr (by simp))

    · have hjc' : ((i : Int) + 1 = (cc : Int)) = True := by simp; omega
      refine T_reads [0, 2, 3, 4, 5, 6, 7, 9, 10, 11, 12, 13, 14, 15] (g := 6) rfl (by kernel_rfl) hcw (fun _ _ d _ _ h => by cases d <;> exact h) ?_
      simp only [pick, List.getD_cons_zero, List.getD_cons_succ]
      iterate 14 ((with_reducible refine wpRead_step (fun K hK => ?_)); go_simp; first | ((with_reducible refine hK _ ?_); clear hK K) | (apply Exists.intro; (with_reducible refine ⟨fun w' hw' => ?_, hK _ ?_⟩); (have f1 : w'.cell? ⟨c, 0, none⟩ = some (.slice (some ⟨g, 0, none⟩) E.length cc) := cell_of (show w'.heap[c]? = some (.cells #[.slice (some ⟨g, 0, none⟩) E.length cc] 29 (0, 0)) from hw') rfl); (go_simp; first | exact rfl | exact ⟨rfl, rfl⟩); clear hK K))
      with_reducible refine wpRead_nil ?_
      refine T_one 1 (by kernel_rfl) ?_
      simp only [pick, List.getD_cons_zero, List.getD_cons_succ]
      go_wp2_with fail
      have hal := (Below.refl w2.heap.size w2).alloc (Nat.le_refl _) (.cells #[] 74)
      refine ⟨by first | exact (show BoxS c _ _ from (hal.block c hcl2).trans hcw) | exact fun _ => (show BoxS c _ _ from (hal.block c hcl2).trans hcw), ?_⟩
      refine T_one 8 (by kernel_rfl) ?_
      simp only [pick, List.getD_cons_zero, List.getD_cons_succ]
      go_wp2_with (at_builtin; refine halt ?_)
      refine Halted.go ?_
      refine Rep.append_list T27 rfl _ _ rfl (base := w2.heap.size) (L := []) (M := E.take i) rfl (ro_empty w2) rfl (sl_take (H0.out.2.1.keep (HB.out.trans (hal.mono HB.out.size))) (by omega)) (fun h => (by cases h)) (by unfold maxLen; simp; omega) (by simp; omega) (by simp) ?_
      intro v3 w3 hown3 hb3 _
      have H3 := Lib.hid (And.intro hown3 (hal.trans hb3))
      have hc3 := (H3.out.2.block c hcl2).trans hcw
      clear hown3 hb3 hal
      have hti : ([] ++ E.take i).length = i := by simp; omega
      have hdl : (E.drop (i + 1)).length = E.length - (i + 1) := List.length_drop
      go_wp2_with fail
      refine ⟨by first | exact (show BoxS c _ _ from hc3) | exact fun _ => (show BoxS c _ _ from hc3), ?_⟩
      refine T_one 16 (by kernel_rfl) ?_
      simp only [pick, List.getD_cons_zero, List.getD_cons_succ]
      go_wp2_with (at_builtin; refine halt ?_)
      refine Halted.go ?_
      refine Rep.append_list T27 rfl _ _ rfl (base := w2.heap.size) (M := E.drop (i + 1)) rfl H3.out.1 rfl (⟨by simp; omega, by unfold maxLen; omega, fun h => absurd h (by omega)⟩) (fun h => (by cases h)) (by unfold maxLen; rw [hti]; omega) (by rw [hti]; omega) H3.out.2.size ?_
      intro v4 w4 hown4 hb4 _
      have hb24 : Below w2.heap.size w2 w4 := H3.out.2.trans hb4
      have hc4 := (hb24.block c hcl2).trans hcw
      have f4 : w4.cell? ⟨c, 0, none⟩ = some (.slice (some ⟨g, 0, none⟩) E.length cc) := cell_of hc4 rfl
      have e4 : w4.frozen? ⟨c, 0, none⟩ = false := free_of hc4
      obtain ⟨a4, n4, c4, rfl⟩ : ∃ a4 n4 c4, v4 = Value.slice a4 n4 c4 := by
        obtain ⟨a9, c9, h9, -⟩ := hown4.sl
        exact ⟨a9, _, c9, h9⟩
      have HF := Lib.hid (And.intro hown4 (And.intro hb24 hc4))
      clear hown4 hb24 hc4 hb4
      refine ⟨by first | exact (show BoxS c _ _ from HF.out.2.2) | exact fun _ => (show BoxS c _ _ from HF.out.2.2), ?_⟩
      refine T_reads [17, 18] (g := 1) rfl (by kernel_rfl) (show BoxS c _ _ from HF.out.2.2) (fun _ _ d _ _ h => by cases d <;> exact h) ?_
      simp only [pick, List.getD_cons_zero, List.getD_cons_succ]
      iterate 2 ((with_reducible refine wpRead_step (fun K hK => ?_)); go_simp; (apply Exists.intro; (with_reducible refine ⟨fun w' hw' => ?_, hK _ ?_⟩); first | exact rfl | exact ⟨rfl, rfl⟩; clear hK K))
      with_reducible refine wpRead_nil ?_
      refine T_one 19 (by kernel_rfl) ?_
      simp only [pick, List.getD_cons_zero, List.getD_cons_succ]
      go_wp2_with fail
      refine ⟨by first | exact (fun h => absurd rfl h) | trivial, T_done (by kernel_rfl) ?_ _⟩
      clear f4 e4
      go_wp2_with fail
      go_ret
      obtain ⟨hown4, hb24, hc4⟩ := HF.out
      have hs := (SetB.self hc4).store (o := 0) (lt_of_blk hc4) (.slice a4 n4 c4)
      refine ⟨rfl, .inl ⟨trivial, ⟨⟨_, hs.at (lt_of_blk hc4), ?_⟩, hle⟩, ?_⟩⟩
      · refine (hown4.keep fun q hq => hs.other ?_).mono HB.out.size
        rcases hown4.cases with ⟨hv, _⟩ | ⟨q', _, hv, h1, _⟩
        · rw [hv] at hq; cases hq
        · rw [hv] at hq; injection hq with hq; dsimp only at hq; omega
      · exact ((But.of_below HB.out [c]).trans (But.of_below hb24 [c])).thenSet hs (.inr (by simp))

end Go.Proofs.Ytdhebjeajdohoaa
