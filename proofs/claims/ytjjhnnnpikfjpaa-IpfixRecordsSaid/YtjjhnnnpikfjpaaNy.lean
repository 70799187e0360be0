/- GetTemplates of the usual one's bytes. -/
import Derived.Test.YtjjhnnnpikfjpaaNx
namespace Go.Proofs.Ytjjhnnnpikfjpaa
open Go.RowKit

theorem T54 : Rep.Ty Try.prog 54 RTm 32 := Rep.Ty.mk' Try.underlying54 (z := .agg #[.int .i64 0, .slice none 0 0]) (by kernel_rfl) rfl
def usB : List Nat := [1, 44, 0, 2, 0, 12, 0, 4, 0, 1, 0, 4]
set_option maxRecDepth 100000 in
set_option maxHeartbeats 4000000 in
theorem gett_usual {w : World} {oa : Option Addr} {n c : Nat} (h : RB.Sl w oa n c usB) (hnil : oa = none → c = 0) : Calls Try.prog 23 #[.slice oa n c] w fun e w' => (∃ oa' c' x, e = .returned (.tuple #[.slice oa' 1 c', .int .i64 0]) ∧ TmsOk w' ⟨oa', 1, c', [x]⟩ ∧ x.1 = 300 ∧ x.2.l = [(12, 4), (1, 4)]) ∧ Below w.heap.size w w' := by
  have hn : n ≤ 100000 := by have := h.len; simp [usB] at this; omega
  have H := Lib.hid (And.intro h hnil)
  clear h hnil
  go_enter Try.func23, Try.ntmps23
  go_wp2_with fail
  refine (from_any H.out.1 H.out.2 (by intro x hx; simp [usB] at hx; omega) hn).mono ?_
  rintro e W1 ⟨⟨g, rfl, hg, hr1⟩, hb1⟩
  have hal := (Below.refl W1.heap.size W1).alloc (Nat.le_refl _) (.cells #[.pointer (some ⟨g, 0, none⟩)] 67)
  have h4 : BxS W1.heap.size (.pointer (some ⟨g, 0, none⟩)) 67 (W1.alloc (.cells #[.pointer (some ⟨g, 0, none⟩)] 67)) := hnew _ _
  have hgl := hr1.lt
  have hws := hb1.size
  have F1 := Lib.hid (And.intro (hr1.on hal) (And.intro h4 (bcall hb1 (Nat.le_refl _) hal)))
  have HN := Lib.hid (And.intro hg (And.intro hgl hws))
  clear hr1 hb1 hal h4 hg hgl hws
  go_wp2_with fail
  generalize W1.alloc (.cells #[.pointer (some ⟨g, 0, none⟩)] 67) = W2 at *
  generalize W1.heap.size = q4 at *
  have hn4 : q4 ∉ [g] := by have := HN.out.2.1; simp; omega
  go_loopw [5, 6, 7] (fun sv _ _ wr => (sv = .slice none 0 0 ∧ wr = W2) ∨ ∃ oa7 c7 oa3 c3, sv = .slice oa7 1 c7 ∧ RdAt 88 g [] false wr ∧ BxS q4 (.pointer (some ⟨g, 0, none⟩)) 67 wr ∧ Below w.heap.size w wr ∧ FdsOk wr ⟨oa3, 2, c3, [(12, 4), (1, 4)]⟩ ∧ RTm.Own wr w.heap.size (.slice oa7 1 c7) [((300 : Int), (⟨oa3, 2, c3, [(12, 4), (1, 4)]⟩ : SlV (Int × Int)))]) (fun _ _ _ wr => rdM g wr)
  case atStart => exact .inl ⟨rfl, rfl⟩
  case round =>
    rcases hrel with ⟨rfl, hw⟩ | ⟨oa7, c7, oa3, c3, rfl, hF⟩
    · subst wr
      have HM := Lib.hid (show rdM g W2 = 13 from F1.out.1.m)
      have e4 := F1.out.2.1.cell
      go_wp2_with fail
      refine (leftN_any F1.out.1).mono ?_
      rintro e w3 ⟨rfl, hw⟩
      subst w3
      have h0 : leftN usB false = 12 := rfl
      go_wp2_with fail
      refine (tmpl_rd F1.out.1 ([1, 44], [0, 2, 0, 12, 0, 4, 0, 1, 0, 4], false) ([0, 2], [0, 12, 0, 4, 0, 1, 0, 4], false) (by decide) (by decide) (by decide) ([(12, 4), (1, 4)], [], false) (by decide)).mono ?_
      rintro e w3 ⟨⟨oa3, c3, rfl, hfd⟩, hr3, hb3⟩
      have F2 := Lib.hid (And.intro hr3 (And.intro (F1.out.2.1.but hb3 hn4) (And.intro (Below.step F1.out.2.2 F1.out.2.2.size hb3 (by intro x hx; simp at hx; have := HN.out.1; omega)) hfd)))
      clear hr3 hb3 hfd F1 e4 h0
      have hg1 : getN [1, 44] = 300 := by decide
      have hg2 : ((getN [1, 44] : Nat) : Int) = 300 := by rw [hg1]; rfl
      dsimp only at F2 ⊢
      rw [hg2]
      clear hg1 hg2
      have hal := (Below.refl w3.heap.size w3).alloc (Nat.le_refl _) (.cells #[.int .i64 300, .slice oa3 2 c3] 41)
      have h6 : TmS w3.heap.size #[.int .i64 300, .slice oa3 2 c3] (w3.alloc (.cells #[.int .i64 300, .slice oa3 2 c3] 41)) := hnew _ _
      have hal2 := hal.alloc hal.size (.cells #[.int .i64 300, .slice oa3 2 c3] 41)
      have ho : RTm.Own ((w3.alloc (.cells #[.int .i64 300, .slice oa3 2 c3] 41)).alloc (.cells #[.int .i64 300, .slice oa3 2 c3] 41)) w.heap.size (.slice (some ⟨w3.heap.size + 1, 0, none⟩) 1 1) [((300 : Int), (⟨oa3, 2, c3, [(12, 4), (1, 4)]⟩ : SlV (Int × Int)))] := ⟨rfl, .inr ⟨w3.heap.size + 1, 1, #[.int .i64 300, .slice oa3 2 c3], rfl, Nat.le_trans F2.out.2.2.1.size (Nat.le_succ _), hnewAt (Array.size_push _).symm, Nat.le_refl _, by unfold maxLen; omega, rfl, rfl⟩⟩
      have hbel : Below (w3.alloc (.cells #[.int .i64 300, .slice oa3 2 c3] 41)).heap.size (w3.alloc (.cells #[.int .i64 300, .slice oa3 2 c3] 41)) ((w3.alloc (.cells #[.int .i64 300, .slice oa3 2 c3] 41)).alloc (.cells #[.int .i64 300, .slice oa3 2 c3] 41)) := (Below.refl _ _).alloc (Nat.le_refl _) _
      have F3 := Lib.hid (And.intro (F2.out.1.on hal2) (And.intro (F2.out.2.1.but (But.of_below hal2 [g]) hn4) (And.intro (bcall F2.out.2.2.1 (Nat.le_refl _) hal2) (And.intro (FdsOk.keep F2.out.2.2.2 hal2) (And.intro (h6.on hbel) ho)))))
      have e4 := F2.out.2.1.cell
      clear hal h6 hal2 ho hbel F2
      go_wp2_with (at_builtin; refine halt ?_)
      refine Halted.go ?_
      generalize (w3.alloc (.cells #[.int .i64 300, .slice oa3 2 c3] 41)).alloc (.cells #[.int .i64 300, .slice oa3 2 c3] 41) = W5 at *
      generalize w3.heap.size = q6 at *
      clear e4
      obtain ⟨oa9, c9, hv9, -, -, hs9, -⟩ := F3.out.2.2.2.2.2.sl
      simp only [Value.slice.injEq] at hv9
      obtain ⟨rfl, -, rfl⟩ := hv9
      refine Rep.append_list2 T54 rfl _ _ rfl (base := w.heap.size) (m := 1) (v := .slice none 0 0) (L := []) rfl (Rep.Own.nil _ _) rfl hs9 (by omega) (by unfold maxLen; simp) (by simp) F3.out.2.2.1.size ?_
      intro v7 w7 ho7 hb7 he7
      have hall : ∀ b, b < W5.heap.size → w7.heap[b]? = W5.heap[b]? := fun b hb => (he7 b (by intro h; cases h) hb).2
      have hbl : Below W5.heap.size W5 w7 := ⟨hb7.os, hb7.tape, hb7.output, hb7.size, fun k hk => hall k hk⟩
      rw [List.nil_append] at ho7
      obtain ⟨oa7, c7, rfl, -, -, -, -⟩ := ho7.sl
      simp only [List.length_singleton] at ho7 ⊢
      have F4 := Lib.hid (And.intro (F3.out.1.on hbl) (And.intro (F3.out.2.1.but (But.of_below hbl [g]) hn4) (And.intro (F3.out.2.2.1.trans hb7) (And.intro (FdsOk.keep F3.out.2.2.2.1 hbl) (And.intro (F3.out.2.2.2.2.1.on hbl) ho7)))))
      clear F3 ho7 hb7 he7 hall hbl hs9
      have e4 := F4.out.2.1.cell
      go_wp2_with fail
      refine (bad_any F4.out.1).mono ?_
      rintro e w8 ⟨rfl, hw⟩
      subst w8
      obtain ⟨z0, z1⟩ := F4.out.2.2.2.2.1.cells
      go_wp2_with fail
      refine (odd_tm ⟨300, ⟨oa3, 2, c3, [(12, 4), (1, 4)]⟩⟩ _ F4.out.2.2.2.1).mono ?_
      rintro e w8 ⟨rfl, hb8⟩
      have hodd : oddT ⟨300, ⟨oa3, 2, c3, [(12, 4), (1, 4)]⟩⟩ = false := by rfl
      have F5 := Lib.hid (And.intro (F4.out.1.on hb8) (And.intro (F4.out.2.1.but (But.of_below hb8 [g]) hn4) (And.intro (bcall F4.out.2.2.1 (Nat.le_refl _) hb8) (And.intro (FdsOk.keep F4.out.2.2.2.1 hb8) (F4.out.2.2.2.2.2.below hb8)))))
      clear F4 hb8 e4 z0 z1
      have e4 := F5.out.2.1.cell
      go_wp2_with fail
      exact ⟨.inr ⟨oa7, c7, oa3, c3, rfl, F5.out⟩, by rw [F5.out.1.m, HM.out]; decide⟩
    · have F5 := Lib.hid hF
      clear hF F1
      have e4 := F5.out.2.1.cell
      have h0 : leftN [] false = 0 := rfl
      go_wp2_with fail
      refine (leftN_any F5.out.1).mono ?_
      rintro e w3 ⟨rfl, hw⟩
      subst w3
      go_wp2_with fail
      refine (bad_any F5.out.1).mono ?_
      rintro e w3 ⟨rfl, hw⟩
      subst w3
      go_wp2_with fail
      go_ret2
      refine ⟨⟨oa7, c7, ((300 : Int), (⟨oa3, 2, c3, [(12, 4), (1, 4)]⟩ : SlV (Int × Int))), rfl, ?_, rfl, rfl⟩, F5.out.2.2.1⟩
      obtain ⟨oa9, c9, hv9, hlc, hcm, hs9, -⟩ := F5.out.2.2.2.2.sl
      simp only [Value.slice.injEq] at hv9
      obtain ⟨rfl, -, rfl⟩ := hv9
      refine ⟨hs9, ?_, hlc, hcm, fun x hx => by obtain rfl : x = _ := by simpa using hx
                                                exact F5.out.2.2.2.1⟩
      rintro rfl
      rcases F5.out.2.2.2.2.cases with ⟨hv, hl⟩ | ⟨g, cap, hv, _⟩
      · cases hl
      · cases hv
end Go.Proofs.Ytjjhnnnpikfjpaa
