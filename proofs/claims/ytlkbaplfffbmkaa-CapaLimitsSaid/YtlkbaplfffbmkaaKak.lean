/- lives. -/
import Derived.Test.YtlkbaplfffbmkaaKaj
import Derived.Test.YtlkbaplfffbmkaaKai
import Derived.Test.YtlkbaplfffbmkaaKah
import Derived.Test.YtlkbaplfffbmkaaKab
namespace Go.Proofs.Ytlkbaplfffbmkaa
open Go.RowKit

theorem rowOf {α : Type} [Inhabited α] {R : Rep α} {w : World} {b : Nat} {cs : Array Value} {T : TypeId} {fr : Nat × Nat} {L : List α} (h : w.heap[b]? = some (.cells cs T fr)) (hcs : cs.toList = R.flat L) : R.Row w b 0 L :=
  ⟨lt_of_blk h, fun i hi j hj => by
    rw [Nat.zero_add]
    have hl : i * R.k + j < L.length * R.k := Rep.mul_lt hi hj
    have hlen : cs.size = L.length * R.k := by rw [← R.flat_length, ← hcs]; rfl
    have hs : i * R.k + j < cs.size := by omega
    rw [cell_of h (Array.getElem?_eq_getElem hs), ← R.flat_get L i j hi hj, ← hcs, Array.getElem?_toList, Array.getElem?_eq_getElem hs]⟩
theorem ExtS.go {w w' w2 : World} (h : ExtS w w') (hb : Below w'.heap.size w' w2) : ExtS w w2 := bcall h (Nat.le_refl _) hb
def i1 : If := ⟨5, 1, 167772160, 8, 9⟩
def i2 : If := ⟨4, 1, 167837696, 16, 0⟩
theorem good12 : Good [i1, i2] := good_iff.1 (by decide)
theorem bad121 : goodB [i1, i2, i1] = false := by decide
theorem sort12 : sortI [i1, i2] = [i2, i1] := rfl
theorem find12 : (hdOf [i1, i2]).find 1 167837703 = if true then some i2 else none := find_is good12 (by simp) (by decide) (by decide)
theorem find0 : (hdOf [i1, i2]).find 0 167772160 = if false then some ⟨0, 0, 0, 0, 0⟩ else none := find_no good12 (by decide)
theorem get12 : (hdOf [i1, i2]).get 5 = if true then some i1 else none := get_of good12 (x := i1) (by simp)
theorem ok_if {x : If} (h1 : IN.ok x.id) (h2 : NN.ok x.net) : IN.ok x.id ∧ NN.ok x.net := ⟨h1, h2⟩
theorem ok1 : IN.ok i1.id ∧ NN.ok i1.net := ⟨wfI (by decide), wfI (by decide), wfU (by decide), wfI (by decide)⟩
theorem ok2 : IN.ok i2.id ∧ NN.ok i2.net := ⟨wfI (by decide), wfI (by decide), wfU (by decide), wfI (by decide)⟩
set_option maxRecDepth 100000 in
set_option maxHeartbeats 4000000 in
theorem lives16 (w : World) : Calls Try.prog 10 #[] w fun e w' => e = .returned (.bool true) ∧ Below w.heap.size w w' := by
  go_enter Try.func10, Try.ntmps10
  have hal := (Below.refl w.heap.size w).alloc (Nat.le_refl _) (.cells #[.int .i64 5, .int .i64 1, .int .u32 167772160, .int .i64 8, .int .i64 9, .int .i64 4, .int .i64 1, .int .u32 167837696, .int .i64 16, .int .i64 0] 34)
  have hlb : (w.alloc (.cells #[.int .i64 5, .int .i64 1, .int .u32 167772160, .int .i64 8, .int .i64 9, .int .i64 4, .int .i64 1, .int .u32 167837696, .int .i64 16, .int .i64 0] 34)).heap[w.heap.size]? = some (.cells #[.int .i64 5, .int .i64 1, .int .u32 167772160, .int .i64 8, .int .i64 9, .int .i64 4, .int .i64 1, .int .u32 167837696, .int .i64 16, .int .i64 0] 34) := hnew _ _
  have F0 := Lib.hid (And.intro hlb hal)
  clear hal hlb
  go_wp2_with fail
  generalize w.alloc (.cells #[.int .i64 5, .int .i64 1, .int .u32 167772160, .int .i64 8, .int .i64 9, .int .i64 4, .int .i64 1, .int .u32 167837696, .int .i64 16, .int .i64 0] 34) = W1 at *
  refine (hnew_ok (show Ifs W1 (some ⟨w.heap.size, 0, none⟩) 2 2 [i1, i2] from ⟨(show RIf.Sl W1 (some ⟨w.heap.size, 0, none⟩) 2 2 [i1, i2] from ⟨rfl, by unfold maxLen; omega, fun _ => ⟨w.heap.size, 0, rfl, rowOf F0.out.1 rfl⟩⟩), by decide⟩) good12).mono ?_
  rintro e W2 ⟨hb, rfl, hH, hb2⟩
  have F1 := Lib.hid (And.intro ((hb2.block _ (lt_of_blk F0.out.1)).trans F0.out.1) (And.intro (bcall F0.out.2 (Nat.le_refl _) hb2) (hH)))
  clear F0
  clear hb2 hH
  have y0 : W2.cell? ⟨w.heap.size, 0, none⟩ = some (.int .i64 5) := cell_of F1.out.1 rfl
  have y1 : W2.cell? ⟨w.heap.size, 1, none⟩ = some (.int .i64 1) := cell_of F1.out.1 rfl
  have y2 : W2.cell? ⟨w.heap.size, 2, none⟩ = some (.int .u32 167772160) := cell_of F1.out.1 rfl
  have y3 : W2.cell? ⟨w.heap.size, 3, none⟩ = some (.int .i64 8) := cell_of F1.out.1 rfl
  have y4 : W2.cell? ⟨w.heap.size, 4, none⟩ = some (.int .i64 9) := cell_of F1.out.1 rfl
  go_wp2_with (at_builtin; refine halt ?_)
  refine Halted.go ?_
  clear y0 y1 y2 y3 y4
  have hal := (Below.refl W2.heap.size W2).alloc (Nat.le_refl _) (.cells #[.int .i64 5, .int .i64 1, .int .u32 167772160, .int .i64 8, .int .i64 9] 34)
  have hlb : RIf.Sl (W2.alloc (.cells #[.int .i64 5, .int .i64 1, .int .u32 167772160, .int .i64 8, .int .i64 9] 34)) (some ⟨W2.heap.size, 0, none⟩) 1 1 [i1] := Rep.sl_one (R := RIf) (y := i1) (hnew _ _)
  have F2 := Lib.hid (And.intro ((hal.block _ (lt_of_blk F1.out.1)).trans F1.out.1) (And.intro (bcall F1.out.2.1 (Nat.le_refl _) hal) (And.intro (F1.out.2.2.keep hal) (hlb))))
  clear F1
  clear hal hlb
  generalize W2.alloc (.cells #[.int .i64 5, .int .i64 1, .int .u32 167772160, .int .i64 8, .int .i64 9] 34) = W3 at *
  generalize W2.heap.size = q2 at *
  refine Rep.append_cut T23 rfl _ _ rfl rfl (show RIf.Sl W3 (some ⟨w.heap.size, 0, none⟩) 2 2 [i1, i2] from ⟨rfl, by unfold maxLen; omega, fun _ => ⟨w.heap.size, 0, rfl, rowOf F2.out.1 rfl⟩⟩) rfl F2.out.2.2.2 (by omega) (by unfold maxLen; omega) (by omega) ?_
  intro v4 W4 hown4 hb4
  obtain ⟨a4, c4, rfl, hsl4, -⟩ := hown4.sl0
  have F3 := Lib.hid (And.intro ((hb4.block _ (lt_of_blk F2.out.1)).trans F2.out.1) (And.intro (bcall F2.out.2.1 (Nat.le_refl _) hb4) (And.intro (F2.out.2.2.1.keep hb4) ((show IfsW W4 a4 3 c4 [i1, i2, i1] from ⟨⟨hsl4, by decide⟩, by intro x hx; simp at hx; rcases hx with rfl | rfl | rfl <;> first | exact ok1 | exact ok2⟩)))))
  clear F2
  clear hown4 hsl4 hb4
  rw [show ([i1, i2] ++ [i1] : List If).length = 3 from rfl]
  go_wp2_with fail
  refine (hnew_bad F3.out.2.2.2 bad121).mono ?_
  rintro e W5 ⟨rfl, hb5⟩
  have F4 := Lib.hid (And.intro ((hb5.block _ (lt_of_blk F3.out.1)).trans F3.out.1) (And.intro (bcall F3.out.2.1 (Nat.le_refl _) hb5) ((F3.out.2.2.1.keep hb5))))
  clear F3
  clear hb5
  go_wp2_with fail
  refine (find_any (ρ := 1) (a := 167837703) F4.out.2.2 (by decide) (by decide) i2 true find12 (by simp)).mono ?_
  rintro e W6 ⟨rfl, hb5⟩
  rw [show If.v i2 = .agg #[.int .i64 4, .int .i64 1, .int .u32 167837696, .int .i64 16, .int .i64 0] from rfl]
  have hal := (Below.refl W6.heap.size W6).alloc (Nat.le_refl _) (.cells #[.int .i64 4, .int .i64 1, .int .u32 167837696, .int .i64 16, .int .i64 0] 34)
  have hlb : (W6.alloc (.cells #[.int .i64 4, .int .i64 1, .int .u32 167837696, .int .i64 16, .int .i64 0] 34)).heap[W6.heap.size]? = some (.cells #[.int .i64 4, .int .i64 1, .int .u32 167837696, .int .i64 16, .int .i64 0] 34) := hnew _ _
  have hbb := bcall hb5 (Nat.le_refl _) hal
  have F5 := Lib.hid (And.intro ((hbb.block _ (lt_of_blk F4.out.1)).trans F4.out.1) (And.intro (bcall F4.out.2.1 (Nat.le_refl _) hbb) (And.intro (F4.out.2.2.keep hbb) (hlb))))
  clear F4
  clear hal hlb hbb hb5
  go_wp2_with fail
  generalize W6.alloc (.cells #[.int .i64 4, .int .i64 1, .int .u32 167837696, .int .i64 16, .int .i64 0] 34) = W7 at *
  generalize W6.heap.size = q5 at *
  go_wp2_with fail
  refine (find_any (ρ := 0) (a := 167772160) F5.out.2.2.1 (by decide) (by decide) ⟨0, 0, 0, 0, 0⟩ false find0 (fun _ => rfl)).mono ?_
  rintro e W8 ⟨rfl, hb7⟩
  rw [show If.v ⟨0, 0, 0, 0, 0⟩ = .agg #[.int .i64 0, .int .i64 0, .int .u32 0, .int .i64 0, .int .i64 0] from rfl]
  have hal := (Below.refl W8.heap.size W8).alloc (Nat.le_refl _) (.cells #[.int .i64 0, .int .i64 0, .int .u32 0, .int .i64 0, .int .i64 0] 34)
  have hlb : (W8.alloc (.cells #[.int .i64 0, .int .i64 0, .int .u32 0, .int .i64 0, .int .i64 0] 34)).heap[W8.heap.size]? = some (.cells #[.int .i64 0, .int .i64 0, .int .u32 0, .int .i64 0, .int .i64 0] 34) := hnew _ _
  have hbb := bcall hb7 (Nat.le_refl _) hal
  have F6 := Lib.hid (And.intro ((hbb.block _ (lt_of_blk F5.out.1)).trans F5.out.1) (And.intro (bcall F5.out.2.1 (Nat.le_refl _) hbb) (And.intro (F5.out.2.2.1.keep hbb) (And.intro ((hbb.block _ (lt_of_blk F5.out.2.2.2)).trans F5.out.2.2.2) (hlb)))))
  clear F5
  clear hal hlb hbb hb7
  go_wp2_with fail
  generalize W8.alloc (.cells #[.int .i64 0, .int .i64 0, .int .u32 0, .int .i64 0, .int .i64 0] 34) = W9 at *
  generalize W8.heap.size = q7 at *
  go_wp2_with fail
  refine (iface_any F6.out.2.2.1 (wfI (by decide)) i1 true get12 (by simp)).mono ?_
  rintro e W10 ⟨rfl, hb9⟩
  rw [show If.v i1 = .agg #[.int .i64 5, .int .i64 1, .int .u32 167772160, .int .i64 8, .int .i64 9] from rfl]
  have hal := (Below.refl W10.heap.size W10).alloc (Nat.le_refl _) (.cells #[.int .i64 5, .int .i64 1, .int .u32 167772160, .int .i64 8, .int .i64 9] 34)
  have hlb : (W10.alloc (.cells #[.int .i64 5, .int .i64 1, .int .u32 167772160, .int .i64 8, .int .i64 9] 34)).heap[W10.heap.size]? = some (.cells #[.int .i64 5, .int .i64 1, .int .u32 167772160, .int .i64 8, .int .i64 9] 34) := hnew _ _
  have hbb := bcall hb9 (Nat.le_refl _) hal
  have F7 := Lib.hid (And.intro ((hbb.block _ (lt_of_blk F6.out.1)).trans F6.out.1) (And.intro (bcall F6.out.2.1 (Nat.le_refl _) hbb) (And.intro (F6.out.2.2.1.keep hbb) (And.intro ((hbb.block _ (lt_of_blk F6.out.2.2.2.1)).trans F6.out.2.2.2.1) (And.intro ((hbb.block _ (lt_of_blk F6.out.2.2.2.2)).trans F6.out.2.2.2.2) (hlb))))))
  clear F6
  clear hal hlb hbb hb9
  go_wp2_with fail
  generalize W10.alloc (.cells #[.int .i64 5, .int .i64 1, .int .u32 167772160, .int .i64 8, .int .i64 9] 34) = W11 at *
  generalize W10.heap.size = q9 at *
  go_wp2_with fail
  refine (all_any F7.out.2.2.1 good12).mono ?_
  rintro e W12 ⟨v9, rfl, hown, hb11⟩
  rw [sort12] at hown
  rcases hown.cases with ⟨-, h⟩ | ⟨g, cap, rfl, hg, hgl, hl1, hl2, hrow, -⟩
  · cases h
  have hs9 : RIf.Sl W12 (some ⟨g, 0, none⟩) 2 cap [i2, i1] := ⟨rfl, by unfold maxLen; omega, fun _ => ⟨g, 0, rfl, hrow⟩⟩
  rw [show ([i2, i1] : List If).length = 2 from rfl]
  have F8 := Lib.hid (And.intro ((hb11.block _ (lt_of_blk F7.out.1)).trans F7.out.1) (And.intro (bcall F7.out.2.1 (Nat.le_refl _) hb11) (And.intro (F7.out.2.2.1.keep hb11) (And.intro ((hb11.block _ (lt_of_blk F7.out.2.2.2.1)).trans F7.out.2.2.2.1) (And.intro ((hb11.block _ (lt_of_blk F7.out.2.2.2.2.1)).trans F7.out.2.2.2.2.1) (And.intro ((hb11.block _ (lt_of_blk F7.out.2.2.2.2.2)).trans F7.out.2.2.2.2.2) (hs9)))))))
  clear F7
  clear hown hb11 hs9 hg hgl hl1 hl2 hrow
  go_wp2_with fail
  refine wp_region_heldP (ExtS W12.drew) (by kernel_rfl) ?_
  have hd := (Below.refl W12.heap.size W12).drew
  have F9 := Lib.hid (And.intro ((hd.block _ (lt_of_blk F8.out.1)).trans F8.out.1) (And.intro (bcall F8.out.2.1 (Nat.le_refl _) hd) (And.intro (F8.out.2.2.1.keep hd) (And.intro ((hd.block _ (lt_of_blk F8.out.2.2.2.1)).trans F8.out.2.2.2.1) (And.intro ((hd.block _ (lt_of_blk F8.out.2.2.2.2.1)).trans F8.out.2.2.2.2.1) (And.intro ((hd.block _ (lt_of_blk F8.out.2.2.2.2.2.1)).trans F8.out.2.2.2.2.2.1) (And.intro (F8.out.2.2.2.2.2.2.keep hd) ((show ExtS W12.drew W12.drew from Below.refl _ _)))))))))
  clear F8
  clear hd
  generalize W12.drew = Wd at *
  refine held_reads [0, 1, 2, 3, 4, 5, 6, 7, 8, 9, 10, 11, 12, 13, 14, 15, 16, 17, 18, 19, 20, 21, 22, 23, 24, 25, 26, 27, 28, 29, 30, 31, 32, 33, 34, 35, 36, 37] (g := 14) rfl (by kernel_rfl) F9.out.2.2.2.2.2.2.2 (fun _ _ d _ _ h => by cases d <;> exact h) ?_
  simp only [pick, List.getD_cons_zero, List.getD_cons_succ]
  ((with_reducible refine wpRead_step (fun K hK => ?_)); go_simp; first | ((with_reducible refine hK _ ?_); clear hK K) | (apply Exists.intro; (with_reducible refine ⟨fun w' hw' => ?_, hK _ ?_⟩); (first | exact rfl | exact ⟨rfl, rfl⟩); clear hK K))
  ((with_reducible refine wpRead_step (fun K hK => ?_)); go_simp; first | ((with_reducible refine hK _ ?_); clear hK K) | (apply Exists.intro; (with_reducible refine ⟨fun w' hw' => ?_, hK _ ?_⟩); (first | exact rfl | exact ⟨rfl, rfl⟩); clear hK K))
  ((with_reducible refine wpRead_step (fun K hK => ?_)); go_simp; first | ((with_reducible refine hK _ ?_); clear hK K) | (apply Exists.intro; (with_reducible refine ⟨fun w' hw' => ?_, hK _ ?_⟩); (first | exact rfl | exact ⟨rfl, rfl⟩); clear hK K))
  ((with_reducible refine wpRead_step (fun K hK => ?_)); go_simp; first | ((with_reducible refine hK _ ?_); clear hK K) | (apply Exists.intro; (with_reducible refine ⟨fun w' hw' => ?_, hK _ ?_⟩); (first | exact rfl | exact ⟨rfl, rfl⟩); clear hK K))
  ((with_reducible refine wpRead_step (fun K hK => ?_)); go_simp; first | ((with_reducible refine hK _ ?_); clear hK K) | (apply Exists.intro; (with_reducible refine ⟨fun w' hw' => ?_, hK _ ?_⟩); (first | exact rfl | exact ⟨rfl, rfl⟩); clear hK K))
  ((with_reducible refine wpRead_step (fun K hK => ?_)); go_simp; first | ((with_reducible refine hK _ ?_); clear hK K) | (apply Exists.intro; (with_reducible refine ⟨fun w' hw' => ?_, hK _ ?_⟩); (first | exact rfl | exact ⟨rfl, rfl⟩); clear hK K))
  ((with_reducible refine wpRead_step (fun K hK => ?_)); go_simp; first | ((with_reducible refine hK _ ?_); clear hK K) | (apply Exists.intro; (with_reducible refine ⟨fun w' hw' => ?_, hK _ ?_⟩); (first | exact rfl | exact ⟨rfl, rfl⟩); clear hK K))
  ((with_reducible refine wpRead_step (fun K hK => ?_)); go_simp; first | ((with_reducible refine hK _ ?_); clear hK K) | (apply Exists.intro; (with_reducible refine ⟨fun w' hw' => ?_, hK _ ?_⟩); (first | exact rfl | exact ⟨rfl, rfl⟩); clear hK K))
  ((with_reducible refine wpRead_step (fun K hK => ?_)); go_simp; first | ((with_reducible refine hK _ ?_); clear hK K) | (apply Exists.intro; (with_reducible refine ⟨fun w' hw' => ?_, hK _ ?_⟩); (first | exact rfl | exact ⟨rfl, rfl⟩); clear hK K))
  ((with_reducible refine wpRead_step (fun K hK => ?_)); go_simp; first | ((with_reducible refine hK _ ?_); clear hK K) | (apply Exists.intro; (with_reducible refine ⟨fun w' hw' => ?_, hK _ ?_⟩); (first | exact rfl | exact ⟨rfl, rfl⟩); clear hK K))
  with_reducible refine wpRead_yes ?_ ?_
  rotate_left
  rfl
  intro K hK
  refine read_load 34 _ rfl q5 0 #[.int .i64 4, .int .i64 1, .int .u32 167837696, .int .i64 16, .int .i64 0] rfl (fun w' hw' => rangeAt_block ((Below.block hw' _ (lt_of_blk F9.out.2.2.2.1)).trans F9.out.2.2.2.1) 0 _ rfl) Try.underlying34 rfl (by kernel_rfl) (hK _ ?_)
  clear hK K
  ((with_reducible refine wpRead_step (fun K hK => ?_)); go_simp; first | ((with_reducible refine hK _ ?_); clear hK K) | (apply Exists.intro; (with_reducible refine ⟨fun w' hw' => ?_, hK _ ?_⟩); (first | exact rfl | exact ⟨rfl, rfl⟩); clear hK K))
  ((with_reducible refine wpRead_step (fun K hK => ?_)); go_simp; first | ((with_reducible refine hK _ ?_); clear hK K) | (apply Exists.intro; (with_reducible refine ⟨fun w' hw' => ?_, hK _ ?_⟩); (first | exact rfl | exact ⟨rfl, rfl⟩); clear hK K))
  with_reducible refine wpRead_yes ?_ ?_
  rotate_left
  rfl
  intro K hK
  refine read_load 34 _ rfl w.heap.size 5 #[.int .i64 4, .int .i64 1, .int .u32 167837696, .int .i64 16, .int .i64 0] rfl (fun w' hw' => rangeAt_block ((Below.block hw' _ (lt_of_blk F9.out.1)).trans F9.out.1) 5 _ rfl) Try.underlying34 rfl (by kernel_rfl) (hK _ ?_)
  clear hK K
  ((with_reducible refine wpRead_step (fun K hK => ?_)); go_simp; first | ((with_reducible refine hK _ ?_); clear hK K) | (apply Exists.intro; (with_reducible refine ⟨fun w' hw' => ?_, hK _ ?_⟩); (first | exact rfl | exact ⟨rfl, rfl⟩); clear hK K))
  ((with_reducible refine wpRead_step (fun K hK => ?_)); go_simp; first | ((with_reducible refine hK _ ?_); clear hK K) | (apply Exists.intro; (with_reducible refine ⟨fun w' hw' => ?_, hK _ ?_⟩); (first | exact rfl | exact ⟨rfl, rfl⟩); clear hK K))
  ((with_reducible refine wpRead_step (fun K hK => ?_)); go_simp; first | ((with_reducible refine hK _ ?_); clear hK K) | (apply Exists.intro; (with_reducible refine ⟨fun w' hw' => ?_, hK _ ?_⟩); (first | exact rfl | exact ⟨rfl, rfl⟩); clear hK K))
  ((with_reducible refine wpRead_step (fun K hK => ?_)); go_simp; first | ((with_reducible refine hK _ ?_); clear hK K) | (apply Exists.intro; (with_reducible refine ⟨fun w' hw' => ?_, hK _ ?_⟩); (first | exact rfl | exact ⟨rfl, rfl⟩); clear hK K))
  ((with_reducible refine wpRead_step (fun K hK => ?_)); go_simp; first | ((with_reducible refine hK _ ?_); clear hK K) | (apply Exists.intro; (with_reducible refine ⟨fun w' hw' => ?_, hK _ ?_⟩); (first | exact rfl | exact ⟨rfl, rfl⟩); clear hK K))
  ((with_reducible refine wpRead_step (fun K hK => ?_)); go_simp; first | ((with_reducible refine hK _ ?_); clear hK K) | (apply Exists.intro; (with_reducible refine ⟨fun w' hw' => ?_, hK _ ?_⟩); (first | exact rfl | exact ⟨rfl, rfl⟩); clear hK K))
  ((with_reducible refine wpRead_step (fun K hK => ?_)); go_simp; first | ((with_reducible refine hK _ ?_); clear hK K) | (apply Exists.intro; (with_reducible refine ⟨fun w' hw' => ?_, hK _ ?_⟩); (first | exact rfl | exact ⟨rfl, rfl⟩); clear hK K))
  ((with_reducible refine wpRead_step (fun K hK => ?_)); go_simp; first | ((with_reducible refine hK _ ?_); clear hK K) | (apply Exists.intro; (with_reducible refine ⟨fun w' hw' => ?_, hK _ ?_⟩); (first | exact rfl | exact ⟨rfl, rfl⟩); clear hK K))
  ((with_reducible refine wpRead_step (fun K hK => ?_)); go_simp; first | ((with_reducible refine hK _ ?_); clear hK K) | (apply Exists.intro; (with_reducible refine ⟨fun w' hw' => ?_, hK _ ?_⟩); (first | exact rfl | exact ⟨rfl, rfl⟩); clear hK K))
  ((with_reducible refine wpRead_step (fun K hK => ?_)); go_simp; first | ((with_reducible refine hK _ ?_); clear hK K) | (apply Exists.intro; (with_reducible refine ⟨fun w' hw' => ?_, hK _ ?_⟩); (first | exact rfl | exact ⟨rfl, rfl⟩); clear hK K))
  with_reducible refine wpRead_yes ?_ ?_
  rotate_left
  rfl
  intro K hK
  refine read_load 34 _ rfl q9 0 #[.int .i64 5, .int .i64 1, .int .u32 167772160, .int .i64 8, .int .i64 9] rfl (fun w' hw' => rangeAt_block ((Below.block hw' _ (lt_of_blk F9.out.2.2.2.2.2.1)).trans F9.out.2.2.2.2.2.1) 0 _ rfl) Try.underlying34 rfl (by kernel_rfl) (hK _ ?_)
  clear hK K
  ((with_reducible refine wpRead_step (fun K hK => ?_)); go_simp; first | ((with_reducible refine hK _ ?_); clear hK K) | (apply Exists.intro; (with_reducible refine ⟨fun w' hw' => ?_, hK _ ?_⟩); (first | exact rfl | exact ⟨rfl, rfl⟩); clear hK K))
  ((with_reducible refine wpRead_step (fun K hK => ?_)); go_simp; first | ((with_reducible refine hK _ ?_); clear hK K) | (apply Exists.intro; (with_reducible refine ⟨fun w' hw' => ?_, hK _ ?_⟩); (first | exact rfl | exact ⟨rfl, rfl⟩); clear hK K))
  with_reducible refine wpRead_yes ?_ ?_
  rotate_left
  rfl
  intro K hK
  refine read_load 34 _ rfl w.heap.size 0 #[.int .i64 5, .int .i64 1, .int .u32 167772160, .int .i64 8, .int .i64 9] rfl (fun w' hw' => rangeAt_block ((Below.block hw' _ (lt_of_blk F9.out.1)).trans F9.out.1) 0 _ rfl) Try.underlying34 rfl (by kernel_rfl) (hK _ ?_)
  clear hK K
  ((with_reducible refine wpRead_step (fun K hK => ?_)); go_simp; first | ((with_reducible refine hK _ ?_); clear hK K) | (apply Exists.intro; (with_reducible refine ⟨fun w' hw' => ?_, hK _ ?_⟩); (first | exact rfl | exact ⟨rfl, rfl⟩); clear hK K))
  ((with_reducible refine wpRead_step (fun K hK => ?_)); go_simp; first | ((with_reducible refine hK _ ?_); clear hK K) | (apply Exists.intro; (with_reducible refine ⟨fun w' hw' => ?_, hK _ ?_⟩); (first | exact rfl | exact ⟨rfl, rfl⟩); clear hK K))
  ((with_reducible refine wpRead_step (fun K hK => ?_)); go_simp; first | ((with_reducible refine hK _ ?_); clear hK K) | (apply Exists.intro; (with_reducible refine ⟨fun w' hw' => ?_, hK _ ?_⟩); (first | exact rfl | exact ⟨rfl, rfl⟩); clear hK K))
  ((with_reducible refine wpRead_step (fun K hK => ?_)); go_simp; first | ((with_reducible refine hK _ ?_); clear hK K) | (apply Exists.intro; (with_reducible refine ⟨fun w' hw' => ?_, hK _ ?_⟩); (first | exact rfl | exact ⟨rfl, rfl⟩); clear hK K))
  ((with_reducible refine wpRead_step (fun K hK => ?_)); go_simp; first | ((with_reducible refine hK _ ?_); clear hK K) | (apply Exists.intro; (with_reducible refine ⟨fun w' hw' => ?_, hK _ ?_⟩); (first | exact rfl | exact ⟨rfl, rfl⟩); clear hK K))
  ((with_reducible refine wpRead_step (fun K hK => ?_)); go_simp; first | ((with_reducible refine hK _ ?_); clear hK K) | (apply Exists.intro; (with_reducible refine ⟨fun w' hw' => ?_, hK _ ?_⟩); (first | exact rfl | exact ⟨rfl, rfl⟩); clear hK K))
  with_reducible refine wpRead_yes ?_ ?_
  rotate_left
  rfl
  intro K hK
  refine read_load 34 _ rfl w.heap.size 5 #[.int .i64 4, .int .i64 1, .int .u32 167837696, .int .i64 16, .int .i64 0] rfl (fun w' hw' => rangeAt_block ((Below.block hw' _ (lt_of_blk F9.out.1)).trans F9.out.1) 5 _ rfl) Try.underlying34 rfl (by kernel_rfl) (hK _ ?_)
  clear hK K
  ((with_reducible refine wpRead_step (fun K hK => ?_)); go_simp; first | ((with_reducible refine hK _ ?_); clear hK K) | (apply Exists.intro; (with_reducible refine ⟨fun w' hw' => ?_, hK _ ?_⟩); (first | exact rfl | exact ⟨rfl, rfl⟩); clear hK K))
  ((with_reducible refine wpRead_step (fun K hK => ?_)); go_simp; first | ((with_reducible refine hK _ ?_); clear hK K) | (apply Exists.intro; (with_reducible refine ⟨fun w' hw' => ?_, hK _ ?_⟩); (first | exact rfl | exact ⟨rfl, rfl⟩); clear hK K))
  with_reducible refine wpRead_yes ?_ ?_
  rotate_left
  rfl
  intro K hK
  refine read_load 34 _ rfl w.heap.size 0 #[.int .i64 5, .int .i64 1, .int .u32 167772160, .int .i64 8, .int .i64 9] rfl (fun w' hw' => rangeAt_block ((Below.block hw' _ (lt_of_blk F9.out.1)).trans F9.out.1) 0 _ rfl) Try.underlying34 rfl (by kernel_rfl) (hK _ ?_)
  clear hK K
  with_reducible refine wpRead_nil ?_
  have hal := (Below.refl Wd.heap.size Wd).alloc (Nat.le_refl _) (.cells #[.int .i64 4, .int .i64 1, .int .u32 167837696, .int .i64 16, .int .i64 0, .int .i64 5, .int .i64 1, .int .u32 167772160, .int .i64 8, .int .i64 9] 34)
  have hlb : (Wd.alloc (.cells #[.int .i64 4, .int .i64 1, .int .u32 167837696, .int .i64 16, .int .i64 0, .int .i64 5, .int .i64 1, .int .u32 167772160, .int .i64 8, .int .i64 9] 34)).heap[Wd.heap.size]? = some (.cells #[.int .i64 4, .int .i64 1, .int .u32 167837696, .int .i64 16, .int .i64 0, .int .i64 5, .int .i64 1, .int .u32 167772160, .int .i64 8, .int .i64 9] 34) := hnew _ _
  have F10 := Lib.hid (And.intro ((hal.block _ (lt_of_blk F9.out.1)).trans F9.out.1) (And.intro (bcall F9.out.2.1 (Nat.le_refl _) hal) (And.intro (F9.out.2.2.1.keep hal) (And.intro ((hal.block _ (lt_of_blk F9.out.2.2.2.1)).trans F9.out.2.2.2.1) (And.intro ((hal.block _ (lt_of_blk F9.out.2.2.2.2.1)).trans F9.out.2.2.2.2.1) (And.intro ((hal.block _ (lt_of_blk F9.out.2.2.2.2.2.1)).trans F9.out.2.2.2.2.2.1) (And.intro (F9.out.2.2.2.2.2.2.1.keep hal) (And.intro (ExtS.go F9.out.2.2.2.2.2.2.2 hal) (hlb)))))))))
  clear F9
  clear hal hlb
  refine held_one 38 (by kernel_rfl) ?_
  simp only [pick, List.getD_cons_zero, List.getD_cons_succ]
  go_wp2_with fail
  generalize Wd.alloc (.cells #[.int .i64 4, .int .i64 1, .int .u32 167837696, .int .i64 16, .int .i64 0, .int .i64 5, .int .i64 1, .int .u32 167772160, .int .i64 8, .int .i64 9] 34) = We at *
  generalize Wd.heap.size = qd at *
  refine ⟨F10.out.2.2.2.2.2.2.2.1, ?_⟩
  refine held_one 39 (by kernel_rfl) ?_
  simp only [pick, List.getD_cons_zero, List.getD_cons_succ]
  go_wp2_with fail
  refine (rsameI F10.out.2.2.2.2.2.2.1 (show RIf.Sl We (some ⟨qd, 0, none⟩) 2 2 [i2, i1] from ⟨rfl, by unfold maxLen; omega, fun _ => ⟨qd, 0, rfl, rowOf F10.out.2.2.2.2.2.2.2.2 rfl⟩⟩)).mono ?_
  rintro e Wf ⟨rfl, hb39⟩
  have F11 := Lib.hid (And.intro ((hb39.block _ (lt_of_blk F10.out.1)).trans F10.out.1) (And.intro (bcall F10.out.2.1 (Nat.le_refl _) hb39) (And.intro (F10.out.2.2.1.keep hb39) (And.intro ((hb39.block _ (lt_of_blk F10.out.2.2.2.1)).trans F10.out.2.2.2.1) (And.intro ((hb39.block _ (lt_of_blk F10.out.2.2.2.2.1)).trans F10.out.2.2.2.2.1) (And.intro ((hb39.block _ (lt_of_blk F10.out.2.2.2.2.2.1)).trans F10.out.2.2.2.2.2.1) (And.intro (F10.out.2.2.2.2.2.2.1.keep hb39) (And.intro (ExtS.go F10.out.2.2.2.2.2.2.2.1 hb39) (((hb39.block _ (lt_of_blk F10.out.2.2.2.2.2.2.2.2)).trans F10.out.2.2.2.2.2.2.2.2))))))))))
  clear F10
  clear hb39
  go_wp2_with fail
  refine ⟨F11.out.2.2.2.2.2.2.2.1, ?_⟩
  refine held_reads [40, 41, 42] (g := 9) rfl (by kernel_rfl) F11.out.2.2.2.2.2.2.2.1 (fun _ _ d _ _ h => by cases d <;> exact h) ?_
  simp only [pick, List.getD_cons_zero, List.getD_cons_succ]
  ((with_reducible refine wpRead_step (fun K hK => ?_)); go_simp; first | ((with_reducible refine hK _ ?_); clear hK K) | (apply Exists.intro; (with_reducible refine ⟨fun w' hw' => ?_, hK _ ?_⟩); (first | exact rfl | exact ⟨rfl, rfl⟩); clear hK K))
  ((with_reducible refine wpRead_step (fun K hK => ?_)); go_simp; first | ((with_reducible refine hK _ ?_); clear hK K) | (apply Exists.intro; (with_reducible refine ⟨fun w' hw' => ?_, hK _ ?_⟩); (first | exact rfl | exact ⟨rfl, rfl⟩); clear hK K))
  ((with_reducible refine wpRead_step (fun K hK => ?_)); go_simp; first | ((with_reducible refine hK _ ?_); clear hK K) | (apply Exists.intro; (with_reducible refine ⟨fun w' hw' => ?_, hK _ ?_⟩); (first | exact rfl | exact ⟨rfl, rfl⟩); clear hK K))
  with_reducible refine wpRead_nil ?_
  refine held_one 43 (by kernel_rfl) ?_
  simp only [pick, List.getD_cons_zero, List.getD_cons_succ]
  go_wp2_with fail
  refine (len_of F11.out.2.2.1 good12).mono ?_
  rintro e Wg ⟨rfl, rfl⟩
  rw [show (([i1, i2] : List If).length : Int) = 2 from rfl]
  go_wp2_with fail
  refine ⟨F11.out.2.2.2.2.2.2.2.1, ?_⟩
  refine held_reads [44, 45, 46, 47] (g := 4) rfl (by kernel_rfl) F11.out.2.2.2.2.2.2.2.1 (fun _ _ d _ _ h => by cases d <;> exact h) ?_
  simp only [pick, List.getD_cons_zero, List.getD_cons_succ]
  ((with_reducible refine wpRead_step (fun K hK => ?_)); go_simp; first | ((with_reducible refine hK _ ?_); clear hK K) | (apply Exists.intro; (with_reducible refine ⟨fun w' hw' => ?_, hK _ ?_⟩); (first | exact rfl | exact ⟨rfl, rfl⟩); clear hK K))
  ((with_reducible refine wpRead_step (fun K hK => ?_)); go_simp; first | ((with_reducible refine hK _ ?_); clear hK K) | (apply Exists.intro; (with_reducible refine ⟨fun w' hw' => ?_, hK _ ?_⟩); (first | exact rfl | exact ⟨rfl, rfl⟩); clear hK K))
  ((with_reducible refine wpRead_step (fun K hK => ?_)); go_simp; first | ((with_reducible refine hK _ ?_); clear hK K) | (apply Exists.intro; (with_reducible refine ⟨fun w' hw' => ?_, hK _ ?_⟩); (first | exact rfl | exact ⟨rfl, rfl⟩); clear hK K))
  ((with_reducible refine wpRead_step (fun K hK => ?_)); go_simp; first | ((with_reducible refine hK _ ?_); clear hK K) | (apply Exists.intro; (with_reducible refine ⟨fun w' hw' => ?_, hK _ ?_⟩); (first | exact rfl | exact ⟨rfl, rfl⟩); clear hK K))
  with_reducible refine wpRead_nil ?_
  refine held_one 48 (by kernel_rfl) ?_
  simp only [pick, List.getD_cons_zero, List.getD_cons_succ]
  go_wp2_with fail
  refine (hcheck_ok (show Ifs Wg (some ⟨w.heap.size, 0, none⟩) 2 2 [i1, i2] from ⟨(show RIf.Sl Wg (some ⟨w.heap.size, 0, none⟩) 2 2 [i1, i2] from ⟨rfl, by unfold maxLen; omega, fun _ => ⟨w.heap.size, 0, rfl, rowOf F11.out.1 rfl⟩⟩), by decide⟩) good12).mono ?_
  rintro e Wh ⟨rfl, hb48⟩
  have F12 := Lib.hid (And.intro ((hb48.block _ (lt_of_blk F11.out.1)).trans F11.out.1) (And.intro (bcall F11.out.2.1 (Nat.le_refl _) hb48) (And.intro (F11.out.2.2.1.keep hb48) (And.intro ((hb48.block _ (lt_of_blk F11.out.2.2.2.1)).trans F11.out.2.2.2.1) (And.intro ((hb48.block _ (lt_of_blk F11.out.2.2.2.2.1)).trans F11.out.2.2.2.2.1) (And.intro ((hb48.block _ (lt_of_blk F11.out.2.2.2.2.2.1)).trans F11.out.2.2.2.2.2.1) (And.intro (F11.out.2.2.2.2.2.2.1.keep hb48) (And.intro (ExtS.go F11.out.2.2.2.2.2.2.2.1 hb48) (((hb48.block _ (lt_of_blk F11.out.2.2.2.2.2.2.2.2)).trans F11.out.2.2.2.2.2.2.2.2))))))))))
  clear F11
  clear hb48
  go_wp2_with fail
  refine ⟨F12.out.2.2.2.2.2.2.2.1, ?_⟩
  refine held_reads [49, 50] (g := 1) rfl (by kernel_rfl) F12.out.2.2.2.2.2.2.2.1 (fun _ _ d _ _ h => by cases d <;> exact h) ?_
  simp only [pick, List.getD_cons_zero, List.getD_cons_succ]
  ((with_reducible refine wpRead_step (fun K hK => ?_)); go_simp; first | ((with_reducible refine hK _ ?_); clear hK K) | (apply Exists.intro; (with_reducible refine ⟨fun w' hw' => ?_, hK _ ?_⟩); (first | exact rfl | exact ⟨rfl, rfl⟩); clear hK K))
  ((with_reducible refine wpRead_step (fun K hK => ?_)); go_simp; first | ((with_reducible refine hK _ ?_); clear hK K) | (apply Exists.intro; (with_reducible refine ⟨fun w' hw' => ?_, hK _ ?_⟩); (first | exact rfl | exact ⟨rfl, rfl⟩); clear hK K))
  with_reducible refine wpRead_nil ?_
  refine held_one 51 (by kernel_rfl) ?_
  simp only [pick, List.getD_cons_zero, List.getD_cons_succ]
  go_wp2_with fail
  refine ⟨F12.out.2.2.2.2.2.2.2.1, ?_⟩
  refine wpAnyH_done (by kernel_rfl) ?_ _
  go_wp2_with fail
  go_ret
  exact ⟨rfl, F12.out.2.1⟩
end Go.Proofs.Ytlkbaplfffbmkaa
/- lives. -/
namespace Go.Proofs.Ytlkbaplfffbmkaa
open Go.RowKit

def j5 : If := ⟨5, 0, 0, 0, 200⟩
def j7 : If := ⟨7, 1, 0, 0, 30⟩
def D57 : HD := hdOf [j5, j7]
def T0 : Nat → Int × Int × Bool := fun _ => (0, 0, false)
def S0 : Int → Option Cy := fun _ => none
def L57 : List Cy := [⟨5, 100, false⟩, ⟨7, 0, true⟩]
def S1 : Int → Option Cy := sayAll S0 L57
def T1 : Nat → Int × Int × Bool := setT T0 (2 : Int).toNat (1, 9, true)
theorem good57 : Good [j5, j7] := good_iff.1 (by decide)
theorem sort57 : sortI [j5, j7] = [j5, j7] := rfl
theorem LS57 : (sortI [j5, j7]).map (cyOf S1) = L57 := rfl
theorem get5 : D57.get 5 = some j5 := get_of good57 (x := j5) (by simp)
theorem get7 : D57.get 7 = some j7 := get_of good57 (x := j7) (by simp)
theorem get6 : D57.get 6 = none := by
  cases h : D57.get 6 with
  | none => rfl
  | some y =>
    obtain ⟨h1, h2⟩ := get_mem h
    simp at h1
    rcases h1 with rfl | rfl <;> cases h2
theorem tk1 : takeE D57 T0 2 1 9 L57 = 0 := by
  unfold takeE
  rw [show okCs 2 1 L57 = true by decide, show allIn D57 L57 = true by simp [allIn, L57, get5, get7]]
  decide
theorem tk2 : takeE D57 T1 2 1 10 [] = 170 := by
  unfold takeE
  rw [show okCs 2 1 [] = true by decide, show allIn D57 [] = true by simp [allIn]]
  decide
theorem tk3 : takeE D57 T1 0 1 10 [⟨6, 0, false⟩] = 4 := by
  unfold takeE
  rw [show okCs 0 1 [⟨6, 0, false⟩] = true by decide, show allIn D57 [⟨6, 0, false⟩] = false by simp [allIn, get6]]
  decide
theorem cg5 : CGet D57 S0 5 = if true then some ⟨5, 200, false⟩ else none := by unfold CGet; rw [get5]; rfl
theorem cg51 : CGet D57 S1 5 = if true then some ⟨5, 100, false⟩ else none := by unfold CGet; rw [get5]; rfl
theorem cg71 : CGet D57 S1 7 = if true then some ⟨7, 0, true⟩ else none := by unfold CGet; rw [get7]; rfl
theorem cg61 : CGet D57 S1 6 = if false then some ⟨0, 0, false⟩ else none := by unfold CGet; rw [get6]; rfl
theorem lim190 : limB true ⟨5, 200, false⟩ 950 = 190 := by decide
theorem lim0 : limB true ⟨7, 0, true⟩ 500 = 0 := rfl
theorem lim00 : limB false ⟨0, 0, false⟩ 500 = 0 := rfl
theorem bad1 : okCs (-1) 0 [] = false := by decide
theorem st29 : stO T1 2 = (9, true) := by decide
theorem ids57 : ∀ y ∈ L57, IN.ok y.id := by
  intro y hy
  simp only [L57, List.mem_cons, List.not_mem_nil, or_false] at hy
  rcases hy with rfl | rfl <;> exact wfI (by decide)
theorem ids6 : ∀ y ∈ [(⟨6, 0, false⟩ : Cy)], IN.ok y.id := by
  intro y hy
  simp only [List.mem_cons, List.not_mem_nil, or_false] at hy
  subst hy; exact wfI (by decide)
theorem cys_row {w : World} {b : Nat} {cs : Array Value} {L : List Cy} (h : w.heap[b]? = some (.cells cs 69)) (hcs : cs.toList = RCy.flat L) (hl : L.length ≤ 256) (hid : ∀ y ∈ L, IN.ok y.id) : Cys w (some ⟨b, 0, none⟩) L.length L.length L :=
  ⟨⟨rfl, by unfold maxLen; omega, fun _ => ⟨b, 0, rfl, rowOf h hcs⟩⟩, hid⟩
theorem cys_nil (w : World) : Cys w none 0 0 [] := ⟨⟨rfl, by unfold maxLen; omega, fun h => absurd h (Nat.lt_irrefl _)⟩, fun y hy => by cases hy⟩
set_option maxRecDepth 100000 in
set_option maxHeartbeats 4000000 in
theorem lives18 (w : World) : Calls Try.prog 22 #[] w fun e w' => e = .returned (.bool true) ∧ Below w.heap.size w w' := by
  go_enter Try.func22, Try.ntmps22
  have hal := (Below.refl w.heap.size w).alloc (Nat.le_refl _) (.cells #[.int .i64 5, .int .i64 0, .int .u32 0, .int .i64 0, .int .i64 200, .int .i64 7, .int .i64 1, .int .u32 0, .int .i64 0, .int .i64 30] 34)
  have hlb : (w.alloc (.cells #[.int .i64 5, .int .i64 0, .int .u32 0, .int .i64 0, .int .i64 200, .int .i64 7, .int .i64 1, .int .u32 0, .int .i64 0, .int .i64 30] 34)).heap[w.heap.size]? = some (.cells #[.int .i64 5, .int .i64 0, .int .u32 0, .int .i64 0, .int .i64 200, .int .i64 7, .int .i64 1, .int .u32 0, .int .i64 0, .int .i64 30] 34) := hnew _ _
  have F0 := Lib.hid (And.intro hlb hal)
  clear hal hlb
  go_wp2_with fail
  generalize w.alloc (.cells #[.int .i64 5, .int .i64 0, .int .u32 0, .int .i64 0, .int .i64 200, .int .i64 7, .int .i64 1, .int .u32 0, .int .i64 0, .int .i64 30] 34) = W1 at *
  refine (hnew_ok (l := [j5, j7]) (show Ifs W1 (some ⟨w.heap.size, 0, none⟩) 2 2 [j5, j7] from ⟨⟨rfl, by unfold maxLen; omega, fun _ => ⟨w.heap.size, 0, rfl, rowOf F0.out.1 rfl⟩⟩, by decide⟩) good57).mono ?_
  rintro e W2 ⟨h, rfl, hH, hb2⟩
  have F1 := Lib.hid (And.intro (bcall F0.out.2 (Nat.le_refl _) hb2) hH)
  clear hH hb2 F0
  go_wp2_with fail
  refine (cnew_S (D := D57) F1.out.2).mono ?_
  rintro e W3 ⟨c, bm, rfl, hC⟩
  have F2 := Lib.hid (show Below w.heap.size w W2 ∧ CapS W2 W3 c bm h D57 S0 T0 from And.intro F1.out.1 hC)
  clear hC F1
  go_wp2_with fail
  refine (limit_any F2.out.2.at (wfI (by decide)) 950 ⟨5, 200, false⟩ true cg5 (fun h => by cases h) ⟨by decide, by decide⟩).mono ?_
  rintro e W4 ⟨rfl, hb⟩
  rw [lim190]
  have F3 := Lib.hid (And.intro F2.out.1 (F2.out.2.keep hb))
  clear hb F2
  have hal := (Below.refl W4.heap.size W4).alloc (Nat.le_refl _) (.cells #[.int .i64 5, .int .i64 100, .bool false, .int .i64 7, .int .i64 0, .bool true] 69)
  have hlb : (W4.alloc (.cells #[.int .i64 5, .int .i64 100, .bool false, .int .i64 7, .int .i64 0, .bool true] 69)).heap[W4.heap.size]? = some (.cells #[.int .i64 5, .int .i64 100, .bool false, .int .i64 7, .int .i64 0, .bool true] 69) := hnew _ _
  have F4 := Lib.hid (And.intro F3.out.1 (And.intro (F3.out.2.keep hal) (And.intro hlb (And.intro (show W4.heap.size ≠ c from Nat.ne_of_gt F3.out.2.lc.1) (show W4.heap.size ≠ bm from Nat.ne_of_gt F3.out.2.lc.2)))))
  clear hal hlb F3
  go_wp2_with fail
  generalize W4.alloc (.cells #[.int .i64 5, .int .i64 100, .bool false, .int .i64 7, .int .i64 0, .bool true] 69) = W5 at *
  generalize W4.heap.size = q4 at *
  refine (ctake_any F4.out.2.1 (cys_row (L := L57) F4.out.2.2.1 rfl (by decide) ids57) (by rintro - b o e; injection e with e; injection e with e1; subst e1; exact F4.out.2.2.2) 9).mono ?_
  rintro e W6 ⟨rfl, hT⟩
  have h1 := hT.cap
  rw [if_pos tk1, if_pos tk1] at h1
  rw [tk1]
  have F5 := Lib.hid (show Below w.heap.size w W2 ∧ CapS W2 W6 c bm h D57 S1 T1 from And.intro F4.out.1 h1)
  clear hT h1 F4
  go_wp2_with fail
  refine (ctake_any F5.out.2 (cys_nil W6) (fun h => absurd h (Nat.lt_irrefl _)) 10).mono ?_
  rintro e W7 ⟨rfl, hT⟩
  have h1 := hT.cap
  rw [if_neg (by rw [tk2]; decide), if_neg (by rw [tk2]; decide)] at h1
  rw [tk2]
  have F6 := Lib.hid (And.intro F5.out.1 h1)
  clear hT h1 F5
  have hal := (Below.refl W7.heap.size W7).alloc (Nat.le_refl _) (.cells #[.int .i64 6, .int .i64 0, .bool false] 69)
  have hlb : (W7.alloc (.cells #[.int .i64 6, .int .i64 0, .bool false] 69)).heap[W7.heap.size]? = some (.cells #[.int .i64 6, .int .i64 0, .bool false] 69) := hnew _ _
  have F7 := Lib.hid (And.intro F6.out.1 (And.intro (F6.out.2.keep hal) (And.intro hlb (And.intro (show W7.heap.size ≠ c from Nat.ne_of_gt F6.out.2.lc.1) (show W7.heap.size ≠ bm from Nat.ne_of_gt F6.out.2.lc.2)))))
  clear hal hlb F6
  go_wp2_with fail
  generalize W7.alloc (.cells #[.int .i64 6, .int .i64 0, .bool false] 69) = W8 at *
  generalize W7.heap.size = q7 at *
  refine (ctake_any F7.out.2.1 (cys_row (L := [⟨6, 0, false⟩]) F7.out.2.2.1 rfl (by decide) ids6) (by rintro - b o e; injection e with e; injection e with e1; subst e1; exact F7.out.2.2.2) 10).mono ?_
  rintro e W9 ⟨rfl, hT⟩
  have h1 := hT.cap
  rw [if_neg (by rw [tk3]; decide), if_neg (by rw [tk3]; decide)] at h1
  rw [tk3]
  have F8 := Lib.hid (And.intro F7.out.1 h1)
  clear hT h1 F7
  go_wp2_with fail
  refine (get_any F8.out.2.at (wfI (by decide)) ⟨5, 100, false⟩ true cg51 (fun h => by cases h)).mono ?_
  rintro e W10 ⟨rfl, hb⟩
  rw [show Cy.v ⟨5, 100, false⟩ = .agg #[.int .i64 5, .int .i64 100, .bool false] from rfl]
  have hal := (Below.refl W10.heap.size W10).alloc (Nat.le_refl _) (.cells #[.int .i64 5, .int .i64 100, .bool false] 69)
  have hlb : (W10.alloc (.cells #[.int .i64 5, .int .i64 100, .bool false] 69)).heap[W10.heap.size]? = some (.cells #[.int .i64 5, .int .i64 100, .bool false] 69) := hnew _ _
  have F9 := Lib.hid (And.intro F8.out.1 (And.intro ((F8.out.2.keep hb).keep hal) hlb))
  clear hal hlb hb F8
  go_wp2_with fail
  generalize W10.alloc (.cells #[.int .i64 5, .int .i64 100, .bool false] 69) = W11 at *
  generalize W10.heap.size = q10 at *
  refine (callC_any F9.out.2.1.at good57).mono ?_
  rintro e W12 ⟨v, rfl, hown, hb⟩
  rw [LS57] at hown
  rcases hown.cases with ⟨-, h⟩ | ⟨g, cap, rfl, hg, hgl, hl1, hl2, hrow, -⟩
  · cases h
  have y0 := hrow.get 1 (by decide) 2 (by decide)
  have F10 := Lib.hid (And.intro F9.out.1 (And.intro (F9.out.2.1.keep hb) (And.intro ((hb.block _ (lt_of_blk F9.out.2.2)).trans F9.out.2.2) (And.intro (show W12.cell? ⟨g, 5, none⟩ = some (.bool true) from y0) hgl))))
  rw [show L57.length = 2 from rfl]
  clear hown hb hg hgl hl1 hl2 hrow y0 F9
  go_wp2_with fail
  refine (stamp_any F10.out.2.1 2 9 true st29).mono ?_
  rintro e W13 ⟨rfl, hb⟩
  have F11 := Lib.hid (And.intro F10.out.1 (And.intro (F10.out.2.1.keep hb) (And.intro ((hb.block _ (lt_of_blk F10.out.2.2.1)).trans F10.out.2.2.1) ((cell_same (hb.block _ F10.out.2.2.2.2)).trans F10.out.2.2.2.1))))
  clear hb F10
  go_wp2_with fail
  refine (cnew_nil _).mono ?_
  rintro e W14 ⟨rfl, rfl⟩
  have y5 : W14.cell? ⟨q10, 1, none⟩ = some (.int .i64 100) := cell_of F11.out.2.2.1 rfl
  have y6 : W14.cell? ⟨g, 5, none⟩ = some (.bool true) := F11.out.2.2.2
  go_wp2_with fail
  refine (limit_any F11.out.2.1.at (wfI (by decide)) 500 ⟨7, 0, true⟩ true cg71 (fun h => by cases h) ⟨by decide, by decide⟩).mono ?_
  rintro e W15 ⟨rfl, hb⟩
  rw [lim0]
  have F12 := Lib.hid (And.intro F11.out.1 (F11.out.2.1.keep hb))
  clear hb F11 y5 y6
  go_wp2_with fail
  refine (limit_any F12.out.2.at (wfI (by decide)) 500 ⟨0, 0, false⟩ false cg61 (fun _ => rfl) ⟨by decide, by decide⟩).mono ?_
  rintro e W16 ⟨rfl, hb⟩
  rw [lim00]
  have F13 := Lib.hid (And.intro F12.out.1 (F12.out.2.keep hb))
  clear hb F12
  go_wp2_with fail
  refine (ccheck_any (cys_nil W16) false bad1).mono ?_
  rintro e W17 ⟨rfl, hb⟩
  have F14 := Lib.hid (And.intro F13.out.1 (F13.out.2.keep hb))
  clear hb F13
  go_wp2_with fail
  go_ret
  exact ⟨rfl, F14.out.1.trans (F14.out.2.bel.mono F14.out.1.size)⟩
end Go.Proofs.Ytlkbaplfffbmkaa
/- The reference's Check, exact. -/
namespace Go.Proofs.Ytlkbaplfffbmkaa
open Go.RowKit

theorem bad_of {l : List If} (h : ¬ Good l) : goodB l = false := by
  cases hb : goodB l with
  | false => rfl
  | true => exact absurd (good_iff.1 hb) h
theorem bad_item {l : List If} {i : Nat} {x : If} (hi : i < l.length) (hx : l.getD i default = x) (h : ¬ okI x = true) : Ending.returned (.bool false) = .returned (.bool (goodB l)) := ret_bool (bad_of fun hg => h (hx ▸ hg.ok _ (getD_mem hi))).symm
theorem bad_id {l : List If} {k i : Nat} (hk : k < i) (hi : i < l.length) (h : (l.getD k default).id = (l.getD i default).id) : Ending.returned (.bool false) = .returned (.bool (goodB l)) := ret_bool (bad_of fun hg => hg.ids k i hk hi h).symm
theorem bad_net {l : List If} {k i : Nat} (hk : k < i) (hi : i < l.length) (h1 : (l.getD k default).r = (l.getD i default).r) (h2 : (l.getD k default).ad = (l.getD i default).ad) (h3 : (l.getD k default).ln = (l.getD i default).ln) : Ending.returned (.bool false) = .returned (.bool (goodB l)) := ret_bool (bad_of fun hg => hg.nets k i hk hi h1 h2 h3).symm
set_option maxRecDepth 100000 in
set_option maxHeartbeats 2000000 in
theorem rchk_is {w : World} {oa : Option Addr} {n c : Nat} {l : List If} (h : Ifs w oa n c l) : Calls Try.prog 12 #[.slice oa n c] w fun e w' => e = .returned (.bool (goodB l)) ∧ Below w.heap.size w w' := by
  have HL := Lib.hid h.sl.len
  have F := Lib.hid h
  have hmax := h.sl.max
  clear h
  go_enter Try.func12, Try.ntmps12
  go_wp2_with fail
  go_loopw [3] (fun iv wr => ∃ i : Nat, i ≤ n ∧ iv = .int .i64 i ∧ GoodTo l i ∧ Below w.heap.size w wr) (fun iv _ => n - (intOf iv).toNat)
  case atStart => exact ⟨0, Nat.zero_le _, rfl, ⟨fun j hj => by omega, fun k j _ hj => by omega, fun k j _ hj => by omega⟩, Below.refl _ _⟩
  case round =>
    obtain ⟨i, hi, rfl, hg, hb⟩ := hrel
    obtain ⟨w2, rfl⟩ : ∃ w2 : World, w2 = wr := ⟨_, rfl⟩
    have HG := Lib.hid hg
    clear hg
    by_cases hlt : i < n
    · have hil : ((i : Int) < (n : Int)) = True := by simp; omega
      have hlen : l.length = n := HL.out.symm
      obtain ⟨b0, o0, rfl, hbb, hat⟩ := (F.out.keep hb).sl.at hlt
      have c0 := hat 0 (by decide)
      have c1 := hat 1 (by decide)
      have c2 := hat 2 (by decide)
      have c3 := hat 3 (by decide)
      have c4 := hat 4 (by decide)
      simp only [RIf, Nat.add_zero, List.getElem?_cons_zero, List.getElem?_cons_succ] at c0 c1 c2 c3 c4
      have hadx : (l.getD i default).ad < 4294967296 := F.out.ad _ (getD_mem (by omega))
      obtain ⟨x, hx⟩ : ∃ x, l.getD i default = x := ⟨_, rfl⟩
      rw [hx] at c0 c1 c2 c3 c4 hadx
      have HX := Lib.hid hx
      have hal := (Below.refl w2.heap.size w2).alloc (Nat.le_refl _) (.cells #[.int .i64 x.id, .int .i64 x.r, .int .u32 (x.ad : Int), .int .i64 x.ln, .int .i64 x.cp] 34)
      have hxs : IfS w2.heap.size x (w2.alloc (.cells #[.int .i64 x.id, .int .i64 x.r, .int .u32 (x.ad : Int), .int .i64 x.ln, .int .i64 x.cp] 34)) := hnew _ _
      have F1 := Lib.hid (And.intro (bcall hb (Nat.le_refl _) hal) (And.intro hxs hadx))
      obtain ⟨z0, z1, z2, z3, z4⟩ := hxs.cells
      clear hal hxs hat hx hadx hb hlen
      have hw3 := wrapS hlt hmax
      by_cases h1 : x.id < 0
      · have h1t : (x.id < 0) = True := by simp; omega
        go_wp2_with fail
        go_ret
        exact ⟨bad_item (by rw [← HL.out]; exact hlt) HX.out (fun h => by have h' := okI_iff.1 h; first | omega | (have h5 := h'.2.2.2.2.1; rw [hok] at h5; cases h5)), F1.out.1⟩
      have h1f : (x.id < 0) = False := by simp; omega
      by_cases h2 : 4294967295 < x.id
      · have h2t : (4294967295 < x.id) = True := by simp; omega
        go_wp2_with fail
        go_ret
        exact ⟨bad_item (by rw [← HL.out]; exact hlt) HX.out (fun h => by have h' := okI_iff.1 h; first | omega | (have h5 := h'.2.2.2.2.1; rw [hok] at h5; cases h5)), F1.out.1⟩
      have h2f : (4294967295 < x.id) = False := by simp; omega
      by_cases h3 : x.r < 0
      · have h3t : (x.r < 0) = True := by simp; omega
        go_wp2_with fail
        go_ret
        exact ⟨bad_item (by rw [← HL.out]; exact hlt) HX.out (fun h => by have h' := okI_iff.1 h; first | omega | (have h5 := h'.2.2.2.2.1; rw [hok] at h5; cases h5)), F1.out.1⟩
      have h3f : (x.r < 0) = False := by simp; omega
      by_cases h4 : 15 < x.r
      · have h4t : (15 < x.r) = True := by simp; omega
        go_wp2_with fail
        go_ret
        exact ⟨bad_item (by rw [← HL.out]; exact hlt) HX.out (fun h => by have h' := okI_iff.1 h; first | omega | (have h5 := h'.2.2.2.2.1; rw [hok] at h5; cases h5)), F1.out.1⟩
      have h4f : (15 < x.r) = False := by simp; omega
      go_wp2_with fail
      generalize w2.alloc (.cells #[.int .i64 x.id, .int .i64 x.r, .int .u32 (x.ad : Int), .int .i64 x.ln, .int .i64 x.cp] 34) = W1 at *
      generalize w2.heap.size = q1 at *
      refine (rcheck_any x.ad x.ln F1.out.2.2 W1).mono ?_
      rintro e W2 ⟨rfl, hb2⟩
      have F2 := Lib.hid (And.intro (bcall F1.out.1 (Nat.le_refl _) hb2) (F1.out.2.1.on hb2))
      clear F1 hb2 z0 z1 z2 z3 z4
      obtain ⟨z0, z1, z2, z3, z4⟩ := F2.out.2.cells
      cases hok : okP x.ad x.ln with
      | false =>
        go_wp2_with fail
        go_ret
        exact ⟨bad_item (by rw [← HL.out]; exact hlt) HX.out (fun h => by have h' := okI_iff.1 h; first | omega | (have h5 := h'.2.2.2.2.1; rw [hok] at h5; cases h5)), F2.out.1⟩
      | true =>
        by_cases h5 : x.cp < 0
        · have h5t : (x.cp < 0) = True := by simp; omega
          go_wp2_with fail
          go_ret
          exact ⟨bad_item (by rw [← HL.out]; exact hlt) HX.out (fun h => by have h' := okI_iff.1 h; first | omega | (have h5 := h'.2.2.2.2.1; rw [hok] at h5; cases h5)), F2.out.1⟩
        have h5f : (x.cp < 0) = False := by simp; omega
        by_cases h6 : 9007199254740991 < x.cp
        · have h6t : (9007199254740991 < x.cp) = True := by simp; omega
          go_wp2_with fail
          go_ret
          exact ⟨bad_item (by rw [← HL.out]; exact hlt) HX.out (fun h => by have h' := okI_iff.1 h; first | omega | (have h5 := h'.2.2.2.2.1; rw [hok] at h5; cases h5)), F2.out.1⟩
        have h6f : (9007199254740991 < x.cp) = False := by simp; omega
        go_wp2_with fail
        have hokx : okI x = true := okI_iff.2 ⟨by omega, by omega, by omega, by omega, hok, by omega, by omega⟩
        have HO := Lib.hid hokx
        clear hokx z0 z1 z2 z3 z4 h1 h2 h3 h4 h5 h6 h1f h2f h3f h4f h5f h6f hok c0 c1 c2 c3 c4
        go_loopw [5] (fun kv wr => ∃ k : Nat, k ≤ i ∧ kv = .int .i64 k ∧ (∀ j, j < k → (l.getD j default).id ≠ x.id ∧ ((l.getD j default).r = x.r → (l.getD j default).ad = x.ad → (l.getD j default).ln = x.ln → False)) ∧ Below w.heap.size w wr ∧ IfS q1 x wr) (fun kv _ => i - (intOf kv).toNat)
        case atStart => exact ⟨0, Nat.zero_le _, rfl, fun j hj => by omega, F2.out⟩
        case round =>
          obtain ⟨k, hk, rfl, hne, hb, hxs⟩ := hrel
          obtain ⟨w3, rfl⟩ : ∃ w3 : World, w3 = wr := ⟨_, rfl⟩
          have HN := Lib.hid hne
          clear hne
          by_cases hkt : k < i
          · have hki : ((k : Int) < (i : Int)) = True := by simp; omega
            have hd := (Below.refl w3.heap.size w3).drew
            have hwk := wrapS hkt (by omega)
            have hkn : k < n := by omega
            have hlenl : l.length = n := HL.out.symm
            obtain ⟨b1, o1, e1, hbb1, hat⟩ := (F.out.keep (bcall hb (Nat.le_refl _) hd)).sl.at hkn
            obtain ⟨rfl, rfl⟩ : b0 = b1 ∧ o0 = o1 := by simp only [Option.some.injEq, Addr.mk.injEq] at e1; exact ⟨e1.1, e1.2.1⟩
            have c0 := hat 0 (by decide)
            have c1 := hat 1 (by decide)
            have c2 := hat 2 (by decide)
            have c3 := hat 3 (by decide)
            simp only [RIf, Nat.add_zero, List.getElem?_cons_zero, List.getElem?_cons_succ] at c0 c1 c2 c3
            obtain ⟨y, hy⟩ : ∃ y, l.getD k default = y := ⟨_, rfl⟩
            rw [hy] at c0 c1 c2 c3
            have F3 := Lib.hid (And.intro (bcall hb (Nat.le_refl _) hd) (And.intro (hxs.on hd) hy))
            clear hd hb hxs hat hbb1 hy hlenl
            go_wp2_with fail
            refine wp_region_heldP (fun w' => w' = w3.drew) (by kernel_rfl) ?_
            obtain ⟨z0, z1, z2, z3, z4⟩ := F3.out.2.1.cells
            generalize w3.drew = Wd at *
            have hcase : ((y.id = x.id) = True ∧ True) ∨ ((y.id = x.id) = False ∧ (y.r = x.r) = False ∧ (y.id ≠ x.id ∧ (y.r = x.r → y.ad = x.ad → y.ln = x.ln → False))) ∨ ((y.id = x.id) = False ∧ (y.r = x.r) = True ∧ ((y.ad : Int) = (x.ad : Int)) = True ∧ (y.ln = x.ln) = True) ∨ ((y.id = x.id) = False ∧ (y.r = x.r) = True ∧ ((y.ad : Int) = (x.ad : Int)) = False ∧ (y.id ≠ x.id ∧ (y.r = x.r → y.ad = x.ad → y.ln = x.ln → False))) ∨ ((y.id = x.id) = False ∧ (y.r = x.r) = True ∧ ((y.ad : Int) = (x.ad : Int)) = True ∧ (y.ln = x.ln) = False ∧ (y.id ≠ x.id ∧ (y.r = x.r → y.ad = x.ad → y.ln = x.ln → False))) := by
              by_cases g1 : y.id = x.id
              · exact .inl ⟨by simp [g1], trivial⟩
              · by_cases g2 : y.r = x.r
                · by_cases g3 : y.ad = x.ad
                  · by_cases g4 : y.ln = x.ln
                    · exact .inr (.inr (.inl ⟨by simp [g1], by simp [g2], by simp [g3], by simp [g4]⟩))
                    · exact .inr (.inr (.inr (.inr ⟨by simp [g1], by simp [g2], by simp [g3], by simp [g4], g1, fun _ _ h => g4 h⟩)))
                  · exact .inr (.inr (.inr (.inl ⟨by simp [g1], by simp [g2], by simp; omega, g1, fun _ h _ => g3 h⟩)))
                · exact .inr (.inl ⟨by simp [g1], by simp [g2], g1, fun h => absurd h g2⟩)
            rcases hcase with ⟨g1, -⟩ | ⟨g1, g2, hnn⟩ | ⟨g1, g2, g3, g4⟩ | ⟨g1, g2, g3, hnn⟩ | ⟨g1, g2, g3, g4, hnn⟩
            · refine held_reads [0, 1, 2, 3, 4, 5, 6, 7, 8, 9, 10, 11, 12, 13, 14, 15, 16, 17, 18, 19, 20, 21, 22, 23, 24, 25, 26, 27] (g := 0) rfl (by kernel_rfl) rfl (fun _ _ d _ _ h => by cases d <;> exact h) ?_
              simp only [pick, List.getD_cons_zero, List.getD_cons_succ]
              iterate 28 ((with_reducible refine wpRead_step (fun K hK => ?_)); go_simp; first | (rw [if_neg (by decide)]; (with_reducible refine hK _ ?_); clear hK K) | ((with_reducible refine hK _ ?_); clear hK K) | (apply Exists.intro; (with_reducible refine ⟨fun w' hw' => ?_, hK _ ?_⟩); (subst hw'; go_simp; first | exact rfl | exact ⟨rfl, rfl⟩); clear hK K))
              with_reducible refine wpRead_nil ?_
              refine wpAnyH_done (by kernel_rfl) ?_ _
              have g1b : (y.id == x.id) = true := by simpa using g1
              simp only [g1b]
              go_wp2_with fail
              go_ret
              exact ⟨bad_id hkt (by rw [← HL.out]; exact hlt) (by rw [F3.out.2.2, HX.out]; simpa using g1), F3.out.1⟩
            · have HNN := Lib.hid hnn
              clear hnn
              refine held_reads [0, 1, 2, 3, 4, 5, 6, 7, 8, 9, 10, 11, 12, 13, 14, 15, 16, 17, 18, 19, 20, 21, 22, 23, 24, 25, 26, 27] (g := 0) rfl (by kernel_rfl) rfl (fun _ _ d _ _ h => by cases d <;> exact h) ?_
              simp only [pick, List.getD_cons_zero, List.getD_cons_succ]
              iterate 28 ((with_reducible refine wpRead_step (fun K hK => ?_)); go_simp; first | (rw [if_neg (by decide)]; (with_reducible refine hK _ ?_); clear hK K) | ((with_reducible refine hK _ ?_); clear hK K) | (apply Exists.intro; (with_reducible refine ⟨fun w' hw' => ?_, hK _ ?_⟩); (subst hw'; go_simp; first | exact rfl | exact ⟨rfl, rfl⟩); clear hK K))
              with_reducible refine wpRead_nil ?_
              refine wpAnyH_done (by kernel_rfl) ?_ _
              have g1b : (y.id == x.id) = false := by simpa using g1
              have g2b : (y.r == x.r) = false := by simpa using g2
              simp only [g1b, g2b]
              go_wp2_with fail
              exact ⟨⟨k + 1, hkt, by first | rw [hwk] | rw [Int.natCast_succ], fun j hj => by
                rcases Nat.lt_succ_iff_lt_or_eq.1 hj with h | rfl
                · exact HN.out j h
                · rw [F3.out.2.2]; exact HNN.out, F3.out.1, F3.out.2.1⟩, by first | (rw [hwk]; exact mSucc hkt) | (rw [← Int.natCast_succ]; exact mSucc hkt)⟩
            · refine held_reads [0, 1, 2, 3, 4, 5, 6, 7, 8, 9, 10, 11, 12, 13, 14, 15, 16, 17, 18, 19, 20, 21, 22, 23, 24, 25, 26, 27] (g := 0) rfl (by kernel_rfl) rfl (fun _ _ d _ _ h => by cases d <;> exact h) ?_
              simp only [pick, List.getD_cons_zero, List.getD_cons_succ]
              iterate 28 ((with_reducible refine wpRead_step (fun K hK => ?_)); go_simp; first | (rw [if_neg (by decide)]; (with_reducible refine hK _ ?_); clear hK K) | ((with_reducible refine hK _ ?_); clear hK K) | (apply Exists.intro; (with_reducible refine ⟨fun w' hw' => ?_, hK _ ?_⟩); (subst hw'; go_simp; first | exact rfl | exact ⟨rfl, rfl⟩); clear hK K))
              with_reducible refine wpRead_nil ?_
              refine wpAnyH_done (by kernel_rfl) ?_ _
              have g1b : (y.id == x.id) = false := by simpa using g1
              have g2b : (y.r == x.r) = true := by simpa using g2
              simp only [g1b, g2b, Bool.false_or]
              go_wp2_with fail
              go_ret
              exact ⟨bad_net hkt (by rw [← HL.out]; exact hlt) (by rw [F3.out.2.2, HX.out]; simpa using g2) (by rw [F3.out.2.2, HX.out]; have g3' := of_eq_true g3; omega) (by rw [F3.out.2.2, HX.out]; simpa using g4), F3.out.1⟩
            · have HNN := Lib.hid hnn
              clear hnn
              refine held_reads [0, 1, 2, 3, 4, 5, 6, 7, 8, 9, 10, 11, 12, 13, 14, 15, 16, 17, 18, 19, 20, 21, 22, 23, 24, 25, 26, 27] (g := 0) rfl (by kernel_rfl) rfl (fun _ _ d _ _ h => by cases d <;> exact h) ?_
              simp only [pick, List.getD_cons_zero, List.getD_cons_succ]
              iterate 28 ((with_reducible refine wpRead_step (fun K hK => ?_)); go_simp; first | (rw [if_neg (by decide)]; (with_reducible refine hK _ ?_); clear hK K) | ((with_reducible refine hK _ ?_); clear hK K) | (apply Exists.intro; (with_reducible refine ⟨fun w' hw' => ?_, hK _ ?_⟩); (subst hw'; go_simp; first | exact rfl | exact ⟨rfl, rfl⟩); clear hK K))
              with_reducible refine wpRead_nil ?_
              refine wpAnyH_done (by kernel_rfl) ?_ _
              have g1b : (y.id == x.id) = false := by simpa using g1
              have g2b : (y.r == x.r) = true := by simpa using g2
              simp only [g1b, g2b]
              go_wp2_with fail
              exact ⟨⟨k + 1, hkt, by first | rw [hwk] | rw [Int.natCast_succ], fun j hj => by
                rcases Nat.lt_succ_iff_lt_or_eq.1 hj with h | rfl
                · exact HN.out j h
                · rw [F3.out.2.2]; exact HNN.out, F3.out.1, F3.out.2.1⟩, by first | (rw [hwk]; exact mSucc hkt) | (rw [← Int.natCast_succ]; exact mSucc hkt)⟩
            · have HNN := Lib.hid hnn
              clear hnn
              refine held_reads [0, 1, 2, 3, 4, 5, 6, 7, 8, 9, 10, 11, 12, 13, 14, 15, 16, 17, 18, 19, 20, 21, 22, 23, 24, 25, 26, 27] (g := 0) rfl (by kernel_rfl) rfl (fun _ _ d _ _ h => by cases d <;> exact h) ?_
              simp only [pick, List.getD_cons_zero, List.getD_cons_succ]
              iterate 28 ((with_reducible refine wpRead_step (fun K hK => ?_)); go_simp; first | (rw [if_neg (by decide)]; (with_reducible refine hK _ ?_); clear hK K) | ((with_reducible refine hK _ ?_); clear hK K) | (apply Exists.intro; (with_reducible refine ⟨fun w' hw' => ?_, hK _ ?_⟩); (subst hw'; go_simp; first | exact rfl | exact ⟨rfl, rfl⟩); clear hK K))
              with_reducible refine wpRead_nil ?_
              refine wpAnyH_done (by kernel_rfl) ?_ _
              have g1b : (y.id == x.id) = false := by simpa using g1
              have g2b : (y.r == x.r) = true := by simpa using g2
              simp only [g1b, g2b]
              go_wp2_with fail
              exact ⟨⟨k + 1, hkt, by first | rw [hwk] | rw [Int.natCast_succ], fun j hj => by
                rcases Nat.lt_succ_iff_lt_or_eq.1 hj with h | rfl
                · exact HN.out j h
                · rw [F3.out.2.2]; exact HNN.out, F3.out.1, F3.out.2.1⟩, by first | (rw [hwk]; exact mSucc hkt) | (rw [← Int.natCast_succ]; exact mSucc hkt)⟩
          · obtain rfl : i = k := by omega
            have hki : ((i : Int) < (i : Int)) = False := by simp
            have F3 := Lib.hid hb
            have hgs : GoodTo l (i + 1) := by
              refine ⟨fun j hj => ?_, fun k j hkj hj => ?_, fun k j hkj hj => ?_⟩
              · rcases Nat.lt_succ_iff_lt_or_eq.1 hj with h | rfl
                · exact HG.out.ok j h
                · rw [HX.out]; exact HO.out
              · rcases Nat.lt_succ_iff_lt_or_eq.1 hj with h | rfl
                · exact HG.out.ids k j hkj h
                · rw [HX.out]; exact (HN.out k hkj).1
              · rcases Nat.lt_succ_iff_lt_or_eq.1 hj with h | rfl
                · exact HG.out.nets k j hkj h
                · rw [HX.out]; exact (HN.out k hkj).2
            have HGS := Lib.hid hgs
            clear hb hxs hgs
            go_wp2_with fail
            exact ⟨⟨i + 1, hlt, by first | rw [hw3] | rw [Int.natCast_succ], HGS.out, F3.out⟩, by first | (rw [hw3]; exact mSucc hlt) | (rw [← Int.natCast_succ]; exact mSucc hlt)⟩
    · obtain rfl : n = i := by omega
      have hil : ((n : Int) < (n : Int)) = False := by simp
      have F1 := Lib.hid hb
      clear hb
      have hgd : n ≤ 256 → Good l := fun h => by have := HG.out; rw [HL.out] at this; exact this.good (by rw [← HL.out]; exact h)
      have HGD := Lib.hid hgd
      clear hgd
      by_cases h256 : n ≤ 256
      · have h2 : ((n : Int) ≤ 256) = True := by simp; omega
        go_wp2_with fail
        go_ret
        exact ⟨ret_bool (good_iff.2 (HGD.out h256)).symm, F1.out⟩
      · have h2 : ((n : Int) ≤ 256) = False := by simp; omega
        go_wp2_with fail
        go_ret
        exact ⟨ret_bool (bad_of (fun h => h256 (by rw [HL.out]; exact h.len))).symm, F1.out⟩
end Go.Proofs.Ytlkbaplfffbmkaa
