/- lives. -/
import Derived.Test.YtlkbaplfffbmkaaBd
import Derived.Test.YtlkbaplfffbmkaaBf
import Derived.Test.YtlkbaplfffbmkaaBc
import Derived.Test.YtlkbaplfffbmkaaRl
namespace Go.Proofs.Ytlkbaplfffbmkaa
open Go.RowKit

theorem rowOf {α : Type} [Inhabited α] {R : Rep α} {w : World} {b : Nat} {cs : Array Value} {T : TypeId} {fr : Nat × Nat} {L : List α} (h : w.heap[b]? = some (.cells cs T fr)) (hcs : cs.toList = R.flat L) : R.Row w b 0 L :=
  ⟨lt_of_blk h, fun i hi j hj => by
    rw [Nat.zero_add]
    have hl : i * R.k + j < L.length * R.k := Rep.mul_lt hi hj
    have hlen : cs.size = L.length * R.k := by rw [← R.flat_length, ← hcs]; rfl
    have hs : i * R.k + j < cs.size := by omega
    rw [cell_of h (Array.getElem?_eq_getElem hs), ← R.flat_get L i j hi hj, ← hcs, Array.getElem?_toList, Array.getElem?_eq_getElem hs]⟩
theorem ExtS.go {w w' w2 : World} (h : ExtS w w') (hb : Below w'.heap.size w' w2) : ExtS w w2 := bcall h (Nat.le_refl _) hb
def i1 : If := ⟨5, 1, 167772160, 8, 9⟩
def i2 : If := ⟨4, 1, 167837696, 16, 0⟩
theorem good12 : Good [i1, i2] := good_iff.1 (by decide)
theorem bad121 : goodB [i1, i2, i1] = false := by decide
theorem sort12 : sortI [i1, i2] = [i2, i1] := rfl
theorem find12 : (hdOf [i1, i2]).find 1 167837703 = if true then some i2 else none := find_is good12 (by simp) (by decide) (by decide)
theorem find0 : (hdOf [i1, i2]).find 0 167772160 = if false then some ⟨0, 0, 0, 0, 0⟩ else none := find_no good12 (by decide)
theorem get12 : (hdOf [i1, i2]).get 5 = if true then some i1 else none := get_of good12 (x := i1) (by simp)
theorem ok_if {x : If} (h1 : IN.ok x.id) (h2 : NN.ok x.net) : IN.ok x.id ∧ NN.ok x.net := ⟨h1, h2⟩
theorem ok1 : IN.ok i1.id ∧ NN.ok i1.net := ⟨wfI (by decide), wfI (by decide), wfU (by decide), wfI (by decide)⟩
theorem ok2 : IN.ok i2.id ∧ NN.ok i2.net := ⟨wfI (by decide), wfI (by decide), wfU (by decide), wfI (by decide)⟩
set_option maxRecDepth 100000 in
set_option maxHeartbeats 4000000 in
theorem lives16 (w : World) : Calls Try.prog 10 #[] w fun e w' => e = .returned (.bool true) ∧ Below w.heap.size w w' := by
  go_enter Try.func10, Try.ntmps10
  have hal := (Below.refl w.heap.size w).alloc (Nat.le_refl _) (.cells #[.int .i64 5, .int .i64 1, .int .u32 167772160, .int .i64 8, .int .i64 9, .int .i64 4, .int .i64 1, .int .u32 167837696, .int .i64 16, .int .i64 0] 34)
  have hlb : (w.alloc (.cells #[.int .i64 5, .int .i64 1, .int .u32 167772160, .int .i64 8, .int .i64 9, .int .i64 4, .int .i64 1, .int .u32 167837696, .int .i64 16, .int .i64 0] 34)).heap[w.heap.size]? = some (.cells #[.int .i64 5, .int .i64 1, .int .u32 167772160, .int .i64 8, .int .i64 9, .int .i64 4, .int .i64 1, .int .u32 167837696, .int .i64 16, .int .i64 0] 34) := hnew _ _
  have F0 := Lib.hid (And.intro hlb hal)
  clear hal hlb
  go_wp2_with fail
  generalize w.alloc (.cells #[.int .i64 5, .int .i64 1, .int .u32 167772160, .int .i64 8, .int .i64 9, .int .i64 4, .int .i64 1, .int .u32 167837696, .int .i64 16, .int .i64 0] 34) = W1 at *
  refine (hnew_ok (show Ifs W1 (some ⟨w.heap.size, 0, none⟩) 2 2 [i1, i2] from ⟨(show RIf.Sl W1 (some ⟨w.heap.size, 0, none⟩) 2 2 [i1, i2] from ⟨rfl, by unfold maxLen; omega, fun _ => ⟨w.heap.size, 0, rfl, rowOf F0.out.1 rfl⟩⟩), by decide⟩) good12).mono ?_
  rintro e W2 ⟨hb, rfl, hH, hb2⟩
  have F1 := Lib.hid (And.intro ((hb2.block _ (lt_of_blk F0.out.1)).trans F0.out.1) (And.intro (bcall F0.out.2 (Nat.le_refl _) hb2) (hH)))
  clear F0
  clear hb2 hH
  have y0 : W2.cell? ⟨w.heap.size, 0, none⟩ = some (.int .i64 5) := cell_of F1.out.1 rfl
  have y1 : W2.cell? ⟨w.heap.size, 1, none⟩ = some (.int .i64 1) := cell_of F1.out.1 rfl
  have y2 : W2.cell? ⟨w.heap.size, 2, none⟩ = some (.int .u32 167772160) := cell_of F1.out.1 rfl
  have y3 : W2.cell? ⟨w.heap.size, 3, none⟩ = some (.int .i64 8) := cell_of F1.out.1 rfl
  have y4 : W2.cell? ⟨w.heap.size, 4, none⟩ = some (.int .i64 9) := cell_of F1.out.1 rfl
  go_wp2_with (at_builtin; refine halt ?_)
  refine Halted.go ?_
  clear y0 y1 y2 y3 y4
  have hal := (Below.refl W2.heap.size W2).alloc (Nat.le_refl _) (.cells #[.int .i64 5, .int .i64 1, .int .u32 167772160, .int .i64 8, .int .i64 9] 34)
  have hlb : RIf.Sl (W2.alloc (.cells #[.int .i64 5, .int .i64 1, .int .u32 167772160, .int .i64 8, .int .i64 9] 34)) (some ⟨W2.heap.size, 0, none⟩) 1 1 [i1] := Rep.sl_one (R := RIf) (y := i1) (hnew _ _)
  have F2 := Lib.hid (And.intro ((hal.block _ (lt_of_blk F1.out.1)).trans F1.out.1) (And.intro (bcall F1.out.2.1 (Nat.le_refl _) hal) (And.intro (F1.out.2.2.keep hal) (hlb))))
  clear F1
  clear hal hlb
  generalize W2.alloc (.cells #[.int .i64 5, .int .i64 1, .int .u32 167772160, .int .i64 8, .int .i64 9] 34) = W3 at *
  generalize W2.heap.size = q2 at *
  refine Rep.append_cut T23 rfl _ _ rfl rfl (show RIf.Sl W3 (some ⟨w.heap.size, 0, none⟩) 2 2 [i1, i2] from ⟨rfl, by unfold maxLen; omega, fun _ => ⟨w.heap.size, 0, rfl, rowOf F2.out.1 rfl⟩⟩) rfl F2.out.2.2.2 (by omega) (by unfold maxLen; omega) (by omega) ?_
  intro v4 W4 hown4 hb4
  obtain ⟨a4, c4, rfl, hsl4, -⟩ := hown4.sl0
  have F3 := Lib.hid (And.intro ((hb4.block _ (lt_of_blk F2.out.1)).trans F2.out.1) (And.intro (bcall F2.out.2.1 (Nat.le_refl _) hb4) (And.intro (F2.out.2.2.1.keep hb4) ((show IfsW W4 a4 3 c4 [i1, i2, i1] from ⟨⟨hsl4, by decide⟩, by intro x hx; simp at hx; rcases hx with rfl | rfl | rfl <;> first | exact ok1 | exact ok2⟩)))))
  clear F2
  clear hown4 hsl4 hb4
  rw [show ([i1, i2] ++ [i1] : List If).length = 3 from rfl]
  go_wp2_with fail
  refine (hnew_bad F3.out.2.2.2 bad121).mono ?_
  rintro e W5 ⟨rfl, hb5⟩
  have F4 := Lib.hid (And.intro ((hb5.block _ (lt_of_blk F3.out.1)).trans F3.out.1) (And.intro (bcall F3.out.2.1 (Nat.le_refl _) hb5) ((F3.out.2.2.1.keep hb5))))
  clear F3
  clear hb5
  go_wp2_with fail
  refine (find_any (ρ := 1) (a := 167837703) F4.out.2.2 (by decide) (by decide) i2 true find12 (by simp)).mono ?_
  rintro e W6 ⟨rfl, hb5⟩
  rw [show If.v i2 = .agg #[.int .i64 4, .int .i64 1, .int .u32 167837696, .int .i64 16, .int .i64 0] from rfl]
  have hal := (Below.refl W6.heap.size W6).alloc (Nat.le_refl _) (.cells #[.int .i64 4, .int .i64 1, .int .u32 167837696, .int .i64 16, .int .i64 0] 34)
  have hlb : (W6.alloc (.cells #[.int .i64 4, .int .i64 1, .int .u32 167837696, .int .i64 16, .int .i64 0] 34)).heap[W6.heap.size]? = some (.cells #[.int .i64 4, .int .i64 1, .int .u32 167837696, .int .i64 16, .int .i64 0] 34) := hnew _ _
  have hbb := bcall hb5 (Nat.le_refl _) hal
  have F5 := Lib.hid (And.intro ((hbb.block _ (lt_of_blk F4.out.1)).trans F4.out.1) (And.intro (bcall F4.out.2.1 (Nat.le_refl _) hbb) (And.intro (F4.out.2.2.keep hbb) (hlb))))
  clear F4
  clear hal hlb hbb hb5
  go_wp2_with fail
  generalize W6.alloc (.cells #[.int .i64 4, .int .i64 1, .int .u32 167837696, .int .i64 16, .int .i64 0] 34) = W7 at *
  generalize W6.heap.size = q5 at *
  go_wp2_with fail
  refine (find_any (ρ := 0) (a := 167772160) F5.out.2.2.1 (by decide) (by decide) ⟨0, 0, 0, 0, 0⟩ false find0 (fun _ => rfl)).mono ?_
  rintro e W8 ⟨rfl, hb7⟩
  rw [show If.v ⟨0, 0, 0, 0, 0⟩ = .agg #[.int .i64 0, .int .i64 0, .int .u32 0, .int .i64 0, .int .i64 0] from rfl]
  have hal := (Below.refl W8.heap.size W8).alloc (Nat.le_refl _) (.cells #[.int .i64 0, .int .i64 0, .int .u32 0, .int .i64 0, .int .i64 0] 34)
  have hlb : (W8.alloc (.cells #[.int .i64 0, .int .i64 0, .int .u32 0, .int .i64 0, .int .i64 0] 34)).heap[W8.heap.size]? = some (.cells #[.int .i64 0, .int .i64 0, .int .u32 0, .int .i64 0, .int .i64 0] 34) := hnew _ _
  have hbb := bcall hb7 (Nat.le_refl _) hal
  have F6 := Lib.hid (And.intro ((hbb.block _ (lt_of_blk F5.out.1)).trans F5.out.1) (And.intro (bcall F5.out.2.1 (Nat.le_refl _) hbb) (And.intro (F5.out.2.2.1.keep hbb) (And.intro ((hbb.block _ (lt_of_blk F5.out.2.2.2)).trans F5.out.2.2.2) (hlb)))))
  clear F5
  clear hal hlb hbb hb7
  go_wp2_with fail
  generalize W8.alloc (.cells #[.int .i64 0, .int .i64 0, .int .u32 0, .int .i64 0, .int .i64 0] 34) = W9 at *
  generalize W8.heap.size = q7 at *
  go_wp2_with fail
  refine (iface_any F6.out.2.2.1 (wfI (by decide)) i1 true get12 (by simp)).mono ?_
  rintro e W10 ⟨rfl, hb9⟩
  rw [show If.v i1 = .agg #[.int .i64 5, .int .i64 1, .int .u32 167772160, .int .i64 8, .int .i64 9] from rfl]
  have hal := (Below.refl W10.heap.size W10).alloc (Nat.le_refl _) (.cells #[.int .i64 5, .int .i64 1, .int .u32 167772160, .int .i64 8, .int .i64 9] 34)
  have hlb : (W10.alloc (.cells #[.int .i64 5, .int .i64 1, .int .u32 167772160, .int .i64 8, .int .i64 9] 34)).heap[W10.heap.size]? = some (.cells #[.int .i64 5, .int .i64 1, .int .u32 167772160, .int .i64 8, .int .i64 9] 34) := hnew _ _
  have hbb := bcall hb9 (Nat.le_refl _) hal
  have F7 := Lib.hid (And.intro ((hbb.block _ (lt_of_blk F6.out.1)).trans F6.out.1) (And.intro (bcall F6.out.2.1 (Nat.le_refl _) hbb) (And.intro (F6.out.2.2.1.keep hbb) (And.intro ((hbb.block _ (lt_of_blk F6.out.2.2.2.1)).trans F6.out.2.2.2.1) (And.intro ((hbb.block _ (lt_of_blk F6.out.2.2.2.2)).trans F6.out.2.2.2.2) (hlb))))))
  clear F6
  clear hal hlb hbb hb9
  go_wp2_with fail
  generalize W10.alloc (.cells #[.int .i64 5, .int .i64 1, .int .u32 167772160, .int .i64 8, .int .i64 9] 34) = W11 at *
  generalize W10.heap.size = q9 at *
  go_wp2_with fail
  refine (all_any F7.out.2.2.1 good12).mono ?_
  rintro e W12 ⟨v9, rfl, hown, hb11⟩
  rw [sort12] at hown
  rcases hown.cases with ⟨-, h⟩ | ⟨g, cap, rfl, hg, hgl, hl1, hl2, hrow, -⟩
  · cases h
  have hs9 : RIf.Sl W12 (some ⟨g, 0, none⟩) 2 cap [i2, i1] := ⟨rfl, by unfold maxLen; omega, fun _ => ⟨g, 0, rfl, hrow⟩⟩
  rw [show ([i2, i1] : List If).length = 2 from rfl]
  have F8 := Lib.hid (And.intro ((hb11.block _ (lt_of_blk F7.out.1)).trans F7.out.1) (And.intro (bcall F7.out.2.1 (Nat.le_refl _) hb11) (And.intro (F7.out.2.2.1.keep hb11) (And.intro ((hb11.block _ (lt_of_blk F7.out.2.2.2.1)).trans F7.out.2.2.2.1) (And.intro ((hb11.block _ (lt_of_blk F7.out.2.2.2.2.1)).trans F7.out.2.2.2.2.1) (And.intro ((hb11.block _ (lt_of_blk F7.out.2.2.2.2.2)).trans F7.out.2.2.2.2.2) (hs9)))))))
  clear F7
  clear hown hb11 hs9 hg hgl hl1 hl2 hrow
  go_wp2_with fail
  refine wp_region_heldP (ExtS W12.drew) (by kernel_rfl) ?_
  have hd := (Below.refl W12.heap.size W12).drew
  have F9 := Lib.hid (And.intro ((hd.block _ (lt_of_blk F8.out.1)).trans F8.out.1) (And.intro (bcall F8.out.2.1 (Nat.le_refl _) hd) (And.intro (F8.out.2.2.1.keep hd) (And.intro ((hd.block _ (lt_of_blk F8.out.2.2.2.1)).trans F8.out.2.2.2.1) (And.intro ((hd.block _ (lt_of_blk F8.out.2.2.2.2.1)).trans F8.out.2.2.2.2.1) (And.intro ((hd.block _ (lt_of_blk F8.out.2.2.2.2.2.1)).trans F8.out.2.2.2.2.2.1) (And.intro (F8.out.2.2.2.2.2.2.keep hd) ((show ExtS W12.drew W12.drew from Below.refl _ _)))))))))
  clear F8
  clear hd
  generalize W12.drew = Wd at *
  refine held_reads [0, 1, 2, 3, 4, 5, 6, 7, 8, 9, 10, 11, 12, 13, 14, 15, 16, 17, 18, 19, 20, 21, 22, 23, 24, 25, 26, 27, 28, 29, 30, 31, 32, 33, 34, 35, 36, 37] (g := 14) rfl (by kernel_rfl) F9.out.2.2.2.2.2.2.2 (fun _ _ d _ _ h => by cases d <;> exact h) ?_
  simp only [pick, List.getD_cons_zero, List.getD_cons_succ]
  ((with_reducible refine wpRead_step (fun K hK => ?_)); go_simp; first | ((with_reducible refine hK _ ?_); clear hK K) | (apply Exists.intro; (with_reducible refine ⟨fun w' hw' => ?_, hK _ ?_⟩); (first | exact rfl | exact ⟨rfl, rfl⟩); clear hK K))
  ((with_reducible refine wpRead_step (fun K hK => ?_)); go_simp; first | ((with_reducible refine hK _ ?_); clear hK K) | (apply Exists.intro; (with_reducible refine ⟨fun w' hw' => ?_, hK _ ?_⟩); (first | exact rfl | exact ⟨rfl, rfl⟩); clear hK K))
  ((with_reducible refine wpRead_step (fun K hK => ?_)); go_simp; first | ((with_reducible refine hK _ ?_); clear hK K) | (apply Exists.intro; (with_reducible refine ⟨fun w' hw' => ?_, hK _ ?_⟩); (first | exact rfl | exact ⟨rfl, rfl⟩); clear hK K))
  ((with_reducible refine wpRead_step (fun K hK => ?_)); go_simp; first | ((with_reducible refine hK _ ?_); clear hK K) | (apply Exists.intro; (with_reducible refine ⟨fun w' hw' => ?_, hK _ ?_⟩); (first | exact rfl | exact ⟨rfl, rfl⟩); clear hK K))
  ((with_reducible refine wpRead_step (fun K hK => ?_)); go_simp; first | ((with_reducible refine hK _ ?_); clear hK K) | (apply Exists.intro; (with_reducible refine ⟨fun w' hw' => ?_, hK _ ?_⟩); (first | exact rfl | exact ⟨rfl, rfl⟩); clear hK K))
  ((with_reducible refine wpRead_step (fun K hK => ?_)); go_simp; first | ((with_reducible refine hK _ ?_); clear hK K) | (apply Exists.intro; (with_reducible refine ⟨fun w' hw' => ?_, hK _ ?_⟩); (first | exact rfl | exact ⟨rfl, rfl⟩); clear hK K))
  ((with_reducible refine wpRead_step (fun K hK => ?_)); go_simp; first | ((with_reducible refine hK _ ?_); clear hK K) | (apply Exists.intro; (with_reducible refine ⟨fun w' hw' => ?_, hK _ ?_⟩); (first | exact rfl | exact ⟨rfl, rfl⟩); clear hK K))
  ((with_reducible refine wpRead_step (fun K hK => ?_)); go_simp; first | ((with_reducible refine hK _ ?_); clear hK K) | (apply Exists.intro; (with_reducible refine ⟨fun w' hw' => ?_, hK _ ?_⟩); (first | exact rfl | exact ⟨rfl, rfl⟩); clear hK K))
  ((with_reducible refine wpRead_step (fun K hK => ?_)); go_simp; first | ((with_reducible refine hK _ ?_); clear hK K) | (apply Exists.intro; (with_reducible refine ⟨fun w' hw' => ?_, hK _ ?_⟩); (first | exact rfl | exact ⟨rfl, rfl⟩); clear hK K))
  ((with_reducible refine wpRead_step (fun K hK => ?_)); go_simp; first | ((with_reducible refine hK _ ?_); clear hK K) | (apply Exists.intro; (with_reducible refine ⟨fun w' hw' => ?_, hK _ ?_⟩); (first | exact rfl | exact ⟨rfl, rfl⟩); clear hK K))
  with_reducible refine wpRead_yes ?_ ?_
  rotate_left
  rfl
  intro K hK
  refine read_load 34 _ rfl q5 0 #[.int .i64 4, .int .i64 1, .int .u32 167837696, .int .i64 16, .int .i64 0] rfl (fun w' hw' => rangeAt_block ((Below.block hw' _ (lt_of_blk F9.out.2.2.2.1)).trans F9.out.2.2.2.1) 0 _ rfl) Try.underlying34 rfl (by kernel_rfl) (hK _ ?_)
  clear hK K
  ((with_reducible refine wpRead_step (fun K hK => ?_)); go_simp; first | ((with_reducible refine hK _ ?_); clear hK K) | (apply Exists.intro; (with_reducible refine ⟨fun w' hw' => ?_, hK _ ?_⟩); (first | exact rfl | exact ⟨rfl, rfl⟩); clear hK K))
  ((with_reducible refine wpRead_step (fun K hK => ?_)); go_simp; first | ((with_reducible refine hK _ ?_); clear hK K) | (apply Exists.intro; (with_reducible refine ⟨fun w' hw' => ?_, hK _ ?_⟩); (first | exact rfl | exact ⟨rfl, rfl⟩); clear hK K))
  with_reducible refine wpRead_yes ?_ ?_
  rotate_left
  rfl
  intro K hK
  refine read_load 34 _ rfl w.heap.size 5 #[.int .i64 4, .int .i64 1, .int .u32 167837696, .int .i64 16, .int .i64 0] rfl (fun w' hw' => rangeAt_block ((Below.block hw' _ (lt_of_blk F9.out.1)).trans F9.out.1) 5 _ rfl) Try.underlying34 rfl (by kernel_rfl) (hK _ ?_)
  clear hK K
  ((with_reducible refine wpRead_step (fun K hK => ?_)); go_simp; first | ((with_reducible refine hK _ ?_); clear hK K) | (apply Exists.intro; (with_reducible refine ⟨fun w' hw' => ?_, hK _ ?_⟩); (first | exact rfl | exact ⟨rfl, rfl⟩); clear hK K))
  ((with_reducible refine wpRead_step (fun K hK => ?_)); go_simp; first | ((with_reducible refine hK _ ?_); clear hK K) | (apply Exists.intro; (with_reducible refine ⟨fun w' hw' => ?_, hK _ ?_⟩); (first | exact rfl | exact ⟨rfl, rfl⟩); clear hK K))
  ((with_reducible refine wpRead_step (fun K hK => ?_)); go_simp; first | ((with_reducible refine hK _ ?_); clear hK K) | (apply Exists.intro; (with_reducible refine ⟨fun w' hw' => ?_, hK _ ?_⟩); (first | exact rfl | exact ⟨rfl, rfl⟩); clear hK K))
  ((with_reducible refine wpRead_step (fun K hK => ?_)); go_simp; first | ((with_reducible refine hK _ ?_); clear hK K) | (apply Exists.intro; (with_reducible refine ⟨fun w' hw' => ?_, hK _ ?_⟩); (first | exact rfl | exact ⟨rfl, rfl⟩); clear hK K))
  ((with_reducible refine wpRead_step (fun K hK => ?_)); go_simp; first | ((with_reducible refine hK _ ?_); clear hK K) | (apply Exists.intro; (with_reducible refine ⟨fun w' hw' => ?_, hK _ ?_⟩); (first | exact rfl | exact ⟨rfl, rfl⟩); clear hK K))
  ((with_reducible refine wpRead_step (fun K hK => ?_)); go_simp; first | ((with_reducible refine hK _ ?_); clear hK K) | (apply Exists.intro; (with_reducible refine ⟨fun w' hw' => ?_, hK _ ?_⟩); (first | exact rfl | exact ⟨rfl, rfl⟩); clear hK K))
  ((with_reducible refine wpRead_step (fun K hK => ?_)); go_simp; first | ((with_reducible refine hK _ ?_); clear hK K) | (apply Exists.intro; (with_reducible refine ⟨fun w' hw' => ?_, hK _ ?_⟩); (first | exact rfl | exact ⟨rfl, rfl⟩); clear hK K))
  ((with_reducible refine wpRead_step (fun K hK => ?_)); go_simp; first | ((with_reducible refine hK _ ?_); clear hK K) | (apply Exists.intro; (with_reducible refine ⟨fun w' hw' => ?_, hK _ ?_⟩); (first | exact rfl | exact ⟨rfl, rfl⟩); clear hK K))
  ((with_reducible refine wpRead_step (fun K hK => ?_)); go_simp; first | ((with_reducible refine hK _ ?_); clear hK K) | (apply Exists.intro; (with_reducible refine ⟨fun w' hw' => ?_, hK _ ?_⟩); (first | exact rfl | exact ⟨rfl, rfl⟩); clear hK K))
  ((with_reducible refine wpRead_step (fun K hK => ?_)); go_simp; first | ((with_reducible refine hK _ ?_); clear hK K) | (apply Exists.intro; (with_reducible refine ⟨fun w' hw' => ?_, hK _ ?_⟩); (first | exact rfl | exact ⟨rfl, rfl⟩); clear hK K))
  with_reducible refine wpRead_yes ?_ ?_
  rotate_left
  rfl
  intro K hK
  refine read_load 34 _ rfl q9 0 #[.int .i64 5, .int .i64 1, .int .u32 167772160, .int .i64 8, .int .i64 9] rfl (fun w' hw' => rangeAt_block ((Below.block hw' _ (lt_of_blk F9.out.2.2.2.2.2.1)).trans F9.out.2.2.2.2.2.1) 0 _ rfl) Try.underlying34 rfl (by kernel_rfl) (hK _ ?_)
  clear hK K
  ((with_reducible refine wpRead_step (fun K hK => ?_)); go_simp; first | ((with_reducible refine hK _ ?_); clear hK K) | (apply Exists.intro; (with_reducible refine ⟨fun w' hw' => ?_, hK _ ?_⟩); (first | exact rfl | exact ⟨rfl, rfl⟩); clear hK K))
  ((with_reducible refine wpRead_step (fun K hK => ?_)); go_simp; first | ((with_reducible refine hK _ ?_); clear hK K) | (apply Exists.intro; (with_reducible refine ⟨fun w' hw' => ?_, hK _ ?_⟩); (first | exact rfl | exact ⟨rfl, rfl⟩); clear hK K))
  with_reducible refine wpRead_yes ?_ ?_
  rotate_left
  rfl
  intro K hK
  refine read_load 34 _ rfl w.heap.size 0 #[.int .i64 5, .int .i64 1, .int .u32 167772160, .int .i64 8, .int .i64 9] rfl (fun w' hw' => rangeAt_block ((Below.block hw' _ (lt_of_blk F9.out.1)).trans F9.out.1) 0 _ rfl) Try.underlying34 rfl (by kernel_rfl) (hK _ ?_)
  clear hK K
  ((with_reducible refine wpRead_step (fun K hK => ?_)); go_simp; first | ((with_reducible refine hK _ ?_); clear hK K) | (apply Exists.intro; (with_reducible refine ⟨fun w' hw' => ?_, hK _ ?_⟩); (first | exact rfl | exact ⟨rfl, rfl⟩); clear hK K))
  ((with_reducible refine wpRead_step (fun K hK => ?_)); go_simp; first | ((with_reducible refine hK _ ?_); clear hK K) | (apply Exists.intro; (with_reducible refine ⟨fun w' hw' => ?_, hK _ ?_⟩); (first | exact rfl | exact ⟨rfl, rfl⟩); clear hK K))
  ((with_reducible refine wpRead_step (fun K hK => ?_)); go_simp; first | ((with_reducible refine hK _ ?_); clear hK K) | (apply Exists.intro; (with_reducible refine ⟨fun w' hw' => ?_, hK _ ?_⟩); (first | exact rfl | exact ⟨rfl, rfl⟩); clear hK K))
  ((with_reducible refine wpRead_step (fun K hK => ?_)); go_simp; first | ((with_reducible refine hK _ ?_); clear hK K) | (apply Exists.intro; (with_reducible refine ⟨fun w' hw' => ?_, hK _ ?_⟩); (first | exact rfl | exact ⟨rfl, rfl⟩); clear hK K))
  ((with_reducible refine wpRead_step (fun K hK => ?_)); go_simp; first | ((with_reducible refine hK _ ?_); clear hK K) | (apply Exists.intro; (with_reducible refine ⟨fun w' hw' => ?_, hK _ ?_⟩); (first | exact rfl | exact ⟨rfl, rfl⟩); clear hK K))
  ((with_reducible refine wpRead_step (fun K hK => ?_)); go_simp; first | ((with_reducible refine hK _ ?_); clear hK K) | (apply Exists.intro; (with_reducible refine ⟨fun w' hw' => ?_, hK _ ?_⟩); (first | exact rfl | exact ⟨rfl, rfl⟩); clear hK K))
  with_reducible refine wpRead_yes ?_ ?_
  rotate_left
  rfl
  intro K hK
  refine read_load 34 _ rfl w.heap.size 5 #[.int .i64 4, .int .i64 1, .int .u32 167837696, .int .i64 16, .int .i64 0] rfl (fun w' hw' => rangeAt_block ((Below.block hw' _ (lt_of_blk F9.out.1)).trans F9.out.1) 5 _ rfl) Try.underlying34 rfl (by kernel_rfl) (hK _ ?_)
  clear hK K
  ((with_reducible refine wpRead_step (fun K hK => ?_)); go_simp; first | ((with_reducible refine hK _ ?_); clear hK K) | (apply Exists.intro; (with_reducible refine ⟨fun w' hw' => ?_, hK _ ?_⟩); (first | exact rfl | exact ⟨rfl, rfl⟩); clear hK K))
  ((with_reducible refine wpRead_step (fun K hK => ?_)); go_simp; first | ((with_reducible refine hK _ ?_); clear hK K) | (apply Exists.intro; (with_reducible refine ⟨fun w' hw' => ?_, hK _ ?_⟩); (first | exact rfl | exact ⟨rfl, rfl⟩); clear hK K))
  with_reducible refine wpRead_yes ?_ ?_
  rotate_left
  rfl
  intro K hK
  refine read_load 34 _ rfl w.heap.size 0 #[.int .i64 5, .int .i64 1, .int .u32 167772160, .int .i64 8, .int .i64 9] rfl (fun w' hw' => rangeAt_block ((Below.block hw' _ (lt_of_blk F9.out.1)).trans F9.out.1) 0 _ rfl) Try.underlying34 rfl (by kernel_rfl) (hK _ ?_)
  clear hK K
  with_reducible refine wpRead_nil ?_
  have hal := (Below.refl Wd.heap.size Wd).alloc (Nat.le_refl _) (.cells #[.int .i64 4, .int .i64 1, .int .u32 167837696, .int .i64 16, .int .i64 0, .int .i64 5, .int .i64 1, .int .u32 167772160, .int .i64 8, .int .i64 9] 34)
  have hlb : (Wd.alloc (.cells #[.int .i64 4, .int .i64 1, .int .u32 167837696, .int .i64 16, .int .i64 0, .int .i64 5, .int .i64 1, .int .u32 167772160, .int .i64 8, .int .i64 9] 34)).heap[Wd.heap.size]? = some (.cells #[.int .i64 4, .int .i64 1, .int .u32 167837696, .int .i64 16, .int .i64 0, .int .i64 5, .int .i64 1, .int .u32 167772160, .int .i64 8, .int .i64 9] 34) := hnew _ _
  have F10 := Lib.hid (And.intro ((hal.block _ (lt_of_blk F9.out.1)).trans F9.out.1) (And.intro (bcall F9.out.2.1 (Nat.le_refl _) hal) (And.intro (F9.out.2.2.1.keep hal) (And.intro ((hal.block _ (lt_of_blk F9.out.2.2.2.1)).trans F9.out.2.2.2.1) (And.intro ((hal.block _ (lt_of_blk F9.out.2.2.2.2.1)).trans F9.out.2.2.2.2.1) (And.intro ((hal.block _ (lt_of_blk F9.out.2.2.2.2.2.1)).trans F9.out.2.2.2.2.2.1) (And.intro (F9.out.2.2.2.2.2.2.1.keep hal) (And.intro (ExtS.go F9.out.2.2.2.2.2.2.2 hal) (hlb)))))))))
  clear F9
  clear hal hlb
  refine held_one 38 (by kernel_rfl) ?_
  simp only [pick, List.getD_cons_zero, List.getD_cons_succ]
  go_wp2_with fail
  generalize Wd.alloc (.cells #[.int .i64 4, .int .i64 1, .int .u32 167837696, .int .i64 16, .int .i64 0, .int .i64 5, .int .i64 1, .int .u32 167772160, .int .i64 8, .int .i64 9] 34) = We at *
  generalize Wd.heap.size = qd at *
  refine ⟨F10.out.2.2.2.2.2.2.2.1, ?_⟩
  refine held_one 39 (by kernel_rfl) ?_
  simp only [pick, List.getD_cons_zero, List.getD_cons_succ]
  go_wp2_with fail
  refine (rsameI F10.out.2.2.2.2.2.2.1 (show RIf.Sl We (some ⟨qd, 0, none⟩) 2 2 [i2, i1] from ⟨rfl, by unfold maxLen; omega, fun _ => ⟨qd, 0, rfl, rowOf F10.out.2.2.2.2.2.2.2.2 rfl⟩⟩)).mono ?_
  rintro e Wf ⟨rfl, hb39⟩
  have F11 := Lib.hid (And.intro ((hb39.block _ (lt_of_blk F10.out.1)).trans F10.out.1) (And.intro (bcall F10.out.2.1 (Nat.le_refl _) hb39) (And.intro (F10.out.2.2.1.keep hb39) (And.intro ((hb39.block _ (lt_of_blk F10.out.2.2.2.1)).trans F10.out.2.2.2.1) (And.intro ((hb39.block _ (lt_of_blk F10.out.2.2.2.2.1)).trans F10.out.2.2.2.2.1) (And.intro ((hb39.block _ (lt_of_blk F10.out.2.2.2.2.2.1)).trans F10.out.2.2.2.2.2.1) (And.intro (F10.out.2.2.2.2.2.2.1.keep hb39) (And.intro (ExtS.go F10.out.2.2.2.2.2.2.2.1 hb39) (((hb39.block _ (lt_of_blk F10.out.2.2.2.2.2.2.2.2)).trans F10.out.2.2.2.2.2.2.2.2))))))))))
  clear F10
  clear hb39
  go_wp2_with fail
  refine ⟨F11.out.2.2.2.2.2.2.2.1, ?_⟩
  refine held_reads [40, 41, 42] (g := 9) rfl (by kernel_rfl) F11.out.2.2.2.2.2.2.2.1 (fun _ _ d _ _ h => by cases d <;> exact h) ?_
  simp only [pick, List.getD_cons_zero, List.getD_cons_succ]
  ((with_reducible refine wpRead_step (fun K hK => ?_)); go_simp; first | ((with_reducible refine hK _ ?_); clear hK K) | (apply Exists.intro; (with_reducible refine ⟨fun w' hw' => ?_, hK _ ?_⟩); (first | exact rfl | exact ⟨rfl, rfl⟩); clear hK K))
  ((with_reducible refine wpRead_step (fun K hK => ?_)); go_simp; first | ((with_reducible refine hK _ ?_); clear hK K) | (apply Exists.intro; (with_reducible refine ⟨fun w' hw' => ?_, hK _ ?_⟩); (first | exact rfl | exact ⟨rfl, rfl⟩); clear hK K))
  ((with_reducible refine wpRead_step (fun K hK => ?_)); go_simp; first | ((with_reducible refine hK _ ?_); clear hK K) | (apply Exists.intro; (with_reducible refine ⟨fun w' hw' => ?_, hK _ ?_⟩); (first | exact rfl | exact ⟨rfl, rfl⟩); clear hK K))
  with_reducible refine wpRead_nil ?_
  refine held_one 43 (by kernel_rfl) ?_
  simp only [pick, List.getD_cons_zero, List.getD_cons_succ]
  go_wp2_with fail
  refine (len_of F11.out.2.2.1 good12).mono ?_
  rintro e Wg ⟨rfl, rfl⟩
  rw [show (([i1, i2] : List If).length : Int) = 2 from rfl]
  go_wp2_with fail
  refine ⟨F11.out.2.2.2.2.2.2.2.1, ?_⟩
  refine held_reads [44, 45, 46, 47] (g := 4) rfl (by kernel_rfl) F11.out.2.2.2.2.2.2.2.1 (fun _ _ d _ _ h => by cases d <;> exact h) ?_
  simp only [pick, List.getD_cons_zero, List.getD_cons_succ]
  ((with_reducible refine wpRead_step (fun K hK => ?_)); go_simp; first | ((with_reducible refine hK _ ?_); clear hK K) | (apply Exists.intro; (with_reducible refine ⟨fun w' hw' => ?_, hK _ ?_⟩); (first | exact rfl | exact ⟨rfl, rfl⟩); clear hK K))
  ((with_reducible refine wpRead_step (fun K hK => ?_)); go_simp; first | ((with_reducible refine hK _ ?_); clear hK K) | (apply Exists.intro; (with_reducible refine ⟨fun w' hw' => ?_, hK _ ?_⟩); (first | exact rfl | exact ⟨rfl, rfl⟩); clear hK K))
  ((with_reducible refine wpRead_step (fun K hK => ?_)); go_simp; first | ((with_reducible refine hK _ ?_); clear hK K) | (apply Exists.intro; (with_reducible refine ⟨fun w' hw' => ?_, hK _ ?_⟩); (first | exact rfl | exact ⟨rfl, rfl⟩); clear hK K))
  ((with_reducible refine wpRead_step (fun K hK => ?_)); go_simp; first | ((with_reducible refine hK _ ?_); clear hK K) | (apply Exists.intro; (with_reducible refine ⟨fun w' hw' => ?_, hK _ ?_⟩); (first | exact rfl | exact ⟨rfl, rfl⟩); clear hK K))
  with_reducible refine wpRead_nil ?_
  refine held_one 48 (by kernel_rfl) ?_
  simp only [pick, List.getD_cons_zero, List.getD_cons_succ]
  go_wp2_with fail
  refine (hcheck_ok (show Ifs Wg (some ⟨w.heap.size, 0, none⟩) 2 2 [i1, i2] from ⟨(show RIf.Sl Wg (some ⟨w.heap.size, 0, none⟩) 2 2 [i1, i2] from ⟨rfl, by unfold maxLen; omega, fun _ => ⟨w.heap.size, 0, rfl, rowOf F11.out.1 rfl⟩⟩), by decide⟩) good12).mono ?_
  rintro e Wh ⟨rfl, hb48⟩
  have F12 := Lib.hid (And.intro ((hb48.block _ (lt_of_blk F11.out.1)).trans F11.out.1) (And.intro (bcall F11.out.2.1 (Nat.le_refl _) hb48) (And.intro (F11.out.2.2.1.keep hb48) (And.intro ((hb48.block _ (lt_of_blk F11.out.2.2.2.1)).trans F11.out.2.2.2.1) (And.intro ((hb48.block _ (lt_of_blk F11.out.2.2.2.2.1)).trans F11.out.2.2.2.2.1) (And.intro ((hb48.block _ (lt_of_blk F11.out.2.2.2.2.2.1)).trans F11.out.2.2.2.2.2.1) (And.intro (F11.out.2.2.2.2.2.2.1.keep hb48) (And.intro (ExtS.go F11.out.2.2.2.2.2.2.2.1 hb48) (((hb48.block _ (lt_of_blk F11.out.2.2.2.2.2.2.2.2)).trans F11.out.2.2.2.2.2.2.2.2))))))))))
  clear F11
  clear hb48
  go_wp2_with fail
  refine ⟨F12.out.2.2.2.2.2.2.2.1, ?_⟩
  refine held_reads [49, 50] (g := 1) rfl (by kernel_rfl) F12.out.2.2.2.2.2.2.2.1 (fun _ _ d _ _ h => by cases d <;> exact h) ?_
  simp only [pick, List.getD_cons_zero, List.getD_cons_succ]
  ((with_reducible refine wpRead_step (fun K hK => ?_)); go_simp; first | ((with_reducible refine hK _ ?_); clear hK K) | (apply Exists.intro; (with_reducible refine ⟨fun w' hw' => ?_, hK _ ?_⟩); (first | exact rfl | exact ⟨rfl, rfl⟩); clear hK K))
  ((with_reducible refine wpRead_step (fun K hK => ?_)); go_simp; first | ((with_reducible refine hK _ ?_); clear hK K) | (apply Exists.intro; (with_reducible refine ⟨fun w' hw' => ?_, hK _ ?_⟩); (first | exact rfl | exact ⟨rfl, rfl⟩); clear hK K))
  with_reducible refine wpRead_nil ?_
  refine held_one 51 (by kernel_rfl) ?_
  simp only [pick, List.getD_cons_zero, List.getD_cons_succ]
  go_wp2_with fail
  refine ⟨F12.out.2.2.2.2.2.2.2.1, ?_⟩
  refine wpAnyH_done (by kernel_rfl) ?_ _
  go_wp2_with fail
  go_ret
  exact ⟨rfl, F12.out.2.1⟩
end Go.Proofs.Ytlkbaplfffbmkaa
