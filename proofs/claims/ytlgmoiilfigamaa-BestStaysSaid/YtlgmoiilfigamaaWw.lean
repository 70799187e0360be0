/- lives. -/
import Derived.Test.YtlgmoiilfigamaaWv
namespace Go.Proofs.Ytlgmoiilfigamaa
open Go.RowKit

theorem cut_congr {α : Type} {f g : α → Look} {l : List α} (h : ∀ x ∈ l, f x = g x) : ∀ n, cut f n l = cut g n l
  | 0 => rfl
  | n + 1 => by
    rw [cut_succ, cut_succ, cut_congr h n]
    unfold keep
    apply List.filter_congr
    intro c hc
    have hm : ∀ x ∈ cut g n l, f x = g x := fun x hx => h x ((cut_sub (f := g) l n).subset hx)
    rw [hm c hc, Bool.eq_iff_iff]
    simp only [List.all_eq_true]
    exact ⟨fun h' k hk => by rw [← hm k hk]; exact h' k hk, fun h' k hk => by rw [hm k hk]; exact h' k hk⟩
theorem cutI_looks {L : List Rt} {ks : List Look} (h : L.map lookOf = ks) (s : Nat) : cutI L s = cut (fun i => ks.getD i default) s (List.range ks.length) := by
  subst h
  unfold cutI
  rw [List.length_map]
  apply cut_congr
  intro i hi
  simp at hi
  unfold lookI
  simp [List.getD_eq_getElem?_getD, hi]
theorem bestN_looks {L : List Rt} {ks : List Look} (h : L.map lookOf = ks) (hne : L ≠ []) : bestN L = (cut (fun i => ks.getD i default) 6 (List.range ks.length)).getD 0 default := by
  rw [← cutI_head L hne, cutI_looks h]
theorem lives_pure {x1 x2 x3 x4 : Rt} (h : [x1, x2, x3, x4].map lookOf = [⟨100, 1, 0, 7, 5, 3, 0⟩, ⟨100, 1, 0, 7, 9, 2, 0⟩, ⟨100, 1, 0, 8, 50, 4, 0⟩, ⟨90, 1, 0, 7, 0, 1, 0⟩]) : bestN [x1, x2, x3, x4] = 0 ∧ rankOf [x1, x2, x3, x4] = [x1, x2, x3, x4] ∧ (leftR [x1, x2, x3, x4]).length = 2 := by
  simp only [List.map_cons, List.map_nil, List.cons.injEq, and_true] at h
  obtain ⟨h1, h2, h3, h4⟩ := h
  have b1 : bestN [x1, x2, x3, x4] = 0 := by rw [bestN_looks (ks := [⟨100, 1, 0, 7, 5, 3, 0⟩, ⟨100, 1, 0, 7, 9, 2, 0⟩, ⟨100, 1, 0, 8, 50, 4, 0⟩, ⟨90, 1, 0, 7, 0, 1, 0⟩]) (by simp [h1, h2, h3, h4]) (by simp)]; decide
  have b2 : bestN [x2, x3, x4] = 0 := by rw [bestN_looks (ks := [⟨100, 1, 0, 7, 9, 2, 0⟩, ⟨100, 1, 0, 8, 50, 4, 0⟩, ⟨90, 1, 0, 7, 0, 1, 0⟩]) (by simp [h2, h3, h4]) (by simp)]; decide
  have b3 : bestN [x3, x4] = 0 := by rw [bestN_looks (ks := [⟨100, 1, 0, 8, 50, 4, 0⟩, ⟨90, 1, 0, 7, 0, 1, 0⟩]) (by simp [h3, h4]) (by simp)]; decide
  have b4 : bestN [x4] = 0 := by rw [bestN_looks (ks := [⟨90, 1, 0, 7, 0, 1, 0⟩]) (by simp [h4]) (by simp)]; decide
  refine ⟨b1, ?_, ?_⟩
  · simp [rankOf, rank, b1, b2, b3, b4]
  · rw [leftR_eq, List.length_map, cutI_looks (ks := [⟨100, 1, 0, 7, 5, 3, 0⟩, ⟨100, 1, 0, 7, 9, 2, 0⟩, ⟨100, 1, 0, 8, 50, 4, 0⟩, ⟨90, 1, 0, 7, 0, 1, 0⟩]) (by simp [h1, h2, h3, h4])]; decide

set_option maxHeartbeats 4000000 in
theorem lives_any (w : World) : Calls Try.prog 8 #[] w fun e w' => e = .returned (.bool true) ∧ Below w.heap.size w w' := by
  have R1 := Lib.hid (fun w' => route_any 3 100 5 7 w' (by omega) (by omega) (by omega))
  have R2 := Lib.hid (fun w' => route_any 2 (-1) 9 7 w' (by omega) (by omega) (by omega))
  have R3 := Lib.hid (fun w' => route_any 4 100 50 8 w' (by omega) (by omega) (by omega))
  have R4 := Lib.hid (fun w' => route_any 1 90 0 7 w' (by omega) (by omega) (by omega))
  go_enter Try.func8, Try.ntmps8
  go_wp2_with fail
  refine (R1.out _).mono ?_
  rintro e w1 ⟨x1, rfl, hm, hb⟩
  have M1 := Lib.hid (And.intro hm hb)
  clear hm hb
  go_wp2_with fail
  refine (R2.out _).mono ?_
  rintro e w2 ⟨x2, rfl, hm, hb⟩
  have M2 := Lib.hid (And.intro hm hb)
  clear hm hb
  go_wp2_with fail
  refine (R3.out _).mono ?_
  rintro e w3 ⟨x3, rfl, hm, hb⟩
  have M3 := Lib.hid (And.intro hm hb)
  clear hm hb
  go_wp2_with fail
  refine (R4.out _).mono ?_
  rintro e w4 ⟨x4, rfl, hm, hb⟩
  have M4 := Lib.hid (And.intro hm hb)
  clear hm hb
  unfold Rt.val
  obtain ⟨W, hW⟩ : ∃ W, W = w4.alloc (.cells #[.int .i64 x1.r, .int .u32 x1.a, .int .i64 x1.l, .int .i64 x1.i, .int .i64 x1.o, .slice x1.pa x1.pn x1.pc, .int .u32 x1.nx, .int .i64 x1.md, .int .i64 x1.pf, .slice x1.ca x1.cn x1.cc, .int .i64 x2.r, .int .u32 x2.a, .int .i64 x2.l, .int .i64 x2.i, .int .i64 x2.o, .slice x2.pa x2.pn x2.pc, .int .u32 x2.nx, .int .i64 x2.md, .int .i64 x2.pf, .slice x2.ca x2.cn x2.cc, .int .i64 x3.r, .int .u32 x3.a, .int .i64 x3.l, .int .i64 x3.i, .int .i64 x3.o, .slice x3.pa x3.pn x3.pc, .int .u32 x3.nx, .int .i64 x3.md, .int .i64 x3.pf, .slice x3.ca x3.cn x3.cc, .int .i64 x4.r, .int .u32 x4.a, .int .i64 x4.l, .int .i64 x4.i, .int .i64 x4.o, .slice x4.pa x4.pn x4.pc, .int .u32 x4.nx, .int .i64 x4.md, .int .i64 x4.pf, .slice x4.ca x4.cn x4.cc] 40) := ⟨_, rfl⟩
  have hWb : Below w4.heap.size w4 W := by rw [hW]; exact (Below.refl _ _).alloc (Nat.le_refl _) _
  have hblk : W.heap[w4.heap.size]? = some (.cells #[.int .i64 x1.r, .int .u32 x1.a, .int .i64 x1.l, .int .i64 x1.i, .int .i64 x1.o, .slice x1.pa x1.pn x1.pc, .int .u32 x1.nx, .int .i64 x1.md, .int .i64 x1.pf, .slice x1.ca x1.cn x1.cc, .int .i64 x2.r, .int .u32 x2.a, .int .i64 x2.l, .int .i64 x2.i, .int .i64 x2.o, .slice x2.pa x2.pn x2.pc, .int .u32 x2.nx, .int .i64 x2.md, .int .i64 x2.pf, .slice x2.ca x2.cn x2.cc, .int .i64 x3.r, .int .u32 x3.a, .int .i64 x3.l, .int .i64 x3.i, .int .i64 x3.o, .slice x3.pa x3.pn x3.pc, .int .u32 x3.nx, .int .i64 x3.md, .int .i64 x3.pf, .slice x3.ca x3.cn x3.cc, .int .i64 x4.r, .int .u32 x4.a, .int .i64 x4.l, .int .i64 x4.i, .int .i64 x4.o, .slice x4.pa x4.pn x4.pc, .int .u32 x4.nx, .int .i64 x4.md, .int .i64 x4.pf, .slice x4.ca x4.cn x4.cc] 40 (0, 0)) := by rw [hW]; exact hnew _ _
  have m1 := (((M1.out.1.below M2.out.2).below M3.out.2).below M4.out.2)
  have m2 := ((M2.out.1.below M3.out.2).below M4.out.2)
  have m3 := M3.out.1.below M4.out.2
  have m4 := M4.out.1
  have hw4 : Below w.heap.size w w4 := ((M1.out.2.trans (M2.out.2.mono M1.out.2.size)).trans (M3.out.2.mono (Nat.le_trans M1.out.2.size M2.out.2.size))).trans (M4.out.2.mono (Nat.le_trans (Nat.le_trans M1.out.2.size M2.out.2.size) M3.out.2.size))
  have hlk : [x1, x2, x3, x4].map lookOf = [⟨100, 1, 0, 7, 5, 3, 0⟩, ⟨100, 1, 0, 7, 9, 2, 0⟩, ⟨100, 1, 0, 8, 50, 4, 0⟩, ⟨90, 1, 0, 7, 0, 1, 0⟩] := by
    simp only [List.map_cons, List.map_nil]
    rw [m1.look, m2.look, m3.look, m4.look]
    unfold prefOf
    rw [m1.pf, m2.pf, m3.pf, m4.pf]
    rfl
  have hpure := lives_pure hlk
  have hrow : R40.Row W w4.heap.size 0 [x1, x2, x3, x4] := by
    refine ⟨lt_of_blk hblk, fun i hi j hj => ?_⟩
    have hi' : i < 4 := hi
    have hj' : j < 10 := hj
    simp only [World.cell?, hblk]
    match i, hi' with
    | 0, _ => match j, hj' with
      | 0, _ => rfl
      | 1, _ => rfl
      | 2, _ => rfl
      | 3, _ => rfl
      | 4, _ => rfl
      | 5, _ => rfl
      | 6, _ => rfl
      | 7, _ => rfl
      | 8, _ => rfl
      | 9, _ => rfl
    | 1, _ => match j, hj' with
      | 0, _ => rfl
      | 1, _ => rfl
      | 2, _ => rfl
      | 3, _ => rfl
      | 4, _ => rfl
      | 5, _ => rfl
      | 6, _ => rfl
      | 7, _ => rfl
      | 8, _ => rfl
      | 9, _ => rfl
    | 2, _ => match j, hj' with
      | 0, _ => rfl
      | 1, _ => rfl
      | 2, _ => rfl
      | 3, _ => rfl
      | 4, _ => rfl
      | 5, _ => rfl
      | 6, _ => rfl
      | 7, _ => rfl
      | 8, _ => rfl
      | 9, _ => rfl
    | 3, _ => match j, hj' with
      | 0, _ => rfl
      | 1, _ => rfl
      | 2, _ => rfl
      | 3, _ => rfl
      | 4, _ => rfl
      | 5, _ => rfl
      | 6, _ => rfl
      | 7, _ => rfl
      | 8, _ => rfl
      | 9, _ => rfl
  have hsl : R40.Sl W (some ⟨w4.heap.size, 0, none⟩) 4 4 [x1, x2, x3, x4] := ⟨rfl, by unfold maxLen; omega, fun _ => ⟨_, _, rfl, hrow⟩⟩
  have hins : Ins W w4.heap.size [x1, x2, x3, x4] := ⟨hWb.size, fun x hx => by
    simp at hx
    rcases hx with rfl | rfl | rfl | rfl
    · exact ⟨m1.ok.below hWb, m1.small⟩
    · exact ⟨m2.ok.below hWb, m2.small⟩
    · exact ⟨m3.ok.below hWb, m3.small⟩
    · exact ⟨m4.ok.below hWb, m4.small⟩, by simp⟩
  have HA := Lib.hid (And.intro hsl (And.intro hins (And.intro hpure (And.intro hrow (And.intro (hw4.trans (hWb.mono hw4.size)) (And.intro m1 (And.intro m2 (And.intro m3 m4))))))))
  have hbest := best_any (some ⟨w4.heap.size, 0, none⟩) 4 4 [x1, x2, x3, x4] W w4.heap.size hsl hins
  rw [hpure.1] at hbest
  have HW := Lib.hid hW
  rw [hW] at hbest
  have HB := Lib.hid hbest
  clear hbest hWb hblk m1 m2 m3 m4 hw4 hlk hpure hrow hsl hins hW
  go_wp2_with fail
  refine (HB.out).mono ?_
  rintro e w5 ⟨rfl, hb⟩
  rw [← HW.out] at hb
  have B5 := Lib.hid hb
  clear hb
  go_wp2_with fail
  refine (best_nil none 0 _).mono ?_
  rintro e w6 ⟨rfl, hb⟩
  have B6 := Lib.hid (B5.out.trans (hb.mono B5.out.size))
  clear hb
  go_wp2_with fail
  refine (rank_any (some ⟨w4.heap.size, 0, none⟩) 4 4 [x1, x2, x3, x4] w6 w4.heap.size (HA.out.1.keep B6.out) (fun h => by cases h) (HA.out.2.1.below (B6.out.mono HA.out.2.1.hB))).mono ?_
  rintro e w7 ⟨v, rfl, hown, hb⟩
  rw [HA.out.2.2.1.2.1] at hown
  rcases hown.cases with ⟨_, he⟩ | ⟨g, cap, rfl, hg, hgl, hc1, hc2, hrow2, -⟩
  · cases he
  have B7 := Lib.hid (And.intro (B6.out.trans (hb.mono B6.out.size)) (And.intro hrow2 hgl))
  have hc4 : 4 ≤ cap := hc1
  clear hb hown hrow2 hc1
  go_wp2_with fail
  refine (lleft_any (some ⟨w4.heap.size, 0, none⟩) 4 4 [x1, x2, x3, x4] w7 w4.heap.size (HA.out.1.keep B7.out.1) (HA.out.2.1.below (B7.out.1.mono HA.out.2.1.hB))).mono ?_
  rintro e w8 ⟨v, rfl, hown, hb⟩
  obtain ⟨a8, c8, rfl, -⟩ := hown.sl
  rw [HA.out.2.2.1.2.2]
  have h78 := hb.block g hgl
  have hrow8 := B7.out.2.1.keep h78
  have hr1 := hrow8.get 1 (by simp) 0 (by decide)
  have hr2 := hrow8.get 2 (by simp) 0 (by decide)
  have hr3 := hrow8.get 3 (by simp) 0 (by decide)
  simp only [List.getD_cons_zero, List.getD_cons_succ, R40, Rt.cells, Nat.zero_add, Nat.add_zero, Nat.one_mul, Nat.reduceMul, List.getElem?_cons_zero] at hr1 hr2 hr3
  have hb8 := B7.out.1.trans (hb.mono B7.out.1.size)
  have hat := (HA.out.2.2.2.1.below hb8).get 1 (by simp)
  simp only [List.getD_cons_zero, List.getD_cons_succ, Nat.zero_add, Nat.one_mul] at hat
  have c0 := hat 0 (by decide)
  have c1 := hat 1 (by decide)
  have c2 := hat 2 (by decide)
  have c3 := hat 3 (by decide)
  have c4 := hat 4 (by decide)
  have c5 := hat 5 (by decide)
  have c6 := hat 6 (by decide)
  have c7 := hat 7 (by decide)
  have c8 := hat 8 (by decide)
  have c9 := hat 9 (by decide)
  simp only [R40, Rt.cells, Nat.add_zero, List.getElem?_cons_zero, List.getElem?_cons_succ] at c0 c1 c2 c3 c4 c5 c6 c7 c8 c9
  obtain ⟨-, -, -, -, -, -, m2, m3, m4⟩ := HA.out
  rw [m2.hr] at hr1
  rw [m3.hr] at hr2
  rw [m4.hr] at hr3
  have HP := Lib.hid (pref_any x2 w8)
  unfold Rt.attrs at HP
  have hpf : prefOf x2 = 100 := by unfold prefOf; rw [m2.pf]; rfl
  rw [hpf] at HP
  have B8 := Lib.hid hb8
  clear hb hown h78 hrow8 hb8 hat m2 m3 m4 hpf c0 c1 c2 c3
  go_wp2_with fail
  refine (HP.out).mono ?_
  rintro e w9 ⟨rfl, hb⟩
  have B9 := Lib.hid hb
  clear hb
  go_wp2_with fail
  go_ret
  have hwW := HA.out.2.2.2.2.1
  exact ⟨rfl, (hwW.trans (B8.out.mono hwW.size)).trans (B9.out.mono (Nat.le_trans hwW.size B8.out.size))⟩
end Go.Proofs.Ytlgmoiilfigamaa
