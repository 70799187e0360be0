/- PolicyFirst: the law's walk. -/
import Derived.Test.YtgainkgbodmciaaXat
namespace Go.Proofs.Ytgainkgbodmciaa
open Go.RowKit

def ExtS (w w' : World) : Prop := Below w.heap.size w w'
theorem hdOf_of (l : List If) : (hdOf l).of = (l.map fun x => (x.id, x)).reverse := by
  have h : ∀ (l : List If) (D : HD), (l.foldl HD.add D).of = (l.map fun x => (x.id, x)).reverse ++ D.of := by
    intro l
    induction l with
    | nil => intro D; rfl
    | cons x r ih => intro D; rw [List.foldl_cons, ih]; simp [HD.add]
  have := h l hd0
  rw [show hd0.of = [] from rfl, List.append_nil] at this
  exact this
theorem get_mem {l : List If} {id : Int} {y : If} (h : (hdOf l).get id = some y) : y ∈ l ∧ y.id = id := by
  unfold HD.get at h
  rw [hdOf_of] at h
  simp only [Option.map_eq_some_iff] at h
  obtain ⟨p, hp, rfl⟩ := h
  have h1 := List.find?_some hp
  have h2 := List.mem_of_find?_eq_some hp
  simp only [List.mem_reverse, List.mem_map] at h2
  obtain ⟨x, hx, rfl⟩ := h2
  exact ⟨hx, by simpa using h1⟩
theorem find_mem {l : List If} {r nx : Int} {y : If} (h : (hdOf l).F r nx = some y) : y ∈ l := by
  unfold HD.F at h
  split at h
  · unfold HD.find at h
    split at h
    · cases h
    · exact (get_mem h).1
  · cases h
theorem opt_ok {l : List If} (hg : Good l) (x : Rt) : IN.ok (optI (hdOf l).F x) := by
  unfold optI
  cases h : (hdOf l).F x.r x.nx with
  | none => exact wfI (by decide)
  | some y =>
    have := okI_iff.1 (hg.ok y (find_mem h))
    exact wfI ⟨by show -9223372036854775808 ≤ y.id; omega, by show y.id ≤ 9223372036854775807; omega⟩
theorem cfZ : CfA #[.int .i64 0, .int .u32 0, .int .i64 0, .int .i64 0, .int .i64 0, .int .i64 0, .int .i64 0, .slice none 0 0, .int .i64 0, .int .i64 0, .int .i64 0, .int .i64 0, .int .i64 0, .int .i64 0, .int .i64 0, .int .i64 0, .int .i64 0, .slice none 0 0, .int .i64 0, .int .i64 0] 0 0 none 0 0 := ⟨rfl, ⟨none, 0, rfl⟩, rfl, rfl, by simp [Value.oneCell'], Nat.zero_le _, Nat.zero_le _⟩
theorem sl0 {α : Type} [Inhabited α] {R : Rep α} (w : World) : R.Sl w none 0 0 [] := ⟨rfl, Nat.zero_le _, fun h => absurd h (Nat.lt_irrefl _)⟩
set_option maxRecDepth 100000 in
set_option maxHeartbeats 4000000 in
theorem pfirst_law {w : World} {oa : Option Addr} {n c : Nat} {l : List If} (hl : Ifs w oa n c l) {ra : Option Addr} {q rc : Nat} {L : List Rt} (h : Came w ra q rc L) (hnx : NxOk L) : Calls Try.prog 5 #[.slice oa n c, .slice ra q rc] w fun e w' => e = .returned (.bool true) ∧ Below w.heap.size w w' := by
  have HLg := Lib.hid (large20 cfZ hl (sl0 w) (fun x hx => by cases hx) h.sl (Nat.le_refl _) h.ok)
  have HI := Lib.hid (And.intro hl (And.intro h hnx))
  clear hl h hnx
  go_enter Try.func5, Try.ntmps5
  go_wp2_with fail
  refine (HLg.out).mono ?_
  rintro e w1 ⟨⟨b, rfl, hf⟩, hb1⟩
  have F1 := Lib.hid (And.intro hf hb1)
  clear hf hb1 HLg
  cases b with
  | true =>
    go_wp2_with fail
    refine (lives20 _).mono ?_
    rintro e w2 ⟨rfl, hb2⟩
    have B2 := Lib.hid (bcall F1.out.2 (Nat.le_refl _) hb2)
    clear hb2
    go_wp2_with fail
    go_ret
    exact ⟨rfl, B2.out⟩
  | false =>
    have HF := Lib.hid (F1.out.1 rfl)
    have HB := Lib.hid F1.out.2
    clear F1
    go_wp2_with fail
    refine (make_nil (HI.out.1.keep HB.out) HF.out.good).mono ?_
    rintro e w2 ⟨hb, cb, xb, rfl, hF, hG, hb2⟩
    have HM := Lib.hid (And.intro hF (bcall HB.out (Nat.le_refl _) hb2))
    clear hF hG hb2 HB
    go_wp2_with fail
    refine (lives20 _).mono ?_
    rintro e w3 ⟨rfl, hb3⟩
    have HM := Lib.hid (And.intro (HM.out.1.keep hb3) (bcall HM.out.2 (Nat.le_refl _) hb3))
    clear hb3
    have HN := Lib.hid (ins_of (Nat.le_refl _) HI.out.2.1.ok HF.out.small)
    have HQ := Lib.hid HI.out.2.1.sl.len
    have hq0 : L = [] ∨ L ≠ [] := by cases L with | nil => exact .inl rfl | cons x r => exact .inr (by simp)
    rcases hq0 with rfl | hne
    · obtain rfl : q = 0 := HQ.out
      go_wp2_with fail
      refine (first_nil _ ra rc _).mono ?_
      rintro e w4 ⟨rfl, hb4⟩
      have hal := (Below.refl w4.heap.size w4).alloc (Nat.le_refl _) (.cells #[.int .i64 0, .int .u32 0, .int .i64 0, .int .i64 0, .int .i64 0, .slice none 0 0, .int .u32 0, .int .i64 0, .int .i64 0, .slice none 0 0, .int .i64 0] 46)
      have HM2 := Lib.hid (bcall (bcall HM.out.2 (Nat.le_refl _) hb4) (Nat.le_refl _) hal)
      clear hb4 hal
      go_wp2_with fail
      generalize w4.alloc (.cells #[.int .i64 0, .int .u32 0, .int .i64 0, .int .i64 0, .int .i64 0, .slice none 0 0, .int .u32 0, .int .i64 0, .int .i64 0, .slice none 0 0, .int .i64 0] 46) = w5 at *
      refine (rbest_any ra 0 rc [] w5 w.heap.size (HI.out.2.1.sl.keep HM2.out) (HN.out.below HM2.out)).mono ?_
      rintro e w6 ⟨rfl, hb6⟩
      have HM3 := Lib.hid (bcall HM2.out (Nat.le_refl _) hb6)
      clear hb6
      rw [show (!([] : List Rt).isEmpty) = false from rfl]
      generalize bestN ([] : List Rt) = k0
      go_wp2_with fail
      refine wp_region_quiet_tail (fun w' => w' = w6.drew) 14 (by kernel_rfl) (by kernel_rfl) rfl ?_
      simp only [List.take_succ_cons, List.take_zero, List.drop_succ_cons, List.drop_zero]
      iterate 14 ((with_reducible refine wpQuiet_step (fun K hK => ?_)); go_simp; first | ((with_reducible refine hK _ ?_); clear hK K) | (apply Exists.intro; (with_reducible refine ⟨fun w' hw' => ?_, hK _ ?_⟩); (subst hw'; first | exact rfl | exact ⟨rfl, rfl⟩); clear hK K))
      refine wpQuiet_nil ?_
      rintro _ rfl
      go_wp2_with fail
      go_ret
      exact ⟨rfl, HM3.out.drew⟩
    · have hem : (!L.isEmpty) = true := by cases L with | nil => exact absurd rfl hne | cons x r => rfl
      have HFs := Lib.hid (first_some HM.out.1 (HI.out.2.1.sl.keep HM.out.2) (HN.out.below HM.out.2) HI.out.2.2 hne)
      obtain ⟨hbl, -⟩ := best_head L hne
      have hxm := getD_mem (M := L) hbl
      have hxx := (HN.out.ok _ hxm).1
      have hxn := HI.out.2.2 _ hxm
      have hkq : bestN L < q := by rw [HQ.out]; exact hbl
      obtain ⟨rb, ro, rfl, hrl, hat⟩ := HI.out.2.1.sl.at hkq
      have hqm := HI.out.2.1.low
      have HRB := Lib.hid (fun (w5 : World) (h5 : Below w.heap.size w w5) => rbest_any (some ⟨rb, ro, none⟩) q rc L w5 w.heap.size (HI.out.2.1.sl.keep h5) (HN.out.below h5))
      rw [hem] at HRB
      clear hem hbl hxm hne HN HQ
      generalize bestN L = kb at *
      generalize L.getD kb default = x at *
      obtain ⟨k, hop⟩ : ∃ k, optI (hdOf l).F x = k := ⟨_, rfl⟩
      rw [hop] at HFs
      have HOP := Lib.hid hop
      clear hop
      have hce : x.cand k = .agg #[.int .i64 x.r, .int .u32 x.a, .int .i64 x.l, .int .i64 x.i, .int .i64 x.o, .slice x.pa x.pn x.pc, .int .u32 x.nx, .int .i64 x.md, .int .i64 x.pf, .slice x.ca x.cn x.cc, .int .i64 k] := rfl
      rw [hce] at HFs
      have HCE := Lib.hid hce
      clear hce
      have HX := Lib.hid (And.intro hrl (And.intro hat (And.intro hxx hxn)))
      clear hrl hat hxx hxn
      have hk0 : ((0 : Int) ≤ (kb : Int)) = True := by simp
      have hk1 : ((kb : Int) < (q : Int)) = True := by simp; omega
      clear hkq hqm
      go_wp2_with fail
      refine (HFs.out).mono ?_
      rintro e w4 ⟨rfl, hb4⟩
      have hal := (Below.refl w4.heap.size w4).alloc (Nat.le_refl _) (.cells #[.int .i64 x.r, .int .u32 x.a, .int .i64 x.l, .int .i64 x.i, .int .i64 x.o, .slice x.pa x.pn x.pc, .int .u32 x.nx, .int .i64 x.md, .int .i64 x.pf, .slice x.ca x.cn x.cc, .int .i64 k] 46)
      have hob : (w4.alloc (.cells #[.int .i64 x.r, .int .u32 x.a, .int .i64 x.l, .int .i64 x.i, .int .i64 x.o, .slice x.pa x.pn x.pc, .int .u32 x.nx, .int .i64 x.md, .int .i64 x.pf, .slice x.ca x.cn x.cc, .int .i64 k] 46)).heap[w4.heap.size]? = some (.cells #[.int .i64 x.r, .int .u32 x.a, .int .i64 x.l, .int .i64 x.i, .int .i64 x.o, .slice x.pa x.pn x.pc, .int .u32 x.nx, .int .i64 x.md, .int .i64 x.pf, .slice x.ca x.cn x.cc, .int .i64 k] 46) := hnew _ _
      have HM2 := Lib.hid (And.intro (bcall (bcall HM.out.2 (Nat.le_refl _) hb4) (Nat.le_refl _) hal) (And.intro hob (HM.out.1.keep (bcall hb4 (Nat.le_refl _) hal))))
      clear hb4 hal hob HFs HM
      go_wp2_with fail
      generalize w4.alloc (.cells #[.int .i64 x.r, .int .u32 x.a, .int .i64 x.l, .int .i64 x.i, .int .i64 x.o, .slice x.pa x.pn x.pc, .int .u32 x.nx, .int .i64 x.md, .int .i64 x.pf, .slice x.ca x.cn x.cc, .int .i64 k] 46) = w5 at *
      generalize w4.heap.size = ob at *
      refine (HRB.out w5 HM2.out.1).mono ?_
      rintro e w6 ⟨rfl, hb6⟩
      have hd := (Below.refl w6.heap.size w6).drew
      have hbb := bcall hb6 (Nat.le_refl _) hd
      have HM3 := Lib.hid (And.intro (bcall HM2.out.1 (Nat.le_refl _) hbb) (And.intro ((hbb.block _ (lt_of_blk HM2.out.2.1)).trans HM2.out.2.1) (HM2.out.2.2.keep hbb)))
      clear hb6 hd hbb HM2 HRB
      go_wp2_with fail
      refine wp_region_heldP (ExtS w6.drew) (by kernel_rfl) ?_
      generalize w6.drew = w7 at *
      have hrc : ∀ w', Below w7.heap.size w7 w' → OptC ob x k w' ∧ RtC rb (ro + kb * 10) x w' := fun w' hw' => ⟨optC_of ((hw'.block _ (lt_of_blk HM3.out.2.1)).trans HM3.out.2.1), (fun hh => ⟨by have h := hh 0 (by decide); simpa [R40, Rt.cells] using h, by have h := hh 1 (by decide); simpa [R40, Rt.cells] using h, by have h := hh 2 (by decide); simpa [R40, Rt.cells] using h, by have h := hh 3 (by decide); simpa [R40, Rt.cells] using h, by have h := hh 4 (by decide); simpa [R40, Rt.cells] using h, by have h := hh 5 (by decide); simpa [R40, Rt.cells] using h, by have h := hh 6 (by decide); simpa [R40, Rt.cells] using h, by have h := hh 7 (by decide); simpa [R40, Rt.cells] using h, by have h := hh 8 (by decide); simpa [R40, Rt.cells] using h, by have h := hh 9 (by decide); simpa [R40, Rt.cells] using h⟩) (HX.out.2.1.keep ((bcall HM3.out.1 (Nat.le_refl _) hw').block _ HX.out.1))⟩
      have HC := Lib.hid hrc
      clear hrc
      refine held_reads [0, 1, 2, 3, 5, 6, 7, 8, 9] (g := 6) rfl (by kernel_rfl) (show ExtS w7 w7 from Below.refl _ _) (fun _ _ d _ _ h => by cases d <;> exact h) ?_
      simp only [pick, List.getD_cons_zero, List.getD_cons_succ]
      iterate 9 ((with_reducible refine wpRead_step (fun K hK => ?_)); go_simp; first | ((with_reducible refine hK _ ?_); clear hK K) | (apply Exists.intro; (with_reducible refine ⟨fun w' hw' => ?_, hK _ ?_⟩); (obtain ⟨⟨f0, f1, f2, f3, f4, f5, f6, f7, f8, f9, f10⟩, e0, e1, e2, e3, e4, e5, e6, e7, e8, e9⟩ := HC.out _ hw'; go_simp; first | exact rfl | exact ⟨rfl, rfl⟩); clear hK K))
      with_reducible refine wpRead_nil ?_
      have HB := Lib.hid (Below.refl w7.heap.size w7)
      clear hk0 hk1
      refine held_two 4 10 (by kernel_rfl) ?_ ?_
      · simp only [pick, List.getD_cons_zero, List.getD_cons_succ]
        go_wp2_with fail
        have hal := (Below.refl w7.heap.size w7).alloc (Nat.le_refl _) (.cells #[.int .i64 x.r, .int .u32 x.a, .int .i64 x.l, .int .i64 x.i, .int .i64 x.o, .slice x.pa x.pn x.pc, .int .u32 x.nx, .int .i64 x.md, .int .i64 x.pf, .slice x.ca x.cn x.cc, .int .i64 k] 46)
        have hnw : (w7.alloc (.cells #[.int .i64 x.r, .int .u32 x.a, .int .i64 x.l, .int .i64 x.i, .int .i64 x.o, .slice x.pa x.pn x.pc, .int .u32 x.nx, .int .i64 x.md, .int .i64 x.pf, .slice x.ca x.cn x.cc, .int .i64 k] 46)).heap[w7.heap.size]? = some (.cells #[.int .i64 x.r, .int .u32 x.a, .int .i64 x.l, .int .i64 x.i, .int .i64 x.o, .slice x.pa x.pn x.pc, .int .u32 x.nx, .int .i64 x.md, .int .i64 x.pf, .slice x.ca x.cn x.cc, .int .i64 k] 46) := hnew _ _
        have HB := Lib.hid (bcall HB.out (Nat.le_refl _) hal)
        have HP := Lib.hid hnw
        clear hal hnw
        generalize w7.alloc (.cells #[.int .i64 x.r, .int .u32 x.a, .int .i64 x.l, .int .i64 x.i, .int .i64 x.o, .slice x.pa x.pn x.pc, .int .u32 x.nx, .int .i64 x.md, .int .i64 x.pf, .slice x.ca x.cn x.cc, .int .i64 k] 46) = w8 at *
        generalize w7.heap.size = qw8 at HP ⊢
        refine ⟨HB.out, ?_⟩
        refine held_one 10 (by kernel_rfl) ?_
        simp only [pick, List.getD_cons_zero, List.getD_cons_succ]
        go_wp2_with fail
        refine (option_any (HM3.out.2.2.keep HB.out) x HX.out.2.2.2).mono ?_
        rintro e w9 ⟨rfl, hb⟩
        have HB := Lib.hid (bcall HB.out (Nat.le_refl _) hb)
        have HP := Lib.hid ((hb.block _ (lt_of_blk HP.out)).trans HP.out)
        clear hb
        rw [HOP.out, HCE.out]
        go_wp2_with fail
        refine ⟨HB.out, ?_⟩
        refine held_one 11 (by kernel_rfl) ?_
        simp only [pick, List.getD_cons_zero, List.getD_cons_succ]
        go_wp2_with fail
        have hal := (Below.refl w9.heap.size w9).alloc (Nat.le_refl _) (.cells #[.int .i64 x.r, .int .u32 x.a, .int .i64 x.l, .int .i64 x.i, .int .i64 x.o, .slice x.pa x.pn x.pc, .int .u32 x.nx, .int .i64 x.md, .int .i64 x.pf, .slice x.ca x.cn x.cc, .int .i64 k] 46)
        have hnw : (w9.alloc (.cells #[.int .i64 x.r, .int .u32 x.a, .int .i64 x.l, .int .i64 x.i, .int .i64 x.o, .slice x.pa x.pn x.pc, .int .u32 x.nx, .int .i64 x.md, .int .i64 x.pf, .slice x.ca x.cn x.cc, .int .i64 k] 46)).heap[w9.heap.size]? = some (.cells #[.int .i64 x.r, .int .u32 x.a, .int .i64 x.l, .int .i64 x.i, .int .i64 x.o, .slice x.pa x.pn x.pc, .int .u32 x.nx, .int .i64 x.md, .int .i64 x.pf, .slice x.ca x.cn x.cc, .int .i64 k] 46) := hnew _ _
        have HB := Lib.hid (bcall HB.out (Nat.le_refl _) hal)
        have HP := Lib.hid ((hal.block _ (lt_of_blk HP.out)).trans HP.out)
        have HQ := Lib.hid hnw
        clear hal hnw
        generalize w9.alloc (.cells #[.int .i64 x.r, .int .u32 x.a, .int .i64 x.l, .int .i64 x.i, .int .i64 x.o, .slice x.pa x.pn x.pc, .int .u32 x.nx, .int .i64 x.md, .int .i64 x.pf, .slice x.ca x.cn x.cc, .int .i64 k] 46) = wa at *
        generalize w9.heap.size = qwa at HQ ⊢
        refine ⟨HB.out, ?_⟩
        refine held_one 12 (by kernel_rfl) ?_
        simp only [pick, List.getD_cons_zero, List.getD_cons_succ]
        go_wp2_with fail
        refine (same1 (x := x) (k := k) HP.out HQ.out (B := w.heap.size) (Nat.le_trans HM3.out.1.size HB.out.size) (HX.out.2.2.1.below (HM3.out.1.trans (HB.out.mono HM3.out.1.size)))).mono ?_
        rintro e wz ⟨rfl, hb⟩
        have HB := Lib.hid (bcall HB.out (Nat.le_refl _) hb)
        clear hb
        go_wp2_with fail
        refine ⟨HB.out, ?_⟩
        refine held_one 13 (by kernel_rfl) ?_
        simp only [pick, List.getD_cons_zero, List.getD_cons_succ]
        go_wp2_with fail
        refine ⟨HB.out, ?_⟩
        refine held_one 14 (by kernel_rfl) ?_
        simp only [pick, List.getD_cons_zero, List.getD_cons_succ]
        go_wp2_with fail
        refine ⟨HB.out, ?_⟩
        refine wpAnyH_done (by kernel_rfl) ?_ _
        go_wp2_with fail
        go_ret
        exact ⟨rfl, HM3.out.1.trans (HB.out.mono HM3.out.1.size)⟩
      · simp only [pick, List.getD_cons_zero, List.getD_cons_succ]
        go_wp2_with fail
        refine (option_any (HM3.out.2.2.keep HB.out) x HX.out.2.2.2).mono ?_
        rintro e w8 ⟨rfl, hb⟩
        have HB := Lib.hid (bcall HB.out (Nat.le_refl _) hb)
        clear hb
        rw [HOP.out, HCE.out]
        go_wp2_with fail
        refine ⟨HB.out, ?_⟩
        refine held_two 4 11 (by kernel_rfl) ?_ ?_
        · simp only [pick, List.getD_cons_zero, List.getD_cons_succ]
          go_wp2_with fail
          have hal := (Below.refl w8.heap.size w8).alloc (Nat.le_refl _) (.cells #[.int .i64 x.r, .int .u32 x.a, .int .i64 x.l, .int .i64 x.i, .int .i64 x.o, .slice x.pa x.pn x.pc, .int .u32 x.nx, .int .i64 x.md, .int .i64 x.pf, .slice x.ca x.cn x.cc, .int .i64 k] 46)
          have hnw : (w8.alloc (.cells #[.int .i64 x.r, .int .u32 x.a, .int .i64 x.l, .int .i64 x.i, .int .i64 x.o, .slice x.pa x.pn x.pc, .int .u32 x.nx, .int .i64 x.md, .int .i64 x.pf, .slice x.ca x.cn x.cc, .int .i64 k] 46)).heap[w8.heap.size]? = some (.cells #[.int .i64 x.r, .int .u32 x.a, .int .i64 x.l, .int .i64 x.i, .int .i64 x.o, .slice x.pa x.pn x.pc, .int .u32 x.nx, .int .i64 x.md, .int .i64 x.pf, .slice x.ca x.cn x.cc, .int .i64 k] 46) := hnew _ _
          have HB := Lib.hid (bcall HB.out (Nat.le_refl _) hal)
          have HP := Lib.hid hnw
          clear hal hnw
          generalize w8.alloc (.cells #[.int .i64 x.r, .int .u32 x.a, .int .i64 x.l, .int .i64 x.i, .int .i64 x.o, .slice x.pa x.pn x.pc, .int .u32 x.nx, .int .i64 x.md, .int .i64 x.pf, .slice x.ca x.cn x.cc, .int .i64 k] 46) = w9 at *
          generalize w8.heap.size = qw9 at HP ⊢
          refine ⟨HB.out, ?_⟩
          refine held_one 11 (by kernel_rfl) ?_
          simp only [pick, List.getD_cons_zero, List.getD_cons_succ]
          go_wp2_with fail
          have hal := (Below.refl w9.heap.size w9).alloc (Nat.le_refl _) (.cells #[.int .i64 x.r, .int .u32 x.a, .int .i64 x.l, .int .i64 x.i, .int .i64 x.o, .slice x.pa x.pn x.pc, .int .u32 x.nx, .int .i64 x.md, .int .i64 x.pf, .slice x.ca x.cn x.cc, .int .i64 k] 46)
          have hnw : (w9.alloc (.cells #[.int .i64 x.r, .int .u32 x.a, .int .i64 x.l, .int .i64 x.i, .int .i64 x.o, .slice x.pa x.pn x.pc, .int .u32 x.nx, .int .i64 x.md, .int .i64 x.pf, .slice x.ca x.cn x.cc, .int .i64 k] 46)).heap[w9.heap.size]? = some (.cells #[.int .i64 x.r, .int .u32 x.a, .int .i64 x.l, .int .i64 x.i, .int .i64 x.o, .slice x.pa x.pn x.pc, .int .u32 x.nx, .int .i64 x.md, .int .i64 x.pf, .slice x.ca x.cn x.cc, .int .i64 k] 46) := hnew _ _
          have HB := Lib.hid (bcall HB.out (Nat.le_refl _) hal)
          have HP := Lib.hid ((hal.block _ (lt_of_blk HP.out)).trans HP.out)
          have HQ := Lib.hid hnw
          clear hal hnw
          generalize w9.alloc (.cells #[.int .i64 x.r, .int .u32 x.a, .int .i64 x.l, .int .i64 x.i, .int .i64 x.o, .slice x.pa x.pn x.pc, .int .u32 x.nx, .int .i64 x.md, .int .i64 x.pf, .slice x.ca x.cn x.cc, .int .i64 k] 46) = wa at *
          generalize w9.heap.size = qwa at HQ ⊢
          refine ⟨HB.out, ?_⟩
          refine held_one 12 (by kernel_rfl) ?_
          simp only [pick, List.getD_cons_zero, List.getD_cons_succ]
          go_wp2_with fail
          refine (same1 (x := x) (k := k) HP.out HQ.out (B := w.heap.size) (Nat.le_trans HM3.out.1.size HB.out.size) (HX.out.2.2.1.below (HM3.out.1.trans (HB.out.mono HM3.out.1.size)))).mono ?_
          rintro e wz ⟨rfl, hb⟩
          have HB := Lib.hid (bcall HB.out (Nat.le_refl _) hb)
          clear hb
          go_wp2_with fail
          refine ⟨HB.out, ?_⟩
          refine held_one 13 (by kernel_rfl) ?_
          simp only [pick, List.getD_cons_zero, List.getD_cons_succ]
          go_wp2_with fail
          refine ⟨HB.out, ?_⟩
          refine held_one 14 (by kernel_rfl) ?_
          simp only [pick, List.getD_cons_zero, List.getD_cons_succ]
          go_wp2_with fail
          refine ⟨HB.out, ?_⟩
          refine wpAnyH_done (by kernel_rfl) ?_ _
          go_wp2_with fail
          go_ret
          exact ⟨rfl, HM3.out.1.trans (HB.out.mono HM3.out.1.size)⟩
        · simp only [pick, List.getD_cons_zero, List.getD_cons_succ]
          go_wp2_with fail
          have hal := (Below.refl w8.heap.size w8).alloc (Nat.le_refl _) (.cells #[.int .i64 x.r, .int .u32 x.a, .int .i64 x.l, .int .i64 x.i, .int .i64 x.o, .slice x.pa x.pn x.pc, .int .u32 x.nx, .int .i64 x.md, .int .i64 x.pf, .slice x.ca x.cn x.cc, .int .i64 k] 46)
          have hnw : (w8.alloc (.cells #[.int .i64 x.r, .int .u32 x.a, .int .i64 x.l, .int .i64 x.i, .int .i64 x.o, .slice x.pa x.pn x.pc, .int .u32 x.nx, .int .i64 x.md, .int .i64 x.pf, .slice x.ca x.cn x.cc, .int .i64 k] 46)).heap[w8.heap.size]? = some (.cells #[.int .i64 x.r, .int .u32 x.a, .int .i64 x.l, .int .i64 x.i, .int .i64 x.o, .slice x.pa x.pn x.pc, .int .u32 x.nx, .int .i64 x.md, .int .i64 x.pf, .slice x.ca x.cn x.cc, .int .i64 k] 46) := hnew _ _
          have HB := Lib.hid (bcall HB.out (Nat.le_refl _) hal)
          have HQ := Lib.hid hnw
          clear hal hnw
          generalize w8.alloc (.cells #[.int .i64 x.r, .int .u32 x.a, .int .i64 x.l, .int .i64 x.i, .int .i64 x.o, .slice x.pa x.pn x.pc, .int .u32 x.nx, .int .i64 x.md, .int .i64 x.pf, .slice x.ca x.cn x.cc, .int .i64 k] 46) = w9 at *
          generalize w8.heap.size = qw9 at HQ ⊢
          refine ⟨HB.out, ?_⟩
          refine held_one 4 (by kernel_rfl) ?_
          simp only [pick, List.getD_cons_zero, List.getD_cons_succ]
          go_wp2_with fail
          have hal := (Below.refl w9.heap.size w9).alloc (Nat.le_refl _) (.cells #[.int .i64 x.r, .int .u32 x.a, .int .i64 x.l, .int .i64 x.i, .int .i64 x.o, .slice x.pa x.pn x.pc, .int .u32 x.nx, .int .i64 x.md, .int .i64 x.pf, .slice x.ca x.cn x.cc, .int .i64 k] 46)
          have hnw : (w9.alloc (.cells #[.int .i64 x.r, .int .u32 x.a, .int .i64 x.l, .int .i64 x.i, .int .i64 x.o, .slice x.pa x.pn x.pc, .int .u32 x.nx, .int .i64 x.md, .int .i64 x.pf, .slice x.ca x.cn x.cc, .int .i64 k] 46)).heap[w9.heap.size]? = some (.cells #[.int .i64 x.r, .int .u32 x.a, .int .i64 x.l, .int .i64 x.i, .int .i64 x.o, .slice x.pa x.pn x.pc, .int .u32 x.nx, .int .i64 x.md, .int .i64 x.pf, .slice x.ca x.cn x.cc, .int .i64 k] 46) := hnew _ _
          have HB := Lib.hid (bcall HB.out (Nat.le_refl _) hal)
          have HQ := Lib.hid ((hal.block _ (lt_of_blk HQ.out)).trans HQ.out)
          have HP := Lib.hid hnw
          clear hal hnw
          generalize w9.alloc (.cells #[.int .i64 x.r, .int .u32 x.a, .int .i64 x.l, .int .i64 x.i, .int .i64 x.o, .slice x.pa x.pn x.pc, .int .u32 x.nx, .int .i64 x.md, .int .i64 x.pf, .slice x.ca x.cn x.cc, .int .i64 k] 46) = wa at *
          generalize w9.heap.size = qwa at HP ⊢
          refine ⟨HB.out, ?_⟩
          refine held_one 12 (by kernel_rfl) ?_
          simp only [pick, List.getD_cons_zero, List.getD_cons_succ]
          go_wp2_with fail
          refine (same1 (x := x) (k := k) HP.out HQ.out (B := w.heap.size) (Nat.le_trans HM3.out.1.size HB.out.size) (HX.out.2.2.1.below (HM3.out.1.trans (HB.out.mono HM3.out.1.size)))).mono ?_
          rintro e wz ⟨rfl, hb⟩
          have HB := Lib.hid (bcall HB.out (Nat.le_refl _) hb)
          clear hb
          go_wp2_with fail
          refine ⟨HB.out, ?_⟩
          refine held_one 13 (by kernel_rfl) ?_
          simp only [pick, List.getD_cons_zero, List.getD_cons_succ]
          go_wp2_with fail
          refine ⟨HB.out, ?_⟩
          refine held_one 14 (by kernel_rfl) ?_
          simp only [pick, List.getD_cons_zero, List.getD_cons_succ]
          go_wp2_with fail
          refine ⟨HB.out, ?_⟩
          refine wpAnyH_done (by kernel_rfl) ?_ _
          go_wp2_with fail
          go_ret
          exact ⟨rfl, HM3.out.1.trans (HB.out.mono HM3.out.1.size)⟩
end Go.Proofs.Ytgainkgbodmciaa

