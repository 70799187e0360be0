/- lives of chapter 10. -/
import Derived.Test.YtfmehahjjgalfaaEi
namespace Go.Proofs.Ytfmehahjjgalfaa.Tim
open Go.RowKit

def ka : TK := (1, 2)
def kb : TK := (2, 1)
theorem sE1 : setTE [] ka 5 = 0 := by decide
theorem sL1 : setT [] ⟨ka, 5⟩ = [⟨ka, 5⟩] := by decide
theorem sE2 : setTE [⟨ka, 5⟩] kb 3 = 0 := by decide
theorem sL2 : setT [⟨ka, 5⟩] ⟨kb, 3⟩ = [⟨ka, 5⟩, ⟨kb, 3⟩] := by decide
theorem sE3 : setTE [⟨ka, 5⟩, ⟨kb, 3⟩] ka (-1) = 1 := by decide
theorem sM : minT [⟨ka, 5⟩, ⟨kb, 3⟩] = 3 := by decide
theorem sD : ([⟨ka, 5⟩, ⟨kb, 3⟩] : List Tm).filter (dueP 4) = [⟨kb, 3⟩] := by decide
theorem sDn : (([⟨ka, 5⟩, ⟨kb, 3⟩] : List Tm).filter fun x => !dueP 4 x) = [⟨ka, 5⟩] := by decide
theorem sA : atO [⟨ka, 5⟩] ka = 5 := by decide
theorem sH : hasT [⟨ka, 5⟩] ka = true := by decide
theorem sS : (([⟨ka, 5⟩] : List Tm).filter fun x => decide (x.k ≠ ka)) = [] := by decide
theorem sH0 : hasT [] ka = false := by decide
theorem sS0 : (([] : List Tm).filter fun x => decide (x.k ≠ ka)) = [] := rfl
theorem okT {a b : Int} (h1 : -9223372036854775808 ≤ a ∧ a ≤ 9223372036854775807) (h2 : -9223372036854775808 ≤ b ∧ b ≤ 9223372036854775807) : TN.ok (a, b) := ⟨wfI h1, wfI h2⟩
theorem oneK {w : World} {q : Nat} {k : TK} (h : KS q k w) : RTk.Sl w (some ⟨q, 0, none⟩) 1 1 [k] :=
  ⟨rfl, by unfold maxLen; omega, fun _ => ⟨q, 0, rfl, lt_of_blk h, fun i hi j hj => by
    have hi0 : i = 0 := by have : i < 1 := hi; omega
    subst hi0
    have hj2 : j = 0 ∨ j = 1 := by have : j < 2 := hj; omega
    rcases hj2 with rfl | rfl
    · exact cell_of h rfl
    · exact cell_of h rfl⟩⟩
structure KK (a b : Nat) (w : World) : Prop where
  fst : KS a ka w
  snd : KS b kb w
set_option maxRecDepth 100000 in
set_option maxHeartbeats 8000000 in
theorem lives10 (w : World) : Calls Try.prog 17 #[] w fun e w' => e = .returned (.bool true) ∧ Below w.heap.size w w' := by
  go_enter Try.func17, Try.ntmps17
  go_wp2_with fail
  refine (new_any _).mono ?_
  rintro e W1 ⟨t, bm, rfl, hT, hb, ht0, hm0⟩
  have HBM := Lib.hid (And.intro hm0 hT.lt.2.1)
  go_wp2_with (with_reducible refine halt_store 31 rfl ?_)
  refine Halted.go ?_
  have hal := ((Below.refl W1.heap.size W1).alloc (Nat.le_refl _) (.cells #[.int .i64 0, .int .i64 0] 31)).alloc (by simp) (.cells #[.int .i64 0, .int .i64 0] 31)
  have hq1 : ((W1.alloc (.cells #[.int .i64 0, .int .i64 0] 31)).alloc (.cells #[.int .i64 0, .int .i64 0] 31)).heap[W1.heap.size + 1]? = some (.cells #[.int .i64 0, .int .i64 0] 31) := hnewAt (by simp)
  refine store_whole rfl 31 _ _ rfl W1.heap.size #[.int .i64 1, .int .i64 2] rfl rfl (hold (hnew _ _)) rfl (by kernel_rfl) (by simp [Value.oneCell']) ?_
  intro W2 hw2 hs2
  have hb2 : Below W1.heap.size W1 W2 := hal.trans (hs2.below (Nat.le_refl _))
  refine store_whole rfl 31 _ _ rfl (W1.heap.size + 1) #[.int .i64 2, .int .i64 1] rfl rfl ((hs2.other (Nat.succ_ne_self _)).trans hq1) rfl (by kernel_rfl) (by simp [Value.oneCell']) ?_
  intro W3 hw3 hs3
  have hb3 : Below W1.heap.size W1 W3 := hb2.trans (hs3.below (Nat.le_succ _))
  have hw3a : W3.heap[W1.heap.size]? = W2.heap[W1.heap.size]? := hs3.other (Nat.ne_of_lt (Nat.lt_succ_self _))
  have HQA := Lib.hid (show W1.heap.size ≠ bm from Nat.ne_of_gt HBM.out.2)
  have HQB := Lib.hid (show W1.heap.size + 1 ≠ bm from by have := HBM.out.2; omega)
  have F0 := Lib.hid (And.intro (bcall hb (Nat.le_refl _) hb3) (And.intro (hT.keep hb3) (And.intro (show KS W1.heap.size ka W3 from hw3a.trans hw2) (show KS (W1.heap.size + 1) kb W3 from hw3))))
  clear hT hb ht0 hm0 hal hq1 hw2 hs2 hb2 hw3 hs3 hb3 hw3a
  go_wp2_with fail
  refine wp_region_heldP (KK W1.heap.size (W1.heap.size + 1)) (by kernel_rfl) ?_
  have hd := (Below.refl W3.heap.size W3).drew
  have F30 := Lib.hid (And.intro (bcall F0.out.1 (Nat.le_refl _) hd) (And.intro (F0.out.2.1.keep hd) (And.intro (KS.on F0.out.2.2.1 (hd.block _ (lt_of_blk F0.out.2.2.1))) ((KS.on F0.out.2.2.2 (hd.block _ (lt_of_blk F0.out.2.2.2)))))))
  clear F0
  clear hd
  generalize W3.drew = W4 at *
  generalize W1.heap.size + 1 = qb at *
  generalize W1.heap.size = qa at *
  refine held_reads [0, 1, 3, 4, 6, 7] (g := 6) rfl (by kernel_rfl) ⟨F30.out.2.2.1, F30.out.2.2.2⟩ (fun _ _ d _ _ h => by cases d <;> exact h) ?_
  simp only [pick, List.getD_cons_zero, List.getD_cons_succ]
  ((with_reducible refine wpRead_step (fun K hK => ?_)); go_simp; first | ((with_reducible refine hK _ ?_); clear hK K) | (apply Exists.intro; (with_reducible refine ⟨fun w' hw' => ?_, hK _ ?_⟩); (first | exact rfl | exact ⟨rfl, rfl⟩); clear hK K))
  ((with_reducible refine wpRead_step (fun K hK => ?_)); go_simp; first | ((with_reducible refine hK _ ?_); clear hK K) | (apply Exists.intro; (with_reducible refine ⟨fun w' hw' => ?_, hK _ ?_⟩); ((obtain ⟨f0, f1⟩ := KS.cells hw'.fst; obtain ⟨f2, f3⟩ := KS.cells hw'.snd; go_simp; first | exact rfl | exact ⟨rfl, rfl⟩)); clear hK K))
  ((with_reducible refine wpRead_step (fun K hK => ?_)); go_simp; first | ((with_reducible refine hK _ ?_); clear hK K) | (apply Exists.intro; (with_reducible refine ⟨fun w' hw' => ?_, hK _ ?_⟩); (first | exact rfl | exact ⟨rfl, rfl⟩); clear hK K))
  ((with_reducible refine wpRead_step (fun K hK => ?_)); go_simp; first | ((with_reducible refine hK _ ?_); clear hK K) | (apply Exists.intro; (with_reducible refine ⟨fun w' hw' => ?_, hK _ ?_⟩); ((obtain ⟨f0, f1⟩ := KS.cells hw'.fst; obtain ⟨f2, f3⟩ := KS.cells hw'.snd; go_simp; first | exact rfl | exact ⟨rfl, rfl⟩)); clear hK K))
  ((with_reducible refine wpRead_step (fun K hK => ?_)); go_simp; first | ((with_reducible refine hK _ ?_); clear hK K) | (apply Exists.intro; (with_reducible refine ⟨fun w' hw' => ?_, hK _ ?_⟩); (first | exact rfl | exact ⟨rfl, rfl⟩); clear hK K))
  ((with_reducible refine wpRead_step (fun K hK => ?_)); go_simp; first | ((with_reducible refine hK _ ?_); clear hK K) | (apply Exists.intro; (with_reducible refine ⟨fun w' hw' => ?_, hK _ ?_⟩); ((obtain ⟨f0, f1⟩ := KS.cells hw'.fst; obtain ⟨f2, f3⟩ := KS.cells hw'.snd; go_simp; first | exact rfl | exact ⟨rfl, rfl⟩)); clear hK K))
  with_reducible refine wpRead_nil ?_
  refine held_one 2 (by kernel_rfl) ?_
  simp only [pick, List.getD_cons_zero, List.getD_cons_succ]
  go_wp2_with fail
  refine (set_any F30.out.2.1 (k := ka) (okT (by decide) (by decide)) (5)).mono ?_
  rintro e W5 ⟨rfl, hs⟩
  have htab := hs.tab
  have hbt := hs.but
  clear hs
  rw [if_pos sE1, sL1] at htab
  rw [sE1]
  have F31 := Lib.hid (And.intro (Below.step F30.out.1 F30.out.1.size hbt (by simp; exact HBM.out.1)) (And.intro htab (And.intro (KS.on F30.out.2.2.1 (hbt.block _ (lt_of_blk F30.out.2.2.1) (by simp; exact HQA.out))) ((KS.on F30.out.2.2.2 (hbt.block _ (lt_of_blk F30.out.2.2.2) (by simp; exact HQB.out)))))))
  clear F30
  clear htab hbt
  go_wp2_with fail
  refine ⟨⟨F31.out.2.2.1, F31.out.2.2.2⟩, ?_⟩
  refine held_one 5 (by kernel_rfl) ?_
  simp only [pick, List.getD_cons_zero, List.getD_cons_succ]
  go_wp2_with fail
  refine (set_any F31.out.2.1 (k := kb) (okT (by decide) (by decide)) (3)).mono ?_
  rintro e W6 ⟨rfl, hs⟩
  have htab := hs.tab
  have hbt := hs.but
  clear hs
  rw [if_pos sE2, sL2] at htab
  rw [sE2]
  have F32 := Lib.hid (And.intro (Below.step F31.out.1 F31.out.1.size hbt (by simp; exact HBM.out.1)) (And.intro htab (And.intro (KS.on F31.out.2.2.1 (hbt.block _ (lt_of_blk F31.out.2.2.1) (by simp; exact HQA.out))) ((KS.on F31.out.2.2.2 (hbt.block _ (lt_of_blk F31.out.2.2.2) (by simp; exact HQB.out)))))))
  clear F31
  clear htab hbt
  go_wp2_with fail
  refine ⟨⟨F32.out.2.2.1, F32.out.2.2.2⟩, ?_⟩
  refine held_one 8 (by kernel_rfl) ?_
  simp only [pick, List.getD_cons_zero, List.getD_cons_succ]
  go_wp2_with fail
  refine (set_any F32.out.2.1 (k := ka) (okT (by decide) (by decide)) (-1)).mono ?_
  rintro e W7 ⟨rfl, hs⟩
  have htab := hs.tab
  have hbt := hs.but
  clear hs
  rw [if_neg (by rw [sE3]; decide)] at htab
  rw [sE3]
  have F33 := Lib.hid (And.intro (Below.step F32.out.1 F32.out.1.size hbt (by simp; exact HBM.out.1)) (And.intro htab (And.intro (KS.on F32.out.2.2.1 (hbt.block _ (lt_of_blk F32.out.2.2.1) (by simp; exact HQA.out))) ((KS.on F32.out.2.2.2 (hbt.block _ (lt_of_blk F32.out.2.2.2) (by simp; exact HQB.out)))))))
  clear F32
  clear htab hbt
  go_wp2_with fail
  refine ⟨⟨F33.out.2.2.1, F33.out.2.2.2⟩, ?_⟩
  refine held_one 9 (by kernel_rfl) ?_
  simp only [pick, List.getD_cons_zero, List.getD_cons_succ]
  go_wp2_with fail
  refine ⟨⟨F33.out.2.2.1, F33.out.2.2.2⟩, ?_⟩
  refine held_one 10 (by kernel_rfl) ?_
  simp only [pick, List.getD_cons_zero, List.getD_cons_succ]
  go_wp2_with fail
  refine ⟨⟨F33.out.2.2.1, F33.out.2.2.2⟩, ?_⟩
  refine held_one 11 (by kernel_rfl) ?_
  simp only [pick, List.getD_cons_zero, List.getD_cons_succ]
  go_wp2_with fail
  refine ⟨⟨F33.out.2.2.1, F33.out.2.2.2⟩, ?_⟩
  refine wpAnyH_done (by kernel_rfl) ?_ _
  go_wp2_with fail
  have hg := next_any F33.out.2.1 (by simp)
  rw [sM] at hg
  refine hg.mono ?_
  rintro e W8 ⟨rfl, hb⟩
  clear hg
  have F34 := Lib.hid (And.intro (bcall F33.out.1 (Nat.le_refl _) hb) (And.intro (F33.out.2.1.keep hb) (And.intro (KS.on F33.out.2.2.1 (hb.block _ (lt_of_blk F33.out.2.2.1))) ((KS.on F33.out.2.2.2 (hb.block _ (lt_of_blk F33.out.2.2.2)))))))
  clear F33
  clear hb
  go_wp2_with fail
  refine (due_few F34.out.2.1 (by decide) 4 (by rw [sD]; decide)).mono ?_
  rintro e W9 ⟨v, rfl, hx⟩
  have htab := hx.tab
  have hown := hx.own
  have hbt := hx.but
  rw [sDn] at htab
  rw [sD] at hown
  have hown2 := hown.mono (Nat.le_of_lt (lt_of_blk F34.out.2.2.1))
  obtain ⟨aP, cP, rfl, -, -⟩ := hown.sl0
  rw [show ([(⟨kb, 3⟩ : Tm)].map Tm.k).length = 1 from rfl] at hown2 ⊢
  have F35 := Lib.hid (And.intro (Below.step F34.out.1 F34.out.1.size hbt (by simp; exact HBM.out.1)) (And.intro htab (And.intro (KS.on F34.out.2.2.1 (hbt.block _ (lt_of_blk F34.out.2.2.1) (by simp; exact HQA.out))) (And.intro (KS.on F34.out.2.2.2 (hbt.block _ (lt_of_blk F34.out.2.2.2) (by simp; exact HQB.out))) (hown2)))))
  clear F34
  clear hx htab hown hbt hown2
  have z0 : W9.cell? ⟨qa, 0, none⟩ = some (.int .i64 1) := (KS.cells F35.out.2.2.1).1
  have z1 : W9.cell? ⟨qa, 1, none⟩ = some (.int .i64 2) := (KS.cells F35.out.2.2.1).2
  go_wp2_with fail
  clear z0 z1
  have hg := at_any F35.out.2.1 (k := ka) (okT (by decide) (by decide))
  rw [sA, sH] at hg
  refine hg.mono ?_
  rintro e W10 ⟨rfl, hb⟩
  clear hg
  have F36 := Lib.hid (And.intro (bcall F35.out.1 (Nat.le_refl _) hb) (And.intro (F35.out.2.1.keep hb) (And.intro (KS.on F35.out.2.2.1 (hb.block _ (lt_of_blk F35.out.2.2.1))) (And.intro (KS.on F35.out.2.2.2.1 (hb.block _ (lt_of_blk F35.out.2.2.2.1))) ((F35.out.2.2.2.2.below hb))))))
  clear F35
  clear hb
  go_wp2_with fail
  refine wp_region_heldP (KK qa qb) (by kernel_rfl) ?_
  have hd := (Below.refl W10.heap.size W10).drew
  have F37 := Lib.hid (And.intro (bcall F36.out.1 (Nat.le_refl _) hd) (And.intro (F36.out.2.1.keep hd) (And.intro (KS.on F36.out.2.2.1 (hd.block _ (lt_of_blk F36.out.2.2.1))) (And.intro (KS.on F36.out.2.2.2.1 (hd.block _ (lt_of_blk F36.out.2.2.2.1))) ((F36.out.2.2.2.2.below hd))))))
  clear F36
  clear hd
  generalize W10.drew = W11 at *
  refine held_reads [0, 1, 3, 4] (g := 4) rfl (by kernel_rfl) ⟨F37.out.2.2.1, F37.out.2.2.2.1⟩ (fun _ _ d _ _ h => by cases d <;> exact h) ?_
  simp only [pick, List.getD_cons_zero, List.getD_cons_succ]
  ((with_reducible refine wpRead_step (fun K hK => ?_)); go_simp; first | ((with_reducible refine hK _ ?_); clear hK K) | (apply Exists.intro; (with_reducible refine ⟨fun w' hw' => ?_, hK _ ?_⟩); (first | exact rfl | exact ⟨rfl, rfl⟩); clear hK K))
  ((with_reducible refine wpRead_step (fun K hK => ?_)); go_simp; first | ((with_reducible refine hK _ ?_); clear hK K) | (apply Exists.intro; (with_reducible refine ⟨fun w' hw' => ?_, hK _ ?_⟩); ((obtain ⟨f0, f1⟩ := KS.cells hw'.fst; obtain ⟨f2, f3⟩ := KS.cells hw'.snd; go_simp; first | exact rfl | exact ⟨rfl, rfl⟩)); clear hK K))
  ((with_reducible refine wpRead_step (fun K hK => ?_)); go_simp; first | ((with_reducible refine hK _ ?_); clear hK K) | (apply Exists.intro; (with_reducible refine ⟨fun w' hw' => ?_, hK _ ?_⟩); (first | exact rfl | exact ⟨rfl, rfl⟩); clear hK K))
  ((with_reducible refine wpRead_step (fun K hK => ?_)); go_simp; first | ((with_reducible refine hK _ ?_); clear hK K) | (apply Exists.intro; (with_reducible refine ⟨fun w' hw' => ?_, hK _ ?_⟩); ((obtain ⟨f0, f1⟩ := KS.cells hw'.fst; obtain ⟨f2, f3⟩ := KS.cells hw'.snd; go_simp; first | exact rfl | exact ⟨rfl, rfl⟩)); clear hK K))
  with_reducible refine wpRead_nil ?_
  refine held_one 2 (by kernel_rfl) ?_
  simp only [pick, List.getD_cons_zero, List.getD_cons_succ]
  go_wp2_with fail
  have hg := stop_any F37.out.2.1 (k := ka) (okT (by decide) (by decide))
  rw [sH] at hg
  refine hg.mono ?_
  rintro e W12 ⟨rfl, hs⟩
  clear hg
  have htab := hs.tab
  have hbt := hs.but
  clear hs
  rw [sS] at htab
  have F38 := Lib.hid (And.intro (Below.step F37.out.1 F37.out.1.size hbt (by simp; exact HBM.out.1)) (And.intro htab (And.intro (KS.on F37.out.2.2.1 (hbt.block _ (lt_of_blk F37.out.2.2.1) (by simp; exact HQA.out))) (And.intro (KS.on F37.out.2.2.2.1 (hbt.block _ (lt_of_blk F37.out.2.2.2.1) (by simp; exact HQB.out))) ((Rep.Own.but F37.out.2.2.2.2 hbt (by simp; exact HBM.out.2)))))))
  clear F37
  clear htab hbt
  go_wp2_with fail
  refine ⟨⟨F38.out.2.2.1, F38.out.2.2.2.1⟩, ?_⟩
  refine held_one 5 (by kernel_rfl) ?_
  simp only [pick, List.getD_cons_zero, List.getD_cons_succ]
  go_wp2_with fail
  have hg := stop_any F38.out.2.1 (k := ka) (okT (by decide) (by decide))
  rw [sH0] at hg
  refine hg.mono ?_
  rintro e W13 ⟨rfl, hs⟩
  clear hg
  have htab := hs.tab
  have hbt := hs.but
  clear hs
  rw [sS0] at htab
  have F39 := Lib.hid (And.intro (Below.step F38.out.1 F38.out.1.size hbt (by simp; exact HBM.out.1)) (And.intro htab (And.intro (KS.on F38.out.2.2.1 (hbt.block _ (lt_of_blk F38.out.2.2.1) (by simp; exact HQA.out))) (And.intro (KS.on F38.out.2.2.2.1 (hbt.block _ (lt_of_blk F38.out.2.2.2.1) (by simp; exact HQB.out))) ((Rep.Own.but F38.out.2.2.2.2 hbt (by simp; exact HBM.out.2)))))))
  clear F38
  clear htab hbt
  go_wp2_with fail
  refine ⟨⟨F39.out.2.2.1, F39.out.2.2.2.1⟩, ?_⟩
  refine held_one 6 (by kernel_rfl) ?_
  simp only [pick, List.getD_cons_zero, List.getD_cons_succ]
  go_wp2_with fail
  refine ⟨⟨F39.out.2.2.1, F39.out.2.2.2.1⟩, ?_⟩
  refine held_one 7 (by kernel_rfl) ?_
  simp only [pick, List.getD_cons_zero, List.getD_cons_succ]
  go_wp2_with fail
  refine ⟨⟨F39.out.2.2.1, F39.out.2.2.2.1⟩, ?_⟩
  refine wpAnyH_done (by kernel_rfl) ?_ _
  have z0 : W13.cell? ⟨qb, 0, none⟩ = some (.int .i64 2) := (KS.cells F39.out.2.2.2.1).1
  have z1 : W13.cell? ⟨qb, 1, none⟩ = some (.int .i64 1) := (KS.cells F39.out.2.2.2.1).2
  go_wp2_with fail
  have hal := (Below.refl W13.heap.size W13).alloc (Nat.le_refl _) (.cells #[.int .i64 2, .int .i64 1] 31)
  have hks : KS W13.heap.size kb (W13.alloc (.cells #[.int .i64 2, .int .i64 1] 31)) := hnew _ _
  have HSL := Lib.hid (oneK hks)
  have F40 := Lib.hid (And.intro (bcall F39.out.1 (Nat.le_refl _) hal) (And.intro (F39.out.2.1.keep hal) (And.intro (KS.on F39.out.2.2.1 (hal.block _ (lt_of_blk F39.out.2.2.1))) (And.intro (KS.on F39.out.2.2.2.1 (hal.block _ (lt_of_blk F39.out.2.2.2.1))) ((F39.out.2.2.2.2.below hal))))))
  clear F39
  clear hal hks z0 z1
  generalize W13.alloc (.cells #[.int .i64 2, .int .i64 1] 31) = W14 at *
  generalize W13.heap.size = r1 at *
  obtain ⟨aa, cc, ee, hs0, -⟩ := F40.out.2.2.2.2.sl0
  rw [show ([(⟨kb, 3⟩ : Tm)].map Tm.k).length = 1 from rfl] at ee hs0
  injection ee with e1 e2 e3
  subst e1 e3
  have HS := Lib.hid hs0
  clear hs0 e2
  have hg := same_any HS.out HSL.out
  refine hg.mono ?_
  rintro e W15 ⟨rfl, hb⟩
  clear hg
  have F41 := Lib.hid (And.intro (bcall F40.out.1 (Nat.le_refl _) hb) (And.intro (F40.out.2.1.keep hb) (And.intro (KS.on F40.out.2.2.1 (hb.block _ (lt_of_blk F40.out.2.2.1))) (And.intro (KS.on F40.out.2.2.2.1 (hb.block _ (lt_of_blk F40.out.2.2.2.1))) ((F40.out.2.2.2.2.below hb))))))
  clear F40
  clear hb
  go_wp2_with fail
  refine (len_any F41.out.2.1).mono ?_
  rintro e W16 ⟨rfl, rfl⟩
  rw [show ((([] : List Tm).length : Nat) : Int) = 0 from rfl]
  go_wp2_with fail
  go_ret
  exact ⟨rfl, F41.out.1⟩
end Go.Proofs.Ytfmehahjjgalfaa.Tim
