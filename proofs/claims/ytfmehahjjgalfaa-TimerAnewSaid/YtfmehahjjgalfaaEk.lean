/- TimerAnew: the law's walk. -/
import Derived.Test.YtfmehahjjgalfaaEj
namespace Go.Proofs.Ytfmehahjjgalfaa.Tim
open Go.RowKit

def k4 : TK := (4, 1)
theorem aE1 {a : Int} (h : 0 ≤ a ∧ a ≤ 9007199254740991) : setTE [] k4 a = 0 := by
  unfold setTE
  rw [if_neg (by omega)]
  rfl
theorem aL1 (a : Int) : setT [] ⟨k4, a⟩ = [⟨k4, a⟩] := rfl
theorem aE2 (a : Int) {b : Int} (h : 0 ≤ b ∧ b ≤ 9007199254740991) : setTE [⟨k4, a⟩] k4 b = 0 := by
  unfold setTE
  rw [if_neg (by omega)]
  rfl
theorem aL2 (a b : Int) : setT [⟨k4, a⟩] ⟨k4, b⟩ = [⟨k4, b⟩] := rfl
theorem aM {b : Int} (h : b ≤ 9007199254740991) : minT [⟨k4, b⟩] = b := by
  show minS 9007199254740991 ⟨k4, b⟩ = b
  unfold minS
  show (if b < 9007199254740991 then b else 9007199254740991) = b
  split <;> omega
theorem aD (b : Int) : ([⟨k4, b⟩] : List Tm).filter (dueP (b - 1)) = [] := by
  have h : dueP (b - 1) ⟨k4, b⟩ = false := by simp [dueP]; omega
  simp [h]
theorem aDn (b : Int) : (([⟨k4, b⟩] : List Tm).filter fun x => !dueP (b - 1) x) = [⟨k4, b⟩] := by
  have h : dueP (b - 1) ⟨k4, b⟩ = false := by simp [dueP]; omega
  simp [h]
theorem aF (b : Int) : ([⟨k4, b⟩] : List Tm).filter (dueP b) = [⟨k4, b⟩] := by
  have h : dueP b ⟨k4, b⟩ = true := by simp [dueP]
  simp [h]
theorem aFn (b : Int) : (([⟨k4, b⟩] : List Tm).filter fun x => !dueP b x) = [] := by
  have h : dueP b ⟨k4, b⟩ = true := by simp [dueP]
  simp [h]
structure AnS (q g o : Nat) (w : World) : Prop where
  key : KS q k4 w
  row : RTk.Row w g o [k4]
theorem AnS.on {q g o : Nat} {w w' : World} (h : AnS q g o w) (hb : Below w.heap.size w w') : AnS q g o w' := ⟨h.key.on (hb.block _ (lt_of_blk h.key)), h.row.below hb⟩
theorem AnS.cells {q g o : Nat} {w : World} (h : AnS q g o w) : w.cell? ⟨q, 0, none⟩ = some (.int .i64 4) ∧ w.cell? ⟨q, 1, none⟩ = some (.int .i64 1) ∧ w.cell? ⟨g, o, none⟩ = some (.int .i64 4) ∧ w.cell? ⟨g, o + 1, none⟩ = some (.int .i64 1) := by
  have hat := h.row.get 0 (by decide)
  have y0 := hat 0 (by decide)
  have y1 := hat 1 (by decide)
  simp only [RTk, Nat.zero_mul, Nat.add_zero, List.getElem?_cons_zero, List.getElem?_cons_succ] at y0 y1
  exact ⟨h.key.cells.1, h.key.cells.2, y0, y1⟩
set_option maxRecDepth 100000 in
set_option maxHeartbeats 8000000 in
theorem anew_main {w : World} {a b : Int} (ha : 0 ≤ a ∧ a ≤ 9007199254740991) (hb : 0 ≤ b ∧ b ≤ 9007199254740991) : Calls Try.prog 6 #[.int .i64 a, .int .i64 b] w fun e w' => e = .returned (.bool true) ∧ Below w.heap.size w w' := by
  have a1 : (a < 0) = False := by simp; omega
  have a2 : (b < 0) = False := by simp; omega
  have a3 : (9007199254740991 < a) = False := by simp; omega
  have a4 : (9007199254740991 < b) = False := by simp; omega
  have a5 : wrap64 (b - 1) = b - 1 := by unfold wrap64; omega
  have HA := Lib.hid (aE1 ha)
  have HB := Lib.hid (And.intro (aE2 a hb) (aM hb.2))
  clear ha hb
  go_enter Try.func6, Try.ntmps6
  go_wp2_with fail
  refine (new_any _).mono ?_
  rintro e W1 ⟨t, bm, rfl, hT, hb, ht0, hm0⟩
  have HBM := Lib.hid (And.intro hm0 (And.intro hT.lt.2.1 hm0))
  have F1 := Lib.hid (And.intro hb hT)
  clear hT hb ht0 hm0
  go_wp2_with fail
  refine (lives10 _).mono ?_
  rintro e W2 ⟨rfl, hb⟩
  have F2 := Lib.hid (And.intro (bcall F1.out.1 (Nat.le_refl _) hb) (F1.out.2.keep hb))
  have HBM2 := Lib.hid (show bm < W2.heap.size from F2.out.2.lt.2.1)
  clear hb F1
  go_wp2_with (with_reducible refine halt_store 31 rfl ?_)
  refine Halted.go ?_
  have hal := (Below.refl W2.heap.size W2).alloc (Nat.le_refl _) (.cells #[.int .i64 0, .int .i64 0] 31)
  refine store_whole rfl 31 _ _ rfl W2.heap.size #[.int .i64 4, .int .i64 1] rfl rfl (hnew _ _) rfl (by kernel_rfl) (by simp [Value.oneCell']) ?_
  intro W3 hw3 hs3
  have hb3 : Below W2.heap.size W2 W3 := hal.trans (hs3.below (Nat.le_refl _))
  have HQA := Lib.hid (show W2.heap.size ≠ bm from by have := HBM2.out; omega)
  have F0 := Lib.hid (And.intro (bcall F2.out.1 (Nat.le_refl _) hb3) (And.intro (F2.out.2.keep hb3) (show KS W2.heap.size k4 W3 from hw3)))
  clear hal hw3 hs3 hb3 F2
  go_wp2_with fail
  refine wp_region_heldP (KS W2.heap.size k4) (by kernel_rfl) ?_
  have hd := (Below.refl W3.heap.size W3).drew
  have F42 := Lib.hid (And.intro (bcall F0.out.1 (Nat.le_refl _) hd) (And.intro (F0.out.2.1.keep hd) ((KS.on F0.out.2.2 (hd.block _ (lt_of_blk F0.out.2.2))))))
  clear F0
  clear hd
  generalize W3.drew = W4 at *
  generalize W2.heap.size = qa at *
  refine held_reads [0, 1, 2, 4, 5, 6] (g := 4) rfl (by kernel_rfl) F42.out.2.2 (fun _ _ d _ _ h => by cases d <;> exact h) ?_
  simp only [pick, List.getD_cons_zero, List.getD_cons_succ]
  ((with_reducible refine wpRead_step (fun K hK => ?_)); go_simp; first | ((with_reducible refine hK _ ?_); clear hK K) | (apply Exists.intro; (with_reducible refine ⟨fun w' hw' => ?_, hK _ ?_⟩); (first | exact rfl | exact ⟨rfl, rfl⟩); clear hK K))
  ((with_reducible refine wpRead_step (fun K hK => ?_)); go_simp; first | ((with_reducible refine hK _ ?_); clear hK K) | (apply Exists.intro; (with_reducible refine ⟨fun w' hw' => ?_, hK _ ?_⟩); ((obtain ⟨f0, f1⟩ := KS.cells hw'; go_simp; first | exact rfl | exact ⟨rfl, rfl⟩)); clear hK K))
  ((with_reducible refine wpRead_step (fun K hK => ?_)); go_simp; first | ((with_reducible refine hK _ ?_); clear hK K) | (apply Exists.intro; (with_reducible refine ⟨fun w' hw' => ?_, hK _ ?_⟩); (first | exact rfl | exact ⟨rfl, rfl⟩); clear hK K))
  ((with_reducible refine wpRead_step (fun K hK => ?_)); go_simp; first | ((with_reducible refine hK _ ?_); clear hK K) | (apply Exists.intro; (with_reducible refine ⟨fun w' hw' => ?_, hK _ ?_⟩); (first | exact rfl | exact ⟨rfl, rfl⟩); clear hK K))
  ((with_reducible refine wpRead_step (fun K hK => ?_)); go_simp; first | ((with_reducible refine hK _ ?_); clear hK K) | (apply Exists.intro; (with_reducible refine ⟨fun w' hw' => ?_, hK _ ?_⟩); ((obtain ⟨f0, f1⟩ := KS.cells hw'; go_simp; first | exact rfl | exact ⟨rfl, rfl⟩)); clear hK K))
  ((with_reducible refine wpRead_step (fun K hK => ?_)); go_simp; first | ((with_reducible refine hK _ ?_); clear hK K) | (apply Exists.intro; (with_reducible refine ⟨fun w' hw' => ?_, hK _ ?_⟩); (first | exact rfl | exact ⟨rfl, rfl⟩); clear hK K))
  with_reducible refine wpRead_nil ?_
  refine held_one 3 (by kernel_rfl) ?_
  simp only [pick, List.getD_cons_zero, List.getD_cons_succ]
  go_wp2_with fail
  refine (set_any F42.out.2.1 (k := k4) (okT (by decide) (by decide)) a).mono ?_
  rintro e W5 ⟨rfl, hs⟩
  have htab := hs.tab
  have hbt := hs.but
  clear hs
  rw [if_pos HA.out, aL1] at htab
  rw [HA.out]
  have F43 := Lib.hid (And.intro (Below.step F42.out.1 F42.out.1.size hbt (by simp; exact HBM.out.1)) (And.intro htab ((KS.on F42.out.2.2 (hbt.block _ (lt_of_blk F42.out.2.2) (by simp; exact HQA.out))))))
  clear F42
  clear htab hbt
  go_wp2_with fail
  refine ⟨F43.out.2.2, ?_⟩
  refine held_one 7 (by kernel_rfl) ?_
  simp only [pick, List.getD_cons_zero, List.getD_cons_succ]
  go_wp2_with fail
  refine (set_any F43.out.2.1 (k := k4) (okT (by decide) (by decide)) b).mono ?_
  rintro e W6 ⟨rfl, hs⟩
  have htab := hs.tab
  have hbt := hs.but
  clear hs
  rw [if_pos HB.out.1, aL2] at htab
  rw [HB.out.1]
  have F44 := Lib.hid (And.intro (Below.step F43.out.1 F43.out.1.size hbt (by simp; exact HBM.out.1)) (And.intro htab ((KS.on F43.out.2.2 (hbt.block _ (lt_of_blk F43.out.2.2) (by simp; exact HQA.out))))))
  clear F43
  clear htab hbt
  go_wp2_with fail
  refine ⟨F44.out.2.2, ?_⟩
  refine held_one 8 (by kernel_rfl) ?_
  simp only [pick, List.getD_cons_zero, List.getD_cons_succ]
  go_wp2_with fail
  refine ⟨F44.out.2.2, ?_⟩
  refine held_one 9 (by kernel_rfl) ?_
  simp only [pick, List.getD_cons_zero, List.getD_cons_succ]
  go_wp2_with fail
  refine ⟨F44.out.2.2, ?_⟩
  refine wpAnyH_done (by kernel_rfl) ?_ _
  go_wp2_with fail
  have hg := next_any F44.out.2.1 (by simp)
  rw [HB.out.2] at hg
  refine hg.mono ?_
  rintro e W7 ⟨rfl, hb⟩
  clear hg
  have F45 := Lib.hid (And.intro (bcall F44.out.1 (Nat.le_refl _) hb) (And.intro (F44.out.2.1.keep hb) ((KS.on F44.out.2.2 (hb.block _ (lt_of_blk F44.out.2.2))))))
  clear F44
  clear hb
  go_wp2_with fail
  refine (due_few F45.out.2.1 (by simp) (b - 1) (by rw [aD b]; simp)).mono ?_
  rintro e W8 ⟨v, rfl, hx⟩
  have htab := hx.tab
  have hown := hx.own
  have hbt := hx.but
  rw [aDn b] at htab
  rw [aD b] at hown
  have hown2 := hown.mono (Nat.le_of_lt (lt_of_blk F45.out.2.2))
  obtain ⟨aP, cP, rfl, -, -⟩ := hown.sl0
  rw [show (([] : List Tm).map Tm.k).length = 0 from rfl] at hown2 ⊢
  have F46 := Lib.hid (And.intro (Below.step F45.out.1 F45.out.1.size hbt (by simp; exact HBM.out.1)) (And.intro htab (And.intro (KS.on F45.out.2.2 (hbt.block _ (lt_of_blk F45.out.2.2) (by simp; exact HQA.out))) (hown2))))
  clear F45
  clear hx htab hown hbt hown2
  go_wp2_with fail
  refine (due_few F46.out.2.1 (by simp) (b) (by rw [aF b]; simp)).mono ?_
  rintro e W9 ⟨v, rfl, hx⟩
  have htab := hx.tab
  have hown := hx.own
  have hbt := hx.but
  rw [aFn b] at htab
  rw [aF b] at hown
  have hown2 := hown.mono (Nat.le_of_lt (lt_of_blk F46.out.2.2.1))
  obtain ⟨aQ, cQ, rfl, -, -⟩ := hown.sl0
  rw [show (([⟨k4, b⟩] : List Tm).map Tm.k).length = 1 from rfl] at hown2 ⊢
  have F47 := Lib.hid (And.intro (Below.step F46.out.1 F46.out.1.size hbt (by simp; exact HBM.out.1)) (And.intro htab (And.intro (KS.on F46.out.2.2.1 (hbt.block _ (lt_of_blk F46.out.2.2.1) (by simp; exact HQA.out))) (And.intro (Rep.Own.but F46.out.2.2.2 hbt (by simp; exact HBM2.out)) (hown2)))))
  clear F46
  clear hx htab hown hbt hown2
  go_wp2_with fail
  have hq := F47.out.2.2.2.2
  obtain ⟨aq, cq, ee, hs0, -⟩ := hq.sl0
  rw [show ([(⟨k4, b⟩ : Tm)].map Tm.k).length = 1 from rfl] at ee hs0
  injection ee with e1 e2 e3
  subst e1 e3
  obtain ⟨g, o, rfl, hrow⟩ := hs0.row (by decide)
  have HAN := Lib.hid (show AnS qa g o W9 from ⟨F47.out.2.2.1, hrow⟩)
  clear hq hs0 e2 hrow
  refine wp_region_heldP (AnS qa g o) (by kernel_rfl) ?_
  have hd := (Below.refl W9.heap.size W9).drew
  have HAN2 := Lib.hid (HAN.out.on hd)
  clear HAN
  have F48 := Lib.hid (And.intro (bcall F47.out.1 (Nat.le_refl _) hd) (And.intro (F47.out.2.1.keep hd) (And.intro (KS.on F47.out.2.2.1 (hd.block _ (lt_of_blk F47.out.2.2.1))) (And.intro (F47.out.2.2.2.1.below hd) ((F47.out.2.2.2.2.below hd))))))
  clear F47
  clear hd
  generalize W9.drew = W10 at *
  refine held_reads [0, 1, 2, 3, 4, 5, 6, 7, 8, 9, 10, 11, 12, 13, 14, 15, 16, 17, 18, 19, 20, 21, 22, 23, 24, 25, 26, 27, 28, 29, 30, 31, 32] (g := 4) rfl (by kernel_rfl) HAN2.out (fun _ _ d _ _ h => by cases d <;> exact h) ?_
  simp only [pick, List.getD_cons_zero, List.getD_cons_succ]
  ((with_reducible refine wpRead_step (fun K hK => ?_)); go_simp; first | ((with_reducible refine hK _ ?_); clear hK K) | (apply Exists.intro; (with_reducible refine ⟨fun w' hw' => ?_, hK _ ?_⟩); (first | exact rfl | exact ⟨rfl, rfl⟩); clear hK K))
  ((with_reducible refine wpRead_step (fun K hK => ?_)); go_simp; first | ((with_reducible refine hK _ ?_); clear hK K) | (apply Exists.intro; (with_reducible refine ⟨fun w' hw' => ?_, hK _ ?_⟩); (first | exact rfl | exact ⟨rfl, rfl⟩); clear hK K))
  ((with_reducible refine wpRead_step (fun K hK => ?_)); go_simp; first | ((with_reducible refine hK _ ?_); clear hK K) | (apply Exists.intro; (with_reducible refine ⟨fun w' hw' => ?_, hK _ ?_⟩); (first | exact rfl | exact ⟨rfl, rfl⟩); clear hK K))
  ((with_reducible refine wpRead_step (fun K hK => ?_)); go_simp; first | ((with_reducible refine hK _ ?_); clear hK K) | (apply Exists.intro; (with_reducible refine ⟨fun w' hw' => ?_, hK _ ?_⟩); (first | exact rfl | exact ⟨rfl, rfl⟩); clear hK K))
  ((with_reducible refine wpRead_step (fun K hK => ?_)); go_simp; first | ((with_reducible refine hK _ ?_); clear hK K) | (apply Exists.intro; (with_reducible refine ⟨fun w' hw' => ?_, hK _ ?_⟩); (first | exact rfl | exact ⟨rfl, rfl⟩); clear hK K))
  ((with_reducible refine wpRead_step (fun K hK => ?_)); go_simp; first | ((with_reducible refine hK _ ?_); clear hK K) | (apply Exists.intro; (with_reducible refine ⟨fun w' hw' => ?_, hK _ ?_⟩); (first | exact rfl | exact ⟨rfl, rfl⟩); clear hK K))
  ((with_reducible refine wpRead_step (fun K hK => ?_)); go_simp; first | ((with_reducible refine hK _ ?_); clear hK K) | (apply Exists.intro; (with_reducible refine ⟨fun w' hw' => ?_, hK _ ?_⟩); (first | exact rfl | exact ⟨rfl, rfl⟩); clear hK K))
  ((with_reducible refine wpRead_step (fun K hK => ?_)); go_simp; first | ((with_reducible refine hK _ ?_); clear hK K) | (apply Exists.intro; (with_reducible refine ⟨fun w' hw' => ?_, hK _ ?_⟩); (first | exact rfl | exact ⟨rfl, rfl⟩); clear hK K))
  ((with_reducible refine wpRead_step (fun K hK => ?_)); go_simp; first | ((with_reducible refine hK _ ?_); clear hK K) | (apply Exists.intro; (with_reducible refine ⟨fun w' hw' => ?_, hK _ ?_⟩); (first | exact rfl | exact ⟨rfl, rfl⟩); clear hK K))
  ((with_reducible refine wpRead_step (fun K hK => ?_)); go_simp; first | ((with_reducible refine hK _ ?_); clear hK K) | (apply Exists.intro; (with_reducible refine ⟨fun w' hw' => ?_, hK _ ?_⟩); (first | exact rfl | exact ⟨rfl, rfl⟩); clear hK K))
  ((with_reducible refine wpRead_step (fun K hK => ?_)); go_simp; first | ((with_reducible refine hK _ ?_); clear hK K) | (apply Exists.intro; (with_reducible refine ⟨fun w' hw' => ?_, hK _ ?_⟩); (first | exact rfl | exact ⟨rfl, rfl⟩); clear hK K))
  ((with_reducible refine wpRead_step (fun K hK => ?_)); go_simp; first | ((with_reducible refine hK _ ?_); clear hK K) | (apply Exists.intro; (with_reducible refine ⟨fun w' hw' => ?_, hK _ ?_⟩); (first | exact rfl | exact ⟨rfl, rfl⟩); clear hK K))
  ((with_reducible refine wpRead_step (fun K hK => ?_)); go_simp; first | ((with_reducible refine hK _ ?_); clear hK K) | (apply Exists.intro; (with_reducible refine ⟨fun w' hw' => ?_, hK _ ?_⟩); (first | exact rfl | exact ⟨rfl, rfl⟩); clear hK K))
  ((with_reducible refine wpRead_step (fun K hK => ?_)); go_simp; first | ((with_reducible refine hK _ ?_); clear hK K) | (apply Exists.intro; (with_reducible refine ⟨fun w' hw' => ?_, hK _ ?_⟩); (first | exact rfl | exact ⟨rfl, rfl⟩); clear hK K))
  ((with_reducible refine wpRead_step (fun K hK => ?_)); go_simp; first | ((with_reducible refine hK _ ?_); clear hK K) | (apply Exists.intro; (with_reducible refine ⟨fun w' hw' => ?_, hK _ ?_⟩); (first | exact rfl | exact ⟨rfl, rfl⟩); clear hK K))
  ((with_reducible refine wpRead_step (fun K hK => ?_)); go_simp; first | ((with_reducible refine hK _ ?_); clear hK K) | (apply Exists.intro; (with_reducible refine ⟨fun w' hw' => ?_, hK _ ?_⟩); (first | exact rfl | exact ⟨rfl, rfl⟩); clear hK K))
  ((with_reducible refine wpRead_step (fun K hK => ?_)); go_simp; first | ((with_reducible refine hK _ ?_); clear hK K) | (apply Exists.intro; (with_reducible refine ⟨fun w' hw' => ?_, hK _ ?_⟩); (first | exact rfl | exact ⟨rfl, rfl⟩); clear hK K))
  ((with_reducible refine wpRead_step (fun K hK => ?_)); go_simp; first | ((with_reducible refine hK _ ?_); clear hK K) | (apply Exists.intro; (with_reducible refine ⟨fun w' hw' => ?_, hK _ ?_⟩); (first | exact rfl | exact ⟨rfl, rfl⟩); clear hK K))
  ((with_reducible refine wpRead_step (fun K hK => ?_)); go_simp; first | ((with_reducible refine hK _ ?_); clear hK K) | (apply Exists.intro; (with_reducible refine ⟨fun w' hw' => ?_, hK _ ?_⟩); (first | exact rfl | exact ⟨rfl, rfl⟩); clear hK K))
  ((with_reducible refine wpRead_step (fun K hK => ?_)); go_simp; first | ((with_reducible refine hK _ ?_); clear hK K) | (apply Exists.intro; (with_reducible refine ⟨fun w' hw' => ?_, hK _ ?_⟩); (first | exact rfl | exact ⟨rfl, rfl⟩); clear hK K))
  ((with_reducible refine wpRead_step (fun K hK => ?_)); go_simp; first | ((with_reducible refine hK _ ?_); clear hK K) | (apply Exists.intro; (with_reducible refine ⟨fun w' hw' => ?_, hK _ ?_⟩); (first | exact rfl | exact ⟨rfl, rfl⟩); clear hK K))
  ((with_reducible refine wpRead_step (fun K hK => ?_)); go_simp; first | ((with_reducible refine hK _ ?_); clear hK K) | (apply Exists.intro; (with_reducible refine ⟨fun w' hw' => ?_, hK _ ?_⟩); (first | exact rfl | exact ⟨rfl, rfl⟩); clear hK K))
  ((with_reducible refine wpRead_step (fun K hK => ?_)); go_simp; first | ((with_reducible refine hK _ ?_); clear hK K) | (apply Exists.intro; (with_reducible refine ⟨fun w' hw' => ?_, hK _ ?_⟩); (first | exact rfl | exact ⟨rfl, rfl⟩); clear hK K))
  ((with_reducible refine wpRead_step (fun K hK => ?_)); go_simp; first | ((with_reducible refine hK _ ?_); clear hK K) | (apply Exists.intro; (with_reducible refine ⟨fun w' hw' => ?_, hK _ ?_⟩); (first | exact rfl | exact ⟨rfl, rfl⟩); clear hK K))
  ((with_reducible refine wpRead_step (fun K hK => ?_)); go_simp; first | ((with_reducible refine hK _ ?_); clear hK K) | (apply Exists.intro; (with_reducible refine ⟨fun w' hw' => ?_, hK _ ?_⟩); (first | exact rfl | exact ⟨rfl, rfl⟩); clear hK K))
  ((with_reducible refine wpRead_step (fun K hK => ?_)); go_simp; first | ((with_reducible refine hK _ ?_); clear hK K) | (apply Exists.intro; (with_reducible refine ⟨fun w' hw' => ?_, hK _ ?_⟩); (first | exact rfl | exact ⟨rfl, rfl⟩); clear hK K))
  ((with_reducible refine wpRead_step (fun K hK => ?_)); go_simp; first | ((with_reducible refine hK _ ?_); clear hK K) | (apply Exists.intro; (with_reducible refine ⟨fun w' hw' => ?_, hK _ ?_⟩); ((obtain ⟨f0, f1, f2, f3⟩ := hw'.cells; go_simp; first | exact rfl | exact ⟨rfl, rfl⟩)); clear hK K))
  ((with_reducible refine wpRead_step (fun K hK => ?_)); go_simp; first | ((with_reducible refine hK _ ?_); clear hK K) | (apply Exists.intro; (with_reducible refine ⟨fun w' hw' => ?_, hK _ ?_⟩); ((obtain ⟨f0, f1, f2, f3⟩ := hw'.cells; go_simp; first | exact rfl | exact ⟨rfl, rfl⟩)); clear hK K))
  ((with_reducible refine wpRead_step (fun K hK => ?_)); go_simp; first | ((with_reducible refine hK _ ?_); clear hK K) | (apply Exists.intro; (with_reducible refine ⟨fun w' hw' => ?_, hK _ ?_⟩); ((obtain ⟨f0, f1, f2, f3⟩ := hw'.cells; go_simp; first | exact rfl | exact ⟨rfl, rfl⟩)); clear hK K))
  ((with_reducible refine wpRead_step (fun K hK => ?_)); go_simp; first | ((with_reducible refine hK _ ?_); clear hK K) | (apply Exists.intro; (with_reducible refine ⟨fun w' hw' => ?_, hK _ ?_⟩); (first | exact rfl | exact ⟨rfl, rfl⟩); clear hK K))
  ((with_reducible refine wpRead_step (fun K hK => ?_)); go_simp; first | ((with_reducible refine hK _ ?_); clear hK K) | (apply Exists.intro; (with_reducible refine ⟨fun w' hw' => ?_, hK _ ?_⟩); (first | exact rfl | exact ⟨rfl, rfl⟩); clear hK K))
  ((with_reducible refine wpRead_step (fun K hK => ?_)); go_simp; first | ((with_reducible refine hK _ ?_); clear hK K) | (apply Exists.intro; (with_reducible refine ⟨fun w' hw' => ?_, hK _ ?_⟩); (first | exact rfl | exact ⟨rfl, rfl⟩); clear hK K))
  ((with_reducible refine wpRead_step (fun K hK => ?_)); go_simp; first | ((with_reducible refine hK _ ?_); clear hK K) | (apply Exists.intro; (with_reducible refine ⟨fun w' hw' => ?_, hK _ ?_⟩); (first | exact rfl | exact ⟨rfl, rfl⟩); clear hK K))
  with_reducible refine wpRead_nil ?_
  refine held_one 33 (by kernel_rfl) ?_
  simp only [pick, List.getD_cons_zero, List.getD_cons_succ]
  go_wp2_with fail
  refine (len_any F48.out.2.1).mono ?_
  rintro e W11 ⟨rfl, rfl⟩
  rw [show ((([] : List Tm).length : Nat) : Int) = 0 from rfl]
  go_wp2_with fail
  refine ⟨HAN2.out, ?_⟩
  refine held_reads [34, 35] (g := 1) rfl (by kernel_rfl) HAN2.out (fun _ _ d _ _ h => by cases d <;> exact h) ?_
  simp only [pick, List.getD_cons_zero, List.getD_cons_succ]
  ((with_reducible refine wpRead_step (fun K hK => ?_)); go_simp; first | ((with_reducible refine hK _ ?_); clear hK K) | (apply Exists.intro; (with_reducible refine ⟨fun w' hw' => ?_, hK _ ?_⟩); (first | exact rfl | exact ⟨rfl, rfl⟩); clear hK K))
  ((with_reducible refine wpRead_step (fun K hK => ?_)); go_simp; first | ((with_reducible refine hK _ ?_); clear hK K) | (apply Exists.intro; (with_reducible refine ⟨fun w' hw' => ?_, hK _ ?_⟩); (first | exact rfl | exact ⟨rfl, rfl⟩); clear hK K))
  with_reducible refine wpRead_nil ?_
  refine held_one 36 (by kernel_rfl) ?_
  simp only [pick, List.getD_cons_zero, List.getD_cons_succ]
  go_wp2_with fail
  refine ⟨HAN2.out, ?_⟩
  refine wpAnyH_done (by kernel_rfl) ?_ _
  go_wp2_with fail
  go_ret
  exact ⟨rfl, F48.out.1⟩
theorem tanew10_law (a b : Int) (w : World) : Calls Try.prog 6 #[.int .i64 a, .int .i64 b] w fun e w' => e = .returned (.bool true) ∧ Below w.heap.size w w' := by
  by_cases h : (0 ≤ a ∧ a ≤ 9007199254740991) ∧ (0 ≤ b ∧ b ≤ 9007199254740991)
  · exact anew_main h.1 h.2
  have hways : ((a < 0) = True) ∨ ((a < 0) = False ∧ (b < 0) = True) ∨ ((a < 0) = False ∧ (b < 0) = False ∧ (9007199254740991 < a) = True) ∨ ((a < 0) = False ∧ (b < 0) = False ∧ (9007199254740991 < a) = False ∧ (9007199254740991 < b) = True) := by
    by_cases h1 : a < 0
    · exact .inl (eq_true h1)
    by_cases h2 : b < 0
    · exact .inr (.inl ⟨eq_false h1, eq_true h2⟩)
    by_cases h3 : 9007199254740991 < a
    · exact .inr (.inr (.inl ⟨eq_false h1, eq_false h2, eq_true h3⟩))
    · exact .inr (.inr (.inr ⟨eq_false h1, eq_false h2, eq_false h3, eq_true (by omega)⟩))
  clear h
  rcases hways with h1 | ⟨h1, h2⟩ | ⟨h1, h2, h3⟩ | ⟨h1, h2, h3, h4⟩
  all_goals
    go_enter Try.func6, Try.ntmps6
    go_wp2_with fail
    refine (lives10 _).mono ?_
    rintro e W3 ⟨rfl, hb⟩
    have F3 := Lib.hid hb
    clear hb
    go_wp2_with fail
    go_ret
    exact ⟨rfl, F3.out⟩
end Go.Proofs.Ytfmehahjjgalfaa.Tim
