/- lives of chapter 23. -/
import Derived.Test.YtfmehahjjgalfaaDk
namespace Go.Proofs.Ytfmehahjjgalfaa
open Go.RowKit

def q1 : Ov := ⟨1, 167837696, 16, 2, 9⟩
def q2 : Ov := ⟨1, 167903232, 16, 2, 5⟩
def q7 : Ov := ⟨1, 168230912, 16, 2, 1⟩
def qz : Ov := ⟨0, 0, 40, 0, 0⟩
def k1 : PK := (167837696, 16)
theorem lE2 : setE [] q2 = 0 := by decide
theorem lE1 : setE [q2] q1 = 0 := by decide
theorem lEz : setE [q1, q2] qz = 20 := by decide
theorem lE7 : setE [] q7 = 0 := by decide
theorem lS2 : setO [] q2 = [q2] := by decide
theorem lS1 : setO [q2] q1 = [q1, q2] := by decide
theorem lS7 : setO [] q7 = [q7] := by decide
theorem lX5 : [q1, q2].filter (tillP 5) = [] := by decide
theorem lX5n : ([q1, q2].filter fun y => !tillP 5 y) = [q1, q2] := by decide
theorem lX6 : [q1, q2].filter (tillP 6) = [q2] := by decide
theorem lX6n : ([q1, q2].filter fun y => !tillP 6 y) = [q1] := by decide
theorem lG : getO [q1] k1 = q1 := by decide
theorem lH : hasO [q1] k1 = true := by decide
theorem lD : ([q1].filter fun y => decide (y.key ≠ k1)) = [] := by decide
theorem lH0 : hasO [] k1 = false := by decide
theorem lD0 : (([] : List Ov).filter fun y => decide (y.key ≠ k1)) = [] := rfl
theorem okK {a : Nat} {n : Int} (h1 : a < 4294967296) (h2 : -9223372036854775808 ≤ n ∧ n ≤ 9223372036854775807) : PN.ok (a, n) := ⟨wfU ⟨by show (0 : Int) ≤ ((a : Nat) : Int); omega, by show ((a : Nat) : Int) ≤ 4294967295; omega⟩, wfI h2⟩
theorem rowO {w : World} {b : Nat} {cs : Array Value} {T : TypeId} {fr : Nat × Nat} {L : List Ov} (h : w.heap[b]? = some (.cells cs T fr)) (hcs : cs.toList = ROv.flat L) (hl : L.length ≤ 256) : ROv.Sl w (some ⟨b, 0, none⟩) L.length L.length L :=
  ⟨rfl, by unfold maxLen; omega, fun _ => ⟨b, 0, rfl, lt_of_blk h, fun i hi j hj => by
    rw [Nat.zero_add]
    have hl : i * ROv.k + j < L.length * ROv.k := Rep.mul_lt hi hj
    have hlen : cs.size = L.length * ROv.k := by rw [← ROv.flat_length, ← hcs]; rfl
    have hs : i * ROv.k + j < cs.size := by omega
    rw [cell_of h (Array.getElem?_eq_getElem hs), ← ROv.flat_get L i j hi hj, ← hcs, Array.getElem?_toList, Array.getElem?_eq_getElem hs]⟩⟩
set_option maxRecDepth 100000 in
set_option maxHeartbeats 8000000 in
theorem lives23 (w : World) : Calls Try.prog 31 #[] w fun e w' => e = .returned (.bool true) ∧ Below w.heap.size w w' := by
  go_enter Try.func31, Try.ntmps31
  go_wp2_with fail
  refine (tnew_any _).mono ?_
  rintro e W1 ⟨t, bm, rfl, hT, hb, ht0, hm0⟩
  have HBM := Lib.hid (And.intro hm0 (And.intro hT.lt.2.1 ht0))
  have F0 := Lib.hid (And.intro hb (And.intro hT (Nat.le_refl W1.heap.size)))
  clear hT hb ht0 hm0
  go_wp2_with fail
  refine (one2 5 _).mono ?_
  rintro e W2 ⟨rfl, hb⟩
  have F1 := Lib.hid (And.intro (bcall F0.out.1 (Nat.le_refl _) hb) (And.intro (F0.out.2.1.keep hb) ((Nat.le_trans F0.out.2.2 (Below.size hb)))))
  clear F0
  clear hb
  go_wp2_with fail
  refine (tset_any F1.out.2.1 (o := q2) (by decide) (okK (by decide) (by decide))).mono ?_
  rintro e W3 ⟨rfl, hs⟩
  have htab := hs.tab
  have hbt := hs.but
  clear hs
  rw [if_pos lE2, lS2] at htab
  rw [lE2]
  have F2 := Lib.hid (And.intro (Below.step F1.out.1 F1.out.1.size hbt (by simp; exact HBM.out.1)) (And.intro htab ((Nat.le_trans F1.out.2.2 (But.size hbt)))))
  clear F1
  clear htab hbt
  go_wp2_with fail
  refine (one1 9 _).mono ?_
  rintro e W4 ⟨rfl, hb⟩
  have F3 := Lib.hid (And.intro (bcall F2.out.1 (Nat.le_refl _) hb) (And.intro (F2.out.2.1.keep hb) ((Nat.le_trans F2.out.2.2 (Below.size hb)))))
  clear F2
  clear hb
  go_wp2_with fail
  refine (tset_any F3.out.2.1 (o := q1) (by decide) (okK (by decide) (by decide))).mono ?_
  rintro e W5 ⟨rfl, hs⟩
  have htab := hs.tab
  have hbt := hs.but
  clear hs
  rw [if_pos lE1, lS1] at htab
  rw [lE1]
  have F4 := Lib.hid (And.intro (Below.step F3.out.1 F3.out.1.size hbt (by simp; exact HBM.out.1)) (And.intro htab ((Nat.le_trans F3.out.2.2 (But.size hbt)))))
  clear F3
  clear htab hbt
  go_wp2_with fail
  refine (tset_any F4.out.2.1 (o := qz) (by decide) (okK (by decide) (by decide))).mono ?_
  rintro e W6 ⟨rfl, hs⟩
  have htab := hs.tab
  have hbt := hs.but
  clear hs
  rw [if_neg (by rw [lEz]; decide)] at htab
  rw [lEz]
  have F5 := Lib.hid (And.intro (Below.step F4.out.1 F4.out.1.size hbt (by simp; exact HBM.out.1)) (And.intro htab ((Nat.le_trans F4.out.2.2 (But.size hbt)))))
  clear F4
  clear htab hbt
  go_wp2_with fail
  refine (tall_any F5.out.2.1 (by decide)).mono ?_
  rintro e W7 ⟨v, rfl, hown, hb⟩
  obtain ⟨aA, cA, rfl, -, -⟩ := hown.sl0
  rw [show ([q1, q2] : List Ov).length = 2 from rfl] at hown ⊢
  have hown2 := hown.mono F5.out.2.2
  have F6 := Lib.hid (And.intro (bcall F5.out.1 (Nat.le_refl _) hb) (And.intro (F5.out.2.1.keep hb) (And.intro (Nat.le_trans F5.out.2.2 (Below.size hb)) (hown2))))
  clear F5
  clear hb hown hown2
  go_wp2_with fail
  refine (texp_any F6.out.2.1 (by decide) 5).mono ?_
  rintro e W8 ⟨v, rfl, hx⟩
  have htab := hx.tab
  have hown := hx.own
  have hbt := hx.but
  rw [lX5n] at htab
  rw [lX5] at hown
  have hown2 := hown.mono F6.out.2.2.1
  obtain ⟨aP5, cP5, rfl, -, -⟩ := hown.sl0
  rw [show (([] : List Ov)).length = 0 from rfl] at hown2 ⊢
  have F7 := Lib.hid (And.intro (Below.step F6.out.1 F6.out.1.size hbt (by simp; exact HBM.out.1)) (And.intro htab (And.intro (Nat.le_trans F6.out.2.2.1 (But.size hbt)) (And.intro (Rep.Own.but F6.out.2.2.2 hbt (by simp; exact HBM.out.2.1)) (hown2)))))
  clear F6
  clear hx htab hown hbt hown2
  go_wp2_with fail
  refine (texp_any F7.out.2.1 (by decide) 6).mono ?_
  rintro e W9 ⟨v, rfl, hx⟩
  have htab := hx.tab
  have hown := hx.own
  have hbt := hx.but
  rw [lX6n] at htab
  rw [lX6] at hown
  have hown2 := hown.mono F7.out.2.2.1
  obtain ⟨aP6, cP6, rfl, -, -⟩ := hown.sl0
  rw [show (([q2] : List Ov)).length = 1 from rfl] at hown2 ⊢
  have F8 := Lib.hid (And.intro (Below.step F7.out.1 F7.out.1.size hbt (by simp; exact HBM.out.1)) (And.intro htab (And.intro (Nat.le_trans F7.out.2.2.1 (But.size hbt)) (And.intro (Rep.Own.but F7.out.2.2.2.1 hbt (by simp; exact HBM.out.2.1)) (And.intro (Rep.Own.but F7.out.2.2.2.2 hbt (by simp; exact HBM.out.2.1)) (hown2))))))
  clear F7
  clear hx htab hown hbt hown2
  go_wp2_with fail
  refine (ten1 _).mono ?_
  rintro e W10 ⟨rfl, hb⟩
  have F9 := Lib.hid (And.intro (bcall F8.out.1 (Nat.le_refl _) hb) (And.intro (F8.out.2.1.keep hb) (And.intro (Nat.le_trans F8.out.2.2.1 (Below.size hb)) (And.intro (F8.out.2.2.2.1.below hb) (And.intro (F8.out.2.2.2.2.1.below hb) ((F8.out.2.2.2.2.2.below hb)))))))
  clear F8
  clear hb
  go_wp2_with fail
  have hg := tget_any F9.out.2.1 (k := k1) (okK (by decide) (by decide))
  rw [lG, lH] at hg
  refine hg.mono ?_
  rintro e W11 ⟨rfl, hb⟩
  clear hg
  rw [show q1.v = .agg #[.int .i64 1, .int .u32 167837696, .int .i64 16, .int .i64 2, .int .i64 9] from rfl]
  have hal := (Below.refl W11.heap.size W11).alloc (Nat.le_refl _) (.cells #[.int .i64 1, .int .u32 167837696, .int .i64 16, .int .i64 2, .int .i64 9] 62)
  have hc8 : OvS W11.heap.size q1 (W11.alloc (.cells #[.int .i64 1, .int .u32 167837696, .int .i64 16, .int .i64 2, .int .i64 9] 62)) := hnew _ _
  have hbb := bcall hb (Nat.le_refl _) hal
  have HC8 := Lib.hid (show W11.heap.size ≠ bm from by have := HBM.out.2.1; have := F9.out.2.2.1; have := hb.size; omega)
  have F10 := Lib.hid (And.intro (bcall F9.out.1 (Nat.le_refl _) hbb) (And.intro (F9.out.2.1.keep hbb) (And.intro (Nat.le_trans F9.out.2.2.1 (Below.size hbb)) (And.intro (F9.out.2.2.2.1.below hbb) (And.intro (F9.out.2.2.2.2.1.below hbb) (And.intro (F9.out.2.2.2.2.2.below hbb) (hc8)))))))
  clear F9
  clear hb hal hc8 hbb
  go_wp2_with fail
  generalize W11.alloc (.cells #[.int .i64 1, .int .u32 167837696, .int .i64 16, .int .i64 2, .int .i64 9] 62) = W12 at *
  generalize W11.heap.size = q8 at *
  refine (ten1 _).mono ?_
  rintro e W13 ⟨rfl, hb⟩
  have F11 := Lib.hid (And.intro (bcall F10.out.1 (Nat.le_refl _) hb) (And.intro (F10.out.2.1.keep hb) (And.intro (Nat.le_trans F10.out.2.2.1 (Below.size hb)) (And.intro (F10.out.2.2.2.1.below hb) (And.intro (F10.out.2.2.2.2.1.below hb) (And.intro (F10.out.2.2.2.2.2.1.below hb) ((OvS.on F10.out.2.2.2.2.2.2 (hb.block _ (lt_of_blk F10.out.2.2.2.2.2.2))))))))))
  clear F10
  clear hb
  go_wp2_with fail
  refine (tdel_any F11.out.2.1 (k := k1) (okK (by decide) (by decide))).mono ?_
  rintro e W14 ⟨rfl, hs⟩
  have htab := hs.tab
  have hbt := hs.but
  clear hs
  rw [lD] at htab
  rw [lH]
  have F12 := Lib.hid (And.intro (Below.step F11.out.1 F11.out.1.size hbt (by simp; exact HBM.out.1)) (And.intro htab (And.intro (Nat.le_trans F11.out.2.2.1 (But.size hbt)) (And.intro (Rep.Own.but F11.out.2.2.2.1 hbt (by simp; exact HBM.out.2.1)) (And.intro (Rep.Own.but F11.out.2.2.2.2.1 hbt (by simp; exact HBM.out.2.1)) (And.intro (Rep.Own.but F11.out.2.2.2.2.2.1 hbt (by simp; exact HBM.out.2.1)) ((OvS.on F11.out.2.2.2.2.2.2 (hbt.block _ (lt_of_blk F11.out.2.2.2.2.2.2) (by simp; exact HC8.out))))))))))
  clear F11
  clear htab hbt
  go_wp2_with fail
  refine (ten1 _).mono ?_
  rintro e W15 ⟨rfl, hb⟩
  have F13 := Lib.hid (And.intro (bcall F12.out.1 (Nat.le_refl _) hb) (And.intro (F12.out.2.1.keep hb) (And.intro (Nat.le_trans F12.out.2.2.1 (Below.size hb)) (And.intro (F12.out.2.2.2.1.below hb) (And.intro (F12.out.2.2.2.2.1.below hb) (And.intro (F12.out.2.2.2.2.2.1.below hb) ((OvS.on F12.out.2.2.2.2.2.2 (hb.block _ (lt_of_blk F12.out.2.2.2.2.2.2))))))))))
  clear F12
  clear hb
  go_wp2_with fail
  refine (tdel_any F13.out.2.1 (k := k1) (okK (by decide) (by decide))).mono ?_
  rintro e W16 ⟨rfl, hs⟩
  have htab := hs.tab
  have hbt := hs.but
  clear hs
  rw [lD0] at htab
  rw [lH0]
  have F14 := Lib.hid (And.intro (Below.step F13.out.1 F13.out.1.size hbt (by simp; exact HBM.out.1)) (And.intro htab (And.intro (Nat.le_trans F13.out.2.2.1 (But.size hbt)) (And.intro (Rep.Own.but F13.out.2.2.2.1 hbt (by simp; exact HBM.out.2.1)) (And.intro (Rep.Own.but F13.out.2.2.2.2.1 hbt (by simp; exact HBM.out.2.1)) (And.intro (Rep.Own.but F13.out.2.2.2.2.2.1 hbt (by simp; exact HBM.out.2.1)) ((OvS.on F13.out.2.2.2.2.2.2 (hbt.block _ (lt_of_blk F13.out.2.2.2.2.2.2) (by simp; exact HC8.out))))))))))
  clear F13
  clear htab hbt
  go_wp2_with fail
  refine (one7 1 _).mono ?_
  rintro e W17 ⟨rfl, hb⟩
  have F15 := Lib.hid (And.intro (bcall F14.out.1 (Nat.le_refl _) hb) (And.intro (F14.out.2.1.keep hb) (And.intro (Nat.le_trans F14.out.2.2.1 (Below.size hb)) (And.intro (F14.out.2.2.2.1.below hb) (And.intro (F14.out.2.2.2.2.1.below hb) (And.intro (F14.out.2.2.2.2.2.1.below hb) ((OvS.on F14.out.2.2.2.2.2.2 (hb.block _ (lt_of_blk F14.out.2.2.2.2.2.2))))))))))
  clear F14
  clear hb
  go_wp2_with fail
  refine (tset_any F15.out.2.1 (o := q7) (by decide) (okK (by decide) (by decide))).mono ?_
  rintro e W18 ⟨rfl, hs⟩
  have htab := hs.tab
  have hbt := hs.but
  clear hs
  rw [if_pos lE7, lS7] at htab
  rw [lE7]
  have F16 := Lib.hid (And.intro (Below.step F15.out.1 F15.out.1.size hbt (by simp; exact HBM.out.1)) (And.intro htab (And.intro (Nat.le_trans F15.out.2.2.1 (But.size hbt)) (And.intro (Rep.Own.but F15.out.2.2.2.1 hbt (by simp; exact HBM.out.2.1)) (And.intro (Rep.Own.but F15.out.2.2.2.2.1 hbt (by simp; exact HBM.out.2.1)) (And.intro (Rep.Own.but F15.out.2.2.2.2.2.1 hbt (by simp; exact HBM.out.2.1)) ((OvS.on F15.out.2.2.2.2.2.2 (hbt.block _ (lt_of_blk F15.out.2.2.2.2.2.2) (by simp; exact HC8.out))))))))))
  clear F15
  clear htab hbt
  go_wp2_with fail
  refine (tclr_any F16.out.2.1 (by decide)).mono ?_
  rintro e W19 ⟨v, rfl, hx⟩
  have htab := hx.tab
  have hown := hx.own
  have hbt := hx.but
  have hown2 := hown.mono F16.out.2.2.1
  obtain ⟨aP7, cP7, rfl, -, -⟩ := hown.sl0
  rw [show ([q7] : List Ov).length = 1 from rfl] at hown2 ⊢
  have F17 := Lib.hid (And.intro (Below.step F16.out.1 F16.out.1.size hbt (by simp; exact HBM.out.1)) (And.intro htab (And.intro (Nat.le_trans F16.out.2.2.1 (But.size hbt)) (And.intro (Rep.Own.but F16.out.2.2.2.1 hbt (by simp; exact HBM.out.2.1)) (And.intro (Rep.Own.but F16.out.2.2.2.2.1 hbt (by simp; exact HBM.out.2.1)) (And.intro (Rep.Own.but F16.out.2.2.2.2.2.1 hbt (by simp; exact HBM.out.2.1)) (And.intro (OvS.on F16.out.2.2.2.2.2.2 (hbt.block _ (lt_of_blk F16.out.2.2.2.2.2.2) (by simp; exact HC8.out))) (hown2))))))))
  clear F16
  clear hx htab hown hbt hown2
  go_wp2_with fail
  refine wp_region_heldP (OvS q8 q1) (by kernel_rfl) ?_
  have hd := (Below.refl W19.heap.size W19).drew
  have F18 := Lib.hid (And.intro (bcall F17.out.1 (Nat.le_refl _) hd) (And.intro (F17.out.2.1.keep hd) (And.intro (Nat.le_trans F17.out.2.2.1 (Below.size hd)) (And.intro (F17.out.2.2.2.1.below hd) (And.intro (F17.out.2.2.2.2.1.below hd) (And.intro (F17.out.2.2.2.2.2.1.below hd) (And.intro (OvS.on F17.out.2.2.2.2.2.2.1 (hd.block _ (lt_of_blk F17.out.2.2.2.2.2.2.1))) ((F17.out.2.2.2.2.2.2.2.below hd)))))))))
  clear F17
  clear hd
  generalize W19.drew = W20 at *
  refine held_reads [0, 1, 2, 3, 4, 5, 6, 7, 8, 9, 10, 11] (g := 43) rfl (by kernel_rfl) F18.out.2.2.2.2.2.2.1 (fun _ _ d _ _ h => by cases d <;> exact h) ?_
  simp only [pick, List.getD_cons_zero, List.getD_cons_succ]
  ((with_reducible refine wpRead_step (fun K hK => ?_)); go_simp; first | ((with_reducible refine hK _ ?_); clear hK K) | (apply Exists.intro; (with_reducible refine ⟨fun w' hw' => ?_, hK _ ?_⟩); (first | exact rfl | exact ⟨rfl, rfl⟩); clear hK K))
  ((with_reducible refine wpRead_step (fun K hK => ?_)); go_simp; first | ((with_reducible refine hK _ ?_); clear hK K) | (apply Exists.intro; (with_reducible refine ⟨fun w' hw' => ?_, hK _ ?_⟩); (first | exact rfl | exact ⟨rfl, rfl⟩); clear hK K))
  ((with_reducible refine wpRead_step (fun K hK => ?_)); go_simp; first | ((with_reducible refine hK _ ?_); clear hK K) | (apply Exists.intro; (with_reducible refine ⟨fun w' hw' => ?_, hK _ ?_⟩); (first | exact rfl | exact ⟨rfl, rfl⟩); clear hK K))
  ((with_reducible refine wpRead_step (fun K hK => ?_)); go_simp; first | ((with_reducible refine hK _ ?_); clear hK K) | (apply Exists.intro; (with_reducible refine ⟨fun w' hw' => ?_, hK _ ?_⟩); (first | exact rfl | exact ⟨rfl, rfl⟩); clear hK K))
  ((with_reducible refine wpRead_step (fun K hK => ?_)); go_simp; first | ((with_reducible refine hK _ ?_); clear hK K) | (apply Exists.intro; (with_reducible refine ⟨fun w' hw' => ?_, hK _ ?_⟩); (first | exact rfl | exact ⟨rfl, rfl⟩); clear hK K))
  ((with_reducible refine wpRead_step (fun K hK => ?_)); go_simp; first | ((with_reducible refine hK _ ?_); clear hK K) | (apply Exists.intro; (with_reducible refine ⟨fun w' hw' => ?_, hK _ ?_⟩); (first | exact rfl | exact ⟨rfl, rfl⟩); clear hK K))
  ((with_reducible refine wpRead_step (fun K hK => ?_)); go_simp; first | ((with_reducible refine hK _ ?_); clear hK K) | (apply Exists.intro; (with_reducible refine ⟨fun w' hw' => ?_, hK _ ?_⟩); (first | exact rfl | exact ⟨rfl, rfl⟩); clear hK K))
  ((with_reducible refine wpRead_step (fun K hK => ?_)); go_simp; first | ((with_reducible refine hK _ ?_); clear hK K) | (apply Exists.intro; (with_reducible refine ⟨fun w' hw' => ?_, hK _ ?_⟩); (first | exact rfl | exact ⟨rfl, rfl⟩); clear hK K))
  ((with_reducible refine wpRead_step (fun K hK => ?_)); go_simp; first | ((with_reducible refine hK _ ?_); clear hK K) | (apply Exists.intro; (with_reducible refine ⟨fun w' hw' => ?_, hK _ ?_⟩); (first | exact rfl | exact ⟨rfl, rfl⟩); clear hK K))
  ((with_reducible refine wpRead_step (fun K hK => ?_)); go_simp; first | ((with_reducible refine hK _ ?_); clear hK K) | (apply Exists.intro; (with_reducible refine ⟨fun w' hw' => ?_, hK _ ?_⟩); (first | exact rfl | exact ⟨rfl, rfl⟩); clear hK K))
  ((with_reducible refine wpRead_step (fun K hK => ?_)); go_simp; first | ((with_reducible refine hK _ ?_); clear hK K) | (apply Exists.intro; (with_reducible refine ⟨fun w' hw' => ?_, hK _ ?_⟩); (first | exact rfl | exact ⟨rfl, rfl⟩); clear hK K))
  ((with_reducible refine wpRead_step (fun K hK => ?_)); go_simp; first | ((with_reducible refine hK _ ?_); clear hK K) | (apply Exists.intro; (with_reducible refine ⟨fun w' hw' => ?_, hK _ ?_⟩); (first | exact rfl | exact ⟨rfl, rfl⟩); clear hK K))
  with_reducible refine wpRead_nil ?_
  refine held_one 12 (by kernel_rfl) ?_
  simp only [pick, List.getD_cons_zero, List.getD_cons_succ]
  go_wp2_with fail
  refine (one1 9 _).mono ?_
  rintro e W21 ⟨rfl, hb⟩
  have F19 := Lib.hid (And.intro (bcall F18.out.1 (Nat.le_refl _) hb) (And.intro (F18.out.2.1.keep hb) (And.intro (Nat.le_trans F18.out.2.2.1 (Below.size hb)) (And.intro (F18.out.2.2.2.1.below hb) (And.intro (F18.out.2.2.2.2.1.below hb) (And.intro (F18.out.2.2.2.2.2.1.below hb) (And.intro (OvS.on F18.out.2.2.2.2.2.2.1 (hb.block _ (lt_of_blk F18.out.2.2.2.2.2.2.1))) ((F18.out.2.2.2.2.2.2.2.below hb)))))))))
  clear F18
  clear hb
  go_wp2_with fail
  refine ⟨F19.out.2.2.2.2.2.2.1, ?_⟩
  refine held_one 13 (by kernel_rfl) ?_
  simp only [pick, List.getD_cons_zero, List.getD_cons_succ]
  go_wp2_with fail
  refine (one2 5 _).mono ?_
  rintro e W22 ⟨rfl, hb⟩
  have F20 := Lib.hid (And.intro (bcall F19.out.1 (Nat.le_refl _) hb) (And.intro (F19.out.2.1.keep hb) (And.intro (Nat.le_trans F19.out.2.2.1 (Below.size hb)) (And.intro (F19.out.2.2.2.1.below hb) (And.intro (F19.out.2.2.2.2.1.below hb) (And.intro (F19.out.2.2.2.2.2.1.below hb) (And.intro (OvS.on F19.out.2.2.2.2.2.2.1 (hb.block _ (lt_of_blk F19.out.2.2.2.2.2.2.1))) ((F19.out.2.2.2.2.2.2.2.below hb)))))))))
  clear F19
  clear hb
  go_wp2_with fail
  refine ⟨F20.out.2.2.2.2.2.2.1, ?_⟩
  have hal := (Below.refl W22.heap.size W22).alloc (Nat.le_refl _) (.cells #[.int .i64 1, .int .u32 167837696, .int .i64 16, .int .i64 2, .int .i64 9, .int .i64 1, .int .u32 167903232, .int .i64 16, .int .i64 2, .int .i64 5] 62)
  have hsl : ROv.Sl (W22.alloc (.cells #[.int .i64 1, .int .u32 167837696, .int .i64 16, .int .i64 2, .int .i64 9, .int .i64 1, .int .u32 167903232, .int .i64 16, .int .i64 2, .int .i64 5] 62)) (some ⟨W22.heap.size, 0, none⟩) 2 2 [q1, q2] := rowO (L := [q1, q2]) (hnew _ _) rfl (by decide)
  have HB1 := Lib.hid hsl
  have F21 := Lib.hid (And.intro (bcall F20.out.1 (Nat.le_refl _) hal) (And.intro (F20.out.2.1.keep hal) (And.intro (Nat.le_trans F20.out.2.2.1 (Below.size hal)) (And.intro (F20.out.2.2.2.1.below hal) (And.intro (F20.out.2.2.2.2.1.below hal) (And.intro (F20.out.2.2.2.2.2.1.below hal) (And.intro (OvS.on F20.out.2.2.2.2.2.2.1 (hal.block _ (lt_of_blk F20.out.2.2.2.2.2.2.1))) ((F20.out.2.2.2.2.2.2.2.below hal)))))))))
  clear F20
  clear hal hsl
  refine held_one 14 (by kernel_rfl) ?_
  simp only [pick, List.getD_cons_zero, List.getD_cons_succ]
  go_wp2_with fail
  generalize W22.alloc (.cells #[.int .i64 1, .int .u32 167837696, .int .i64 16, .int .i64 2, .int .i64 9, .int .i64 1, .int .u32 167903232, .int .i64 16, .int .i64 2, .int .i64 5] 62) = W23 at *
  generalize W22.heap.size = rB1 at *
  refine ⟨F21.out.2.2.2.2.2.2.1, ?_⟩
  obtain ⟨aa, cc, ee, hs0, -⟩ := F21.out.2.2.2.1.sl0
  rw [show ([q1, q2] : List Ov).length = 2 from rfl] at ee hs0
  injection ee with e1 e2 e3
  subst e1 e3
  have HS := Lib.hid hs0
  clear hs0 e2
  refine held_one 15 (by kernel_rfl) ?_
  simp only [pick, List.getD_cons_zero, List.getD_cons_succ]
  go_wp2_with fail
  refine (rtsame HS.out HB1.out).mono ?_
  rintro e W24 ⟨rfl, hb⟩
  have F22 := Lib.hid (And.intro (bcall F21.out.1 (Nat.le_refl _) hb) (And.intro (F21.out.2.1.keep hb) (And.intro (Nat.le_trans F21.out.2.2.1 (Below.size hb)) (And.intro (F21.out.2.2.2.1.below hb) (And.intro (F21.out.2.2.2.2.1.below hb) (And.intro (F21.out.2.2.2.2.2.1.below hb) (And.intro (OvS.on F21.out.2.2.2.2.2.2.1 (hb.block _ (lt_of_blk F21.out.2.2.2.2.2.2.1))) ((F21.out.2.2.2.2.2.2.2.below hb)))))))))
  clear F21
  clear hb
  go_wp2_with fail
  refine ⟨F22.out.2.2.2.2.2.2.1, ?_⟩
  clear HS
  refine held_reads [16, 17, 18, 19, 20, 21, 22, 23] (g := 31) rfl (by kernel_rfl) F22.out.2.2.2.2.2.2.1 (fun _ _ d _ _ h => by cases d <;> exact h) ?_
  simp only [pick, List.getD_cons_zero, List.getD_cons_succ]
  ((with_reducible refine wpRead_step (fun K hK => ?_)); go_simp; first | ((with_reducible refine hK _ ?_); clear hK K) | (apply Exists.intro; (with_reducible refine ⟨fun w' hw' => ?_, hK _ ?_⟩); (first | exact rfl | exact ⟨rfl, rfl⟩); clear hK K))
  ((with_reducible refine wpRead_step (fun K hK => ?_)); go_simp; first | ((with_reducible refine hK _ ?_); clear hK K) | (apply Exists.intro; (with_reducible refine ⟨fun w' hw' => ?_, hK _ ?_⟩); (first | exact rfl | exact ⟨rfl, rfl⟩); clear hK K))
  ((with_reducible refine wpRead_step (fun K hK => ?_)); go_simp; first | ((with_reducible refine hK _ ?_); clear hK K) | (apply Exists.intro; (with_reducible refine ⟨fun w' hw' => ?_, hK _ ?_⟩); (first | exact rfl | exact ⟨rfl, rfl⟩); clear hK K))
  ((with_reducible refine wpRead_step (fun K hK => ?_)); go_simp; first | ((with_reducible refine hK _ ?_); clear hK K) | (apply Exists.intro; (with_reducible refine ⟨fun w' hw' => ?_, hK _ ?_⟩); (first | exact rfl | exact ⟨rfl, rfl⟩); clear hK K))
  ((with_reducible refine wpRead_step (fun K hK => ?_)); go_simp; first | ((with_reducible refine hK _ ?_); clear hK K) | (apply Exists.intro; (with_reducible refine ⟨fun w' hw' => ?_, hK _ ?_⟩); (first | exact rfl | exact ⟨rfl, rfl⟩); clear hK K))
  ((with_reducible refine wpRead_step (fun K hK => ?_)); go_simp; first | ((with_reducible refine hK _ ?_); clear hK K) | (apply Exists.intro; (with_reducible refine ⟨fun w' hw' => ?_, hK _ ?_⟩); (first | exact rfl | exact ⟨rfl, rfl⟩); clear hK K))
  ((with_reducible refine wpRead_step (fun K hK => ?_)); go_simp; first | ((with_reducible refine hK _ ?_); clear hK K) | (apply Exists.intro; (with_reducible refine ⟨fun w' hw' => ?_, hK _ ?_⟩); (first | exact rfl | exact ⟨rfl, rfl⟩); clear hK K))
  ((with_reducible refine wpRead_step (fun K hK => ?_)); go_simp; first | ((with_reducible refine hK _ ?_); clear hK K) | (apply Exists.intro; (with_reducible refine ⟨fun w' hw' => ?_, hK _ ?_⟩); (first | exact rfl | exact ⟨rfl, rfl⟩); clear hK K))
  with_reducible refine wpRead_nil ?_
  refine held_one 24 (by kernel_rfl) ?_
  simp only [pick, List.getD_cons_zero, List.getD_cons_succ]
  go_wp2_with fail
  refine (one2 5 _).mono ?_
  rintro e W25 ⟨rfl, hb⟩
  have F23 := Lib.hid (And.intro (bcall F22.out.1 (Nat.le_refl _) hb) (And.intro (F22.out.2.1.keep hb) (And.intro (Nat.le_trans F22.out.2.2.1 (Below.size hb)) (And.intro (F22.out.2.2.2.1.below hb) (And.intro (F22.out.2.2.2.2.1.below hb) (And.intro (F22.out.2.2.2.2.2.1.below hb) (And.intro (OvS.on F22.out.2.2.2.2.2.2.1 (hb.block _ (lt_of_blk F22.out.2.2.2.2.2.2.1))) ((F22.out.2.2.2.2.2.2.2.below hb)))))))))
  clear F22
  clear hb
  go_wp2_with fail
  refine ⟨F23.out.2.2.2.2.2.2.1, ?_⟩
  have hal := (Below.refl W25.heap.size W25).alloc (Nat.le_refl _) (.cells #[.int .i64 1, .int .u32 167903232, .int .i64 16, .int .i64 2, .int .i64 5] 62)
  have hsl : ROv.Sl (W25.alloc (.cells #[.int .i64 1, .int .u32 167903232, .int .i64 16, .int .i64 2, .int .i64 5] 62)) (some ⟨W25.heap.size, 0, none⟩) 1 1 [q2] := rowO (L := [q2]) (hnew _ _) rfl (by decide)
  have HB2 := Lib.hid hsl
  have F24 := Lib.hid (And.intro (bcall F23.out.1 (Nat.le_refl _) hal) (And.intro (F23.out.2.1.keep hal) (And.intro (Nat.le_trans F23.out.2.2.1 (Below.size hal)) (And.intro (F23.out.2.2.2.1.below hal) (And.intro (F23.out.2.2.2.2.1.below hal) (And.intro (F23.out.2.2.2.2.2.1.below hal) (And.intro (OvS.on F23.out.2.2.2.2.2.2.1 (hal.block _ (lt_of_blk F23.out.2.2.2.2.2.2.1))) ((F23.out.2.2.2.2.2.2.2.below hal)))))))))
  clear F23
  clear hal hsl
  refine held_one 25 (by kernel_rfl) ?_
  simp only [pick, List.getD_cons_zero, List.getD_cons_succ]
  go_wp2_with fail
  generalize W25.alloc (.cells #[.int .i64 1, .int .u32 167903232, .int .i64 16, .int .i64 2, .int .i64 5] 62) = W26 at *
  generalize W25.heap.size = rB2 at *
  refine ⟨F24.out.2.2.2.2.2.2.1, ?_⟩
  obtain ⟨aa, cc, ee, hs0, -⟩ := F24.out.2.2.2.2.2.1.sl0
  rw [show ([q2] : List Ov).length = 1 from rfl] at ee hs0
  injection ee with e1 e2 e3
  subst e1 e3
  have HS := Lib.hid hs0
  clear hs0 e2
  refine held_one 26 (by kernel_rfl) ?_
  simp only [pick, List.getD_cons_zero, List.getD_cons_succ]
  go_wp2_with fail
  refine (rtsame HS.out HB2.out).mono ?_
  rintro e W27 ⟨rfl, hb⟩
  have F25 := Lib.hid (And.intro (bcall F24.out.1 (Nat.le_refl _) hb) (And.intro (F24.out.2.1.keep hb) (And.intro (Nat.le_trans F24.out.2.2.1 (Below.size hb)) (And.intro (F24.out.2.2.2.1.below hb) (And.intro (F24.out.2.2.2.2.1.below hb) (And.intro (F24.out.2.2.2.2.2.1.below hb) (And.intro (OvS.on F24.out.2.2.2.2.2.2.1 (hb.block _ (lt_of_blk F24.out.2.2.2.2.2.2.1))) ((F24.out.2.2.2.2.2.2.2.below hb)))))))))
  clear F24
  clear hb
  go_wp2_with fail
  refine ⟨F25.out.2.2.2.2.2.2.1, ?_⟩
  clear HS
  refine held_reads [27, 28, 29, 30, 31, 32] (g := 22) rfl (by kernel_rfl) F25.out.2.2.2.2.2.2.1 (fun _ _ d _ _ h => by cases d <;> exact h) ?_
  simp only [pick, List.getD_cons_zero, List.getD_cons_succ]
  ((with_reducible refine wpRead_step (fun K hK => ?_)); go_simp; first | ((with_reducible refine hK _ ?_); clear hK K) | (apply Exists.intro; (with_reducible refine ⟨fun w' hw' => ?_, hK _ ?_⟩); (first | exact rfl | exact ⟨rfl, rfl⟩); clear hK K))
  ((with_reducible refine wpRead_step (fun K hK => ?_)); go_simp; first | ((with_reducible refine hK _ ?_); clear hK K) | (apply Exists.intro; (with_reducible refine ⟨fun w' hw' => ?_, hK _ ?_⟩); (first | exact rfl | exact ⟨rfl, rfl⟩); clear hK K))
  ((with_reducible refine wpRead_step (fun K hK => ?_)); go_simp; first | ((with_reducible refine hK _ ?_); clear hK K) | (apply Exists.intro; (with_reducible refine ⟨fun w' hw' => ?_, hK _ ?_⟩); (first | exact rfl | exact ⟨rfl, rfl⟩); clear hK K))
  ((with_reducible refine wpRead_step (fun K hK => ?_)); go_simp; first | ((with_reducible refine hK _ ?_); clear hK K) | (apply Exists.intro; (with_reducible refine ⟨fun w' hw' => ?_, hK _ ?_⟩); (first | exact rfl | exact ⟨rfl, rfl⟩); clear hK K))
  ((with_reducible refine wpRead_step (fun K hK => ?_)); go_simp; first | ((with_reducible refine hK _ ?_); clear hK K) | (apply Exists.intro; (with_reducible refine ⟨fun w' hw' => ?_, hK _ ?_⟩); (first | exact rfl | exact ⟨rfl, rfl⟩); clear hK K))
  with_reducible refine wpRead_yes ?_ ?_
  rotate_left
  rfl
  intro K hK
  refine read_load 62 _ rfl q8 0 #[.int .i64 1, .int .u32 167837696, .int .i64 16, .int .i64 2, .int .i64 9] rfl (fun w' hw' => rangeAt_block hw' 0 _ rfl) Try.underlying62 rfl (by kernel_rfl) (hK _ ?_)
  clear hK K
  with_reducible refine wpRead_nil ?_
  refine held_one 33 (by kernel_rfl) ?_
  simp only [pick, List.getD_cons_zero, List.getD_cons_succ]
  go_wp2_with fail
  refine (one1 9 _).mono ?_
  rintro e W28 ⟨rfl, hb⟩
  have F26 := Lib.hid (And.intro (bcall F25.out.1 (Nat.le_refl _) hb) (And.intro (F25.out.2.1.keep hb) (And.intro (Nat.le_trans F25.out.2.2.1 (Below.size hb)) (And.intro (F25.out.2.2.2.1.below hb) (And.intro (F25.out.2.2.2.2.1.below hb) (And.intro (F25.out.2.2.2.2.2.1.below hb) (And.intro (OvS.on F25.out.2.2.2.2.2.2.1 (hb.block _ (lt_of_blk F25.out.2.2.2.2.2.2.1))) ((F25.out.2.2.2.2.2.2.2.below hb)))))))))
  clear F25
  clear hb
  go_wp2_with fail
  refine ⟨F26.out.2.2.2.2.2.2.1, ?_⟩
  refine held_reads [34, 35, 36, 37, 38, 39, 40, 41, 42, 43, 44] (g := 10) rfl (by kernel_rfl) F26.out.2.2.2.2.2.2.1 (fun _ _ d _ _ h => by cases d <;> exact h) ?_
  simp only [pick, List.getD_cons_zero, List.getD_cons_succ]
  ((with_reducible refine wpRead_step (fun K hK => ?_)); go_simp; first | ((with_reducible refine hK _ ?_); clear hK K) | (apply Exists.intro; (with_reducible refine ⟨fun w' hw' => ?_, hK _ ?_⟩); (first | exact rfl | exact ⟨rfl, rfl⟩); clear hK K))
  ((with_reducible refine wpRead_step (fun K hK => ?_)); go_simp; first | ((with_reducible refine hK _ ?_); clear hK K) | (apply Exists.intro; (with_reducible refine ⟨fun w' hw' => ?_, hK _ ?_⟩); (first | exact rfl | exact ⟨rfl, rfl⟩); clear hK K))
  ((with_reducible refine wpRead_step (fun K hK => ?_)); go_simp; first | ((with_reducible refine hK _ ?_); clear hK K) | (apply Exists.intro; (with_reducible refine ⟨fun w' hw' => ?_, hK _ ?_⟩); (first | exact rfl | exact ⟨rfl, rfl⟩); clear hK K))
  ((with_reducible refine wpRead_step (fun K hK => ?_)); go_simp; first | ((with_reducible refine hK _ ?_); clear hK K) | (apply Exists.intro; (with_reducible refine ⟨fun w' hw' => ?_, hK _ ?_⟩); (first | exact rfl | exact ⟨rfl, rfl⟩); clear hK K))
  ((with_reducible refine wpRead_step (fun K hK => ?_)); go_simp; first | ((with_reducible refine hK _ ?_); clear hK K) | (apply Exists.intro; (with_reducible refine ⟨fun w' hw' => ?_, hK _ ?_⟩); (first | exact rfl | exact ⟨rfl, rfl⟩); clear hK K))
  ((with_reducible refine wpRead_step (fun K hK => ?_)); go_simp; first | ((with_reducible refine hK _ ?_); clear hK K) | (apply Exists.intro; (with_reducible refine ⟨fun w' hw' => ?_, hK _ ?_⟩); (first | exact rfl | exact ⟨rfl, rfl⟩); clear hK K))
  ((with_reducible refine wpRead_step (fun K hK => ?_)); go_simp; first | ((with_reducible refine hK _ ?_); clear hK K) | (apply Exists.intro; (with_reducible refine ⟨fun w' hw' => ?_, hK _ ?_⟩); (first | exact rfl | exact ⟨rfl, rfl⟩); clear hK K))
  ((with_reducible refine wpRead_step (fun K hK => ?_)); go_simp; first | ((with_reducible refine hK _ ?_); clear hK K) | (apply Exists.intro; (with_reducible refine ⟨fun w' hw' => ?_, hK _ ?_⟩); (first | exact rfl | exact ⟨rfl, rfl⟩); clear hK K))
  ((with_reducible refine wpRead_step (fun K hK => ?_)); go_simp; first | ((with_reducible refine hK _ ?_); clear hK K) | (apply Exists.intro; (with_reducible refine ⟨fun w' hw' => ?_, hK _ ?_⟩); (first | exact rfl | exact ⟨rfl, rfl⟩); clear hK K))
  ((with_reducible refine wpRead_step (fun K hK => ?_)); go_simp; first | ((with_reducible refine hK _ ?_); clear hK K) | (apply Exists.intro; (with_reducible refine ⟨fun w' hw' => ?_, hK _ ?_⟩); (first | exact rfl | exact ⟨rfl, rfl⟩); clear hK K))
  ((with_reducible refine wpRead_step (fun K hK => ?_)); go_simp; first | ((with_reducible refine hK _ ?_); clear hK K) | (apply Exists.intro; (with_reducible refine ⟨fun w' hw' => ?_, hK _ ?_⟩); (first | exact rfl | exact ⟨rfl, rfl⟩); clear hK K))
  with_reducible refine wpRead_nil ?_
  refine held_one 45 (by kernel_rfl) ?_
  simp only [pick, List.getD_cons_zero, List.getD_cons_succ]
  go_wp2_with fail
  refine (one7 1 _).mono ?_
  rintro e W29 ⟨rfl, hb⟩
  have F27 := Lib.hid (And.intro (bcall F26.out.1 (Nat.le_refl _) hb) (And.intro (F26.out.2.1.keep hb) (And.intro (Nat.le_trans F26.out.2.2.1 (Below.size hb)) (And.intro (F26.out.2.2.2.1.below hb) (And.intro (F26.out.2.2.2.2.1.below hb) (And.intro (F26.out.2.2.2.2.2.1.below hb) (And.intro (OvS.on F26.out.2.2.2.2.2.2.1 (hb.block _ (lt_of_blk F26.out.2.2.2.2.2.2.1))) ((F26.out.2.2.2.2.2.2.2.below hb)))))))))
  clear F26
  clear hb
  go_wp2_with fail
  refine ⟨F27.out.2.2.2.2.2.2.1, ?_⟩
  have hal := (Below.refl W29.heap.size W29).alloc (Nat.le_refl _) (.cells #[.int .i64 1, .int .u32 168230912, .int .i64 16, .int .i64 2, .int .i64 1] 62)
  have hsl : ROv.Sl (W29.alloc (.cells #[.int .i64 1, .int .u32 168230912, .int .i64 16, .int .i64 2, .int .i64 1] 62)) (some ⟨W29.heap.size, 0, none⟩) 1 1 [q7] := rowO (L := [q7]) (hnew _ _) rfl (by decide)
  have HB3 := Lib.hid hsl
  have F28 := Lib.hid (And.intro (bcall F27.out.1 (Nat.le_refl _) hal) (And.intro (F27.out.2.1.keep hal) (And.intro (Nat.le_trans F27.out.2.2.1 (Below.size hal)) (And.intro (F27.out.2.2.2.1.below hal) (And.intro (F27.out.2.2.2.2.1.below hal) (And.intro (F27.out.2.2.2.2.2.1.below hal) (And.intro (OvS.on F27.out.2.2.2.2.2.2.1 (hal.block _ (lt_of_blk F27.out.2.2.2.2.2.2.1))) ((F27.out.2.2.2.2.2.2.2.below hal)))))))))
  clear F27
  clear hal hsl
  refine held_one 46 (by kernel_rfl) ?_
  simp only [pick, List.getD_cons_zero, List.getD_cons_succ]
  go_wp2_with fail
  generalize W29.alloc (.cells #[.int .i64 1, .int .u32 168230912, .int .i64 16, .int .i64 2, .int .i64 1] 62) = W30 at *
  generalize W29.heap.size = rB3 at *
  refine ⟨F28.out.2.2.2.2.2.2.1, ?_⟩
  obtain ⟨aa, cc, ee, hs0, -⟩ := F28.out.2.2.2.2.2.2.2.sl0
  rw [show ([q7] : List Ov).length = 1 from rfl] at ee hs0
  injection ee with e1 e2 e3
  subst e1 e3
  have HS := Lib.hid hs0
  clear hs0 e2
  refine held_one 47 (by kernel_rfl) ?_
  simp only [pick, List.getD_cons_zero, List.getD_cons_succ]
  go_wp2_with fail
  refine (rtsame HS.out HB3.out).mono ?_
  rintro e W31 ⟨rfl, hb⟩
  have F29 := Lib.hid (And.intro (bcall F28.out.1 (Nat.le_refl _) hb) (And.intro (F28.out.2.1.keep hb) (And.intro (Nat.le_trans F28.out.2.2.1 (Below.size hb)) (And.intro (F28.out.2.2.2.1.below hb) (And.intro (F28.out.2.2.2.2.1.below hb) (And.intro (F28.out.2.2.2.2.2.1.below hb) (And.intro (OvS.on F28.out.2.2.2.2.2.2.1 (hb.block _ (lt_of_blk F28.out.2.2.2.2.2.2.1))) ((F28.out.2.2.2.2.2.2.2.below hb)))))))))
  clear F28
  clear hb
  go_wp2_with fail
  refine ⟨F29.out.2.2.2.2.2.2.1, ?_⟩
  clear HS
  refine held_reads [48, 49, 50] (g := 4) rfl (by kernel_rfl) F29.out.2.2.2.2.2.2.1 (fun _ _ d _ _ h => by cases d <;> exact h) ?_
  simp only [pick, List.getD_cons_zero, List.getD_cons_succ]
  ((with_reducible refine wpRead_step (fun K hK => ?_)); go_simp; first | ((with_reducible refine hK _ ?_); clear hK K) | (apply Exists.intro; (with_reducible refine ⟨fun w' hw' => ?_, hK _ ?_⟩); (first | exact rfl | exact ⟨rfl, rfl⟩); clear hK K))
  ((with_reducible refine wpRead_step (fun K hK => ?_)); go_simp; first | ((with_reducible refine hK _ ?_); clear hK K) | (apply Exists.intro; (with_reducible refine ⟨fun w' hw' => ?_, hK _ ?_⟩); (first | exact rfl | exact ⟨rfl, rfl⟩); clear hK K))
  ((with_reducible refine wpRead_step (fun K hK => ?_)); go_simp; first | ((with_reducible refine hK _ ?_); clear hK K) | (apply Exists.intro; (with_reducible refine ⟨fun w' hw' => ?_, hK _ ?_⟩); (first | exact rfl | exact ⟨rfl, rfl⟩); clear hK K))
  with_reducible refine wpRead_nil ?_
  refine held_one 51 (by kernel_rfl) ?_
  simp only [pick, List.getD_cons_zero, List.getD_cons_succ]
  go_wp2_with fail
  refine (tlen_any F29.out.2.1).mono ?_
  rintro e W32 ⟨rfl, rfl⟩
  rw [show ((([] : List Ov).length : Nat) : Int) = 0 from rfl]
  go_wp2_with fail
  refine ⟨F29.out.2.2.2.2.2.2.1, ?_⟩
  refine held_reads [52, 53] (g := 1) rfl (by kernel_rfl) F29.out.2.2.2.2.2.2.1 (fun _ _ d _ _ h => by cases d <;> exact h) ?_
  simp only [pick, List.getD_cons_zero, List.getD_cons_succ]
  ((with_reducible refine wpRead_step (fun K hK => ?_)); go_simp; first | ((with_reducible refine hK _ ?_); clear hK K) | (apply Exists.intro; (with_reducible refine ⟨fun w' hw' => ?_, hK _ ?_⟩); (first | exact rfl | exact ⟨rfl, rfl⟩); clear hK K))
  ((with_reducible refine wpRead_step (fun K hK => ?_)); go_simp; first | ((with_reducible refine hK _ ?_); clear hK K) | (apply Exists.intro; (with_reducible refine ⟨fun w' hw' => ?_, hK _ ?_⟩); (first | exact rfl | exact ⟨rfl, rfl⟩); clear hK K))
  with_reducible refine wpRead_nil ?_
  refine held_one 54 (by kernel_rfl) ?_
  simp only [pick, List.getD_cons_zero, List.getD_cons_succ]
  go_wp2_with fail
  refine ⟨F29.out.2.2.2.2.2.2.1, ?_⟩
  refine wpAnyH_done (by kernel_rfl) ?_ _
  go_wp2_with fail
  go_ret
  exact ⟨rfl, F29.out.1⟩
end Go.Proofs.Ytfmehahjjgalfaa
