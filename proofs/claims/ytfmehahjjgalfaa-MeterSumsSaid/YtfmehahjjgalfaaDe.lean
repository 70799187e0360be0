/- Get, Delete, All, Expire, Clear. -/
import Derived.Test.YtfmehahjjgalfaaDd
import Derived.Test.YtfmehahjjgalfaaTl
namespace Go.Proofs.Ytfmehahjjgalfaa
open Go.RowKit
open Go.ChangeMaps (setBlock)

theorem ret_cell2 {P : Program} {a : Act} {w : World} {fn : Func} {R : Ending → World → Prop} {p q : Tmp} {ty T : TypeId} {b : Nat} {cells : Array Value} {fr : Nat × Nat} (hr : fn.results = #[.cell p ty, .tmp q]) (hp : a.tmps.getD p undef = .pointer (some ⟨b, 0, none⟩)) (hd : a.defers = [])
    (hb : w.heap[b]? = some (.cells cells T fr)) {d : TypeDesc} (hu : P.underlying ty = some d) (hdr : d.isRow = true) (hi : (P.info? ty).map (·.size) = some cells.size) (h : R (.returned (.tuple #[.agg cells, a.tmps.getD q undef])) w) : bodyPost P fn R .ret a w := by
  refine bodyPost_ret ?_ hd h
  simp only [results, hr]
  have hp' : a.tmps[p]?.getD undef = .pointer (some ⟨b, 0, none⟩) := by simpa using hp
  simp [asAddr, hp', run_load_whole (P := P) hb hu hdr hi]
theorem tall_any {w : World} {t bm : Nat} {L : List Ov} (H : TabAt w t bm L) (hlen : L.length ≤ 4611686) : Calls Try.prog 42 #[.pointer (some ⟨t, 0, none⟩)] w fun e w' => ∃ v, e = .returned v ∧ ROv.Own w' w.heap.size v L ∧ Below w.heap.size w w' := by
  have hs := some_all H hlen (all_picks w)
  rw [show L.filter (fun _ => true) = L from by simp] at hs
  have HS := Lib.hid hs
  clear hs H
  go_enter Try.func42, Try.ntmps42
  go_wp2_with fail
  refine HS.out.mono ?_
  rintro e W1 ⟨v, rfl, hown, hb⟩
  obtain ⟨o1, c1, rfl, -, -⟩ := hown.sl0
  have HO := Lib.hid (And.intro hown hb)
  clear hown hb
  generalize L.length = n at *
  go_wp2_with fail
  go_ret
  exact ⟨_, rfl, HO.out⟩
theorem tall_nil (w : World) : Calls Try.prog 42 #[.pointer none] w fun e w' => e = .returned (.slice none 0 0) ∧ Below w.heap.size w w' := by
  go_enter Try.func42, Try.ntmps42
  go_wp2_with fail
  refine (some_nil _ _).mono ?_
  rintro e W1 ⟨rfl, hb⟩
  have HB := Lib.hid hb
  clear hb
  go_wp2_with fail
  go_ret
  exact ⟨rfl, HB.out⟩
def PfS (q : Nat) (k : PK) (w : World) : Prop := w.heap[q]? = some (.cells #[.int .u32 (k.1 : Int), .int .i64 k.2] 58)
theorem PfS.cells {q : Nat} {k : PK} {w : World} (h : PfS q k w) : w.cell? ⟨q, 0, none⟩ = some (.int .u32 (k.1 : Int)) ∧ w.cell? ⟨q, 1, none⟩ = some (.int .i64 k.2) := ⟨cell_of h rfl, cell_of h rfl⟩
theorem PfS.on {q : Nat} {k : PK} {w w' : World} (h : PfS q k w) (hb : w'.heap[q]? = w.heap[q]?) : PfS q k w' := hb.trans h
theorem tget_nil (k : PK) (w : World) : Calls Try.prog 40 #[.pointer none, pfx k.1 k.2] w fun e w' => e = .returned (.tuple #[ovZ.v, .bool false]) ∧ Below w.heap.size w w' := by
  have hal := ((Below.refl w.heap.size w).alloc (Nat.le_refl _) (.cells #[.int .u32 (k.1 : Int), .int .i64 k.2] 58)).alloc (by simp) (.cells #[.int .i64 0, .int .u32 0, .int .i64 0, .int .i64 0, .int .i64 0] 62)
  have hz : ((w.alloc (.cells #[.int .u32 (k.1 : Int), .int .i64 k.2] 58)).alloc (.cells #[.int .i64 0, .int .u32 0, .int .i64 0, .int .i64 0, .int .i64 0] 62)).heap[w.heap.size + 1]? = some (.cells #[.int .i64 0, .int .u32 0, .int .i64 0, .int .i64 0, .int .i64 0] 62) := hnewAt (by simp)
  have F := Lib.hid (And.intro hal hz)
  clear hal hz
  unfold pfx
  go_enter Try.func40, Try.ntmps40
  go_wp2_with fail
  refine (tmade_nil _).mono ?_
  rintro e W1 ⟨rfl, hw⟩
  generalize (w.alloc (.cells #[.int .u32 (k.1 : Int), .int .i64 k.2] 58)).alloc (.cells #[.int .i64 0, .int .u32 0, .int .i64 0, .int .i64 0, .int .i64 0] 62) = W2 at *
  subst hw
  go_wp2_with (with_reducible refine halt_store 62 (x := .tmp 4) rfl ?_)
  refine Halted.go ?_
  refine store_whole rfl 62 _ _ rfl (w.heap.size + 1) #[.int .i64 0, .int .u32 0, .int .i64 0, .int .i64 0, .int .i64 0] rfl rfl F.out.2 rfl (by kernel_rfl) (by simp [Value.oneCell']) ?_
  intro Wz hwz hsz
  have HZ := Lib.hid (And.intro hwz (F.out.1.trans (hsz.below (Nat.le_succ _))))
  clear hwz hsz
  go_wp2_with fail
  refine ret_cell2 rfl rfl rfl HZ.out.1 Try.underlying62 rfl (by kernel_rfl) ?_
  exact ⟨rfl, HZ.out.2⟩
set_option maxRecDepth 100000 in
set_option maxHeartbeats 2000000 in
theorem tget_any {w : World} {t bm : Nat} {L : List Ov} (H : TabAt w t bm L) {k : PK} (hk : PN.ok k) : Calls Try.prog 40 #[.pointer (some ⟨t, 0, none⟩), pfx k.1 k.2] w fun e w' => e = .returned (.tuple #[(getO L k).v, .bool (hasO L k)]) ∧ Below w.heap.size w w' := by
  have hal := ((Below.refl w.heap.size w).alloc (Nat.le_refl _) (.cells #[.int .u32 (k.1 : Int), .int .i64 k.2] 58)).alloc (by simp) (.cells #[.int .i64 0, .int .u32 0, .int .i64 0, .int .i64 0, .int .i64 0] 62)
  have hz : ((w.alloc (.cells #[.int .u32 (k.1 : Int), .int .i64 k.2] 58)).alloc (.cells #[.int .i64 0, .int .u32 0, .int .i64 0, .int .i64 0, .int .i64 0] 62)).heap[w.heap.size + 1]? = some (.cells #[.int .i64 0, .int .u32 0, .int .i64 0, .int .i64 0, .int .i64 0] 62) := hnewAt (by simp)
  have hps : PfS w.heap.size k ((w.alloc (.cells #[.int .u32 (k.1 : Int), .int .i64 k.2] 58)).alloc (.cells #[.int .i64 0, .int .u32 0, .int .i64 0, .int .i64 0, .int .i64 0] 62)) := hold (hnew _ _)
  have hlk := fun (W' : World) (h : W'.heap[bm]? = ((w.alloc (.cells #[.int .u32 (k.1 : Int), .int .i64 k.2] 58)).alloc (.cells #[.int .i64 0, .int .u32 0, .int .i64 0, .int .i64 0, .int .i64 0] 62)).heap[bm]?) => (H.keep hal).lookup hk W' h
  have F := Lib.hid (And.intro hal (And.intro hz (And.intro hps (And.intro (H.keep hal) hlk))))
  have HM := Lib.hid (tmade_any (H.keep hal))
  clear hal hz hps hlk H
  unfold pfx
  generalize getO L k = g at *
  generalize hasO L k = hs at *
  go_enter Try.func40, Try.ntmps40
  go_wp2_with fail
  refine HM.out.mono ?_
  rintro e W1 ⟨rfl, hw⟩
  generalize (w.alloc (.cells #[.int .u32 (k.1 : Int), .int .i64 k.2] 58)).alloc (.cells #[.int .i64 0, .int .u32 0, .int .i64 0, .int .i64 0, .int .i64 0] 62) = W2 at *
  subst hw
  go_wp2_with fail
  refine wp_region_heldP (SameAt [t, bm, w.heap.size] W1) (by kernel_rfl) ?_
  obtain ⟨q, hq⟩ : ∃ q, w.heap.size = q := ⟨_, rfl⟩
  have F2 := Lib.hid (show Below w.heap.size w W1 ∧ W1.heap[q + 1]? = some (.cells #[.int .i64 0, .int .u32 0, .int .i64 0, .int .i64 0, .int .i64 0] 62) ∧ PfS q k W1 ∧ TabAt W1 t bm L ∧ (∀ W' : World, W'.heap[bm]? = W1.heap[bm]? → (Instr.lookup 113 (.map (some bm)) (.agg #[.int .u32 (k.1 : Int), .int .i64 k.2]) true).run Try.prog W' = .ok (.tuple #[g.v, .bool hs]) W') from hq ▸ F.out)
  have HQ := Lib.hid hq
  rw [hq]
  clear hq F HM
  have hc := show ∀ w', SameAt [t, bm, q] W1 w' → w'.cell? ⟨t, 0, none⟩ = some (.map (some bm)) ∧ w'.cell? ⟨q, 0, none⟩ = some (.int .u32 (k.1 : Int)) ∧ w'.cell? ⟨q, 1, none⟩ = some (.int .i64 k.2) ∧ (Instr.lookup 113 (.map (some bm)) (.agg #[.int .u32 (k.1 : Int), .int .i64 k.2]) true).run Try.prog w' = .ok (.tuple #[g.v, .bool hs]) w' from fun w' hw' => by
    obtain ⟨g0, g1⟩ := (F2.out.2.2.1.on (hw' q (by simp))).cells
    exact ⟨(cell_same (hw' t (by simp))).trans F2.out.2.2.2.1.c0, g0, g1, F2.out.2.2.2.2 w' (hw' bm (by simp))⟩
  have HC := Lib.hid hc
  have HSZ := Lib.hid (show t < W1.heap.size ∧ bm < W1.heap.size ∧ q < W1.heap.size from ⟨F2.out.2.2.2.1.lt.1, F2.out.2.2.2.1.lt.2.1, lt_of_blk F2.out.2.2.1⟩)
  have HS0 := Lib.hid (show SameAt [t, bm, q] W1 W1.drew from SameAt.refl _ _)
  have hd := (Below.refl W1.heap.size W1).drew
  have F3 := Lib.hid (show Below w.heap.size w W1.drew ∧ W1.drew.heap[q + 1]? = some (.cells #[.int .i64 0, .int .u32 0, .int .i64 0, .int .i64 0, .int .i64 0] 62) ∧ W1.drew.heap.size = W1.heap.size from ⟨bcall F2.out.1 (Nat.le_refl _) hd, F2.out.2.1, rfl⟩)
  clear hc hd F2
  generalize W1.drew = W9 at *
  unfold Ov.v at HC
  refine held_reads [0, 1, 2, 3, 4, 5, 6, 7, 8] (g := 3) rfl (by kernel_rfl) HS0.out (fun _ _ d _ _ h => by cases d <;> exact h) ?_
  simp only [pick, List.getD_cons_zero, List.getD_cons_succ]
  ((with_reducible refine wpRead_step (fun K hK => ?_)); go_simp; first | ((with_reducible refine hK _ ?_); clear hK K) | (apply Exists.intro; (with_reducible refine ⟨fun w' hw' => ?_, hK _ ?_⟩); (first | exact rfl | exact ⟨rfl, rfl⟩); clear hK K))
  ((with_reducible refine wpRead_step (fun K hK => ?_)); go_simp; first | ((with_reducible refine hK _ ?_); clear hK K) | (apply Exists.intro; (with_reducible refine ⟨fun w' hw' => ?_, hK _ ?_⟩); (first | exact rfl | exact ⟨rfl, rfl⟩); clear hK K))
  ((with_reducible refine wpRead_step (fun K hK => ?_)); go_simp; first | ((with_reducible refine hK _ ?_); clear hK K) | (apply Exists.intro; (with_reducible refine ⟨fun w' hw' => ?_, hK _ ?_⟩); (first | exact rfl | exact ⟨rfl, rfl⟩); clear hK K))
  ((with_reducible refine wpRead_step (fun K hK => ?_)); go_simp; first | ((with_reducible refine hK _ ?_); clear hK K) | (apply Exists.intro; (with_reducible refine ⟨fun w' hw' => ?_, hK _ ?_⟩); (obtain ⟨f0, f1, f2, l0⟩ := HC.out w' hw'; go_simp; first | exact rfl | exact ⟨rfl, rfl⟩); clear hK K))
  ((with_reducible refine wpRead_step (fun K hK => ?_)); go_simp; first | ((with_reducible refine hK _ ?_); clear hK K) | (apply Exists.intro; (with_reducible refine ⟨fun w' hw' => ?_, hK _ ?_⟩); (obtain ⟨f0, f1, f2, l0⟩ := HC.out w' hw'; go_simp; first | exact rfl | exact ⟨rfl, rfl⟩); clear hK K))
  ((with_reducible refine wpRead_step (fun K hK => ?_)); go_simp; first | ((with_reducible refine hK _ ?_); clear hK K) | (apply Exists.intro; (with_reducible refine ⟨fun w' hw' => ?_, hK _ ?_⟩); (obtain ⟨f0, f1, f2, l0⟩ := HC.out w' hw'; go_simp; first | exact rfl | exact ⟨rfl, rfl⟩); clear hK K))
  ((with_reducible refine wpRead_step (fun K hK => ?_)); go_simp; first | ((with_reducible refine hK _ ?_); clear hK K) | (apply Exists.intro; (with_reducible refine ⟨fun w' hw' => ?_, hK _ ?_⟩); (first | exact rfl | exact ⟨rfl, rfl⟩); clear hK K))
  ((with_reducible refine wpRead_step (fun K hK => ?_)); go_simp; first | ((with_reducible refine hK _ ?_); clear hK K) | (apply Exists.intro; (with_reducible refine ⟨fun w' hw' => ?_, hK _ ?_⟩); (first | exact rfl | exact ⟨rfl, rfl⟩); clear hK K))
  ((with_reducible refine wpRead_step (fun K hK => ?_)); go_simp; first | ((with_reducible refine hK _ ?_); clear hK K) | (apply Exists.intro; (with_reducible refine ⟨fun w' hw' => ?_, hK _ ?_⟩); (first | exact rfl | exact ⟨rfl, rfl⟩); clear hK K))
  with_reducible refine wpRead_nil ?_
  have hal := (Below.refl W9.heap.size W9).alloc (Nat.le_refl _) (.cells #[.int .i64 g.r, .int .u32 (g.ad : Int), .int .i64 g.ln, .int .i64 g.id, .int .i64 g.till] 62)
  have halz := (Below.refl W9.heap.size W9).alloc (Nat.le_refl _) (.cells #[.int .i64 0, .int .u32 0, .int .i64 0, .int .i64 0, .int .i64 0] 62)
  have F4 := Lib.hid (And.intro (bcall F3.out.1 (Nat.le_refl _) hal) (And.intro ((hal.block _ (lt_of_blk F3.out.2.1)).trans F3.out.2.1) (show OvS W9.heap.size g (W9.alloc (.cells #[.int .i64 g.r, .int .u32 (g.ad : Int), .int .i64 g.ln, .int .i64 g.id, .int .i64 g.till] 62)) from hnew _ _)))
  have HZ0 := Lib.hid (show SameAt [t, bm, q] W1 (W9.alloc (.cells #[.int .i64 0, .int .u32 0, .int .i64 0, .int .i64 0, .int .i64 0] 62)) from HS0.out.on halz (by simp only [List.mem_cons, List.not_mem_nil, or_false]; intro x hx; rw [F3.out.2.2]; rcases hx with rfl | rfl | rfl <;> first | exact HSZ.out.1 | exact HSZ.out.2.1 | exact HSZ.out.2.2))
  have HZ1 := Lib.hid (show SameAt [t, bm, q] W1 (W9.alloc (.cells #[.int .i64 g.r, .int .u32 (g.ad : Int), .int .i64 g.ln, .int .i64 g.id, .int .i64 g.till] 62)) from HS0.out.on hal (by simp only [List.mem_cons, List.not_mem_nil, or_false]; intro x hx; rw [F3.out.2.2]; rcases hx with rfl | rfl | rfl <;> first | exact HSZ.out.1 | exact HSZ.out.2.1 | exact HSZ.out.2.2))
  clear hal halz F3
  refine held_one 9 (by kernel_rfl) ?_
  simp only [pick, List.getD_cons_zero, List.getD_cons_succ]
  go_wp2_with fail
  refine ⟨HZ0.out, ?_⟩
  refine held_one 10 (by kernel_rfl) ?_
  simp only [pick, List.getD_cons_zero, List.getD_cons_succ]
  go_wp2_with fail
  refine ⟨HZ1.out, ?_⟩
  refine held_one 11 (by kernel_rfl) ?_
  simp only [pick, List.getD_cons_zero, List.getD_cons_succ]
  go_wp2_with fail
  refine ⟨HZ1.out, ?_⟩
  refine wpAnyH_done (by kernel_rfl) ?_ _
  generalize W9.alloc (.cells #[.int .i64 g.r, .int .u32 (g.ad : Int), .int .i64 g.ln, .int .i64 g.id, .int .i64 g.till] 62) = W4 at *
  have z0 := F4.out.2.2
  obtain ⟨y0, y1, y2, y3, y4⟩ := OvS.cells z0
  clear z0
  go_wp2_with (with_reducible refine halt_store 62 (x := .tmp 4) rfl ?_)
  refine Halted.go ?_
  refine store_whole rfl 62 _ _ rfl (q + 1) #[.int .i64 g.r, .int .u32 (g.ad : Int), .int .i64 g.ln, .int .i64 g.id, .int .i64 g.till] rfl rfl F4.out.2.1 rfl (by kernel_rfl) (by simp [Value.oneCell']) ?_
  intro Wz hwz hsz
  have HZ := Lib.hid (And.intro hwz (F4.out.1.trans (hsz.below (by rw [HQ.out]; exact Nat.le_succ _))))
  clear hwz hsz
  go_wp2_with fail
  refine ret_cell2 rfl rfl rfl HZ.out.1 Try.underlying62 rfl (by kernel_rfl) ?_
  exact ⟨rfl, HZ.out.2⟩
end Go.Proofs.Ytfmehahjjgalfaa
