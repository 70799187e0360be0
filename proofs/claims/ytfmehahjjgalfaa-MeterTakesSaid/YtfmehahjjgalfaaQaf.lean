/- Get, Delete, All, Expire, Clear. -/
import Derived.Test.YtfmehahjjgalfaaQae
import Derived.Test.YtfmehahjjgalfaaQab
import Derived.Test.YtfmehahjjgalfaaQad
namespace Go.Proofs.Ytfmehahjjgalfaa
open Go.RowKit
open Go.ChangeMaps (setBlock)

theorem ret_cell2 {P : Program} {a : Act} {w : World} {fn : Func} {R : Ending → World → Prop} {p q : Tmp} {ty T : TypeId} {b : Nat} {cells : Array Value} {fr : Nat × Nat} (hr : fn.results = #[.cell p ty, .tmp q]) (hp : a.tmps.getD p undef = .pointer (some ⟨b, 0, none⟩)) (hd : a.defers = [])
    (hb : w.heap[b]? = some (.cells cells T fr)) {d : TypeDesc} (hu : P.underlying ty = some d) (hdr : d.isRow = true) (hi : (P.info? ty).map (·.size) = some cells.size) (h : R (.returned (.tuple #[.agg cells, a.tmps.getD q undef])) w) : bodyPost P fn R .ret a w := by
  refine bodyPost_ret ?_ hd h
  simp only [results, hr]
  have hp' : a.tmps[p]?.getD undef = .pointer (some ⟨b, 0, none⟩) := by simpa using hp
  simp [asAddr, hp', run_load_whole (P := P) hb hu hdr hi]
theorem tall_any {w : World} {t bm : Nat} {L : List Ov} (H : TabAt w t bm L) (hlen : L.length ≤ 4611686) : Calls Try.prog 42 #[.pointer (some ⟨t, 0, none⟩)] w fun e w' => ∃ v, e = .returned v ∧ ROv.Own w' w.heap.size v L ∧ Below w.heap.size w w' := by
  have hs := some_all H hlen (all_picks w)
  rw [show L.filter (fun _ => true) = L from by simp] at hs
  have HS := Lib.hid hs
  clear hs H
  go_enter Try.func42, Try.ntmps42
  go_wp2_with fail
  refine HS.out.mono ?_
  rintro e W1 ⟨v, rfl, hown, hb⟩
  obtain ⟨o1, c1, rfl, -, -⟩ := hown.sl0
  have HO := Lib.hid (And.intro hown hb)
  clear hown hb
  generalize L.length = n at *
  go_wp2_with fail
  go_ret
  exact ⟨_, rfl, HO.out⟩
theorem tall_nil (w : World) : Calls Try.prog 42 #[.pointer none] w fun e w' => e = .returned (.slice none 0 0) ∧ Below w.heap.size w w' := by
  go_enter Try.func42, Try.ntmps42
  go_wp2_with fail
  refine (some_nil _ _).mono ?_
  rintro e W1 ⟨rfl, hb⟩
  have HB := Lib.hid hb
  clear hb
  go_wp2_with fail
  go_ret
  exact ⟨rfl, HB.out⟩
def PfS (q : Nat) (k : PK) (w : World) : Prop := w.heap[q]? = some (.cells #[.int .u32 (k.1 : Int), .int .i64 k.2] 58)
theorem PfS.cells {q : Nat} {k : PK} {w : World} (h : PfS q k w) : w.cell? ⟨q, 0, none⟩ = some (.int .u32 (k.1 : Int)) ∧ w.cell? ⟨q, 1, none⟩ = some (.int .i64 k.2) := ⟨cell_of h rfl, cell_of h rfl⟩
theorem PfS.on {q : Nat} {k : PK} {w w' : World} (h : PfS q k w) (hb : w'.heap[q]? = w.heap[q]?) : PfS q k w' := hb.trans h
theorem tget_nil (k : PK) (w : World) : Calls Try.prog 40 #[.pointer none, pfx k.1 k.2] w fun e w' => e = .returned (.tuple #[ovZ.v, .bool false]) ∧ Below w.heap.size w w' := by
  have hal := ((Below.refl w.heap.size w).alloc (Nat.le_refl _) (.cells #[.int .u32 (k.1 : Int), .int .i64 k.2] 58)).alloc (by simp) (.cells #[.int .i64 0, .int .u32 0, .int .i64 0, .int .i64 0, .int .i64 0] 62)
  have hz : ((w.alloc (.cells #[.int .u32 (k.1 : Int), .int .i64 k.2] 58)).alloc (.cells #[.int .i64 0, .int .u32 0, .int .i64 0, .int .i64 0, .int .i64 0] 62)).heap[w.heap.size + 1]? = some (.cells #[.int .i64 0, .int .u32 0, .int .i64 0, .int .i64 0, .int .i64 0] 62) := hnewAt (by simp)
  have F := Lib.hid (And.intro hal hz)
  clear hal hz
  unfold pfx
  go_enter Try.func40, Try.ntmps40
  go_wp2_with fail
  refine (tmade_nil _).mono ?_
  rintro e W1 ⟨rfl, hw⟩
  generalize (w.alloc (.cells #[.int .u32 (k.1 : Int), .int .i64 k.2] 58)).alloc (.cells #[.int .i64 0, .int .u32 0, .int .i64 0, .int .i64 0, .int .i64 0] 62) = W2 at *
  subst hw
  go_wp2_with (with_reducible refine halt_store 62 (x := .tmp 4) rfl ?_)
  refine Halted.go ?_
  refine store_whole rfl 62 _ _ rfl (w.heap.size + 1) #[.int .i64 0, .int .u32 0, .int .i64 0, .int .i64 0, .int .i64 0] rfl rfl F.out.2 rfl (by kernel_rfl) (by simp [Value.oneCell']) ?_
  intro Wz hwz hsz
  have HZ := Lib.hid (And.intro hwz (F.out.1.trans (hsz.below (Nat.le_succ _))))
  clear hwz hsz
  go_wp2_with fail
  refine ret_cell2 rfl rfl rfl HZ.out.1 Try.underlying62 rfl (by kernel_rfl) ?_
  exact ⟨rfl, HZ.out.2⟩
set_option maxRecDepth 100000 in
set_option maxHeartbeats 2000000 in
theorem tget_any {w : World} {t bm : Nat} {L : List Ov} (H : TabAt w t bm L) {k : PK} (hk : PN.ok k) : Calls Try.prog 40 #[.pointer (some ⟨t, 0, none⟩), pfx k.1 k.2] w fun e w' => e = .returned (.tuple #[(getO L k).v, .bool (hasO L k)]) ∧ Below w.heap.size w w' := by
  have hal := ((Below.refl w.heap.size w).alloc (Nat.le_refl _) (.cells #[.int .u32 (k.1 : Int), .int .i64 k.2] 58)).alloc (by simp) (.cells #[.int .i64 0, .int .u32 0, .int .i64 0, .int .i64 0, .int .i64 0] 62)
  have hz : ((w.alloc (.cells #[.int .u32 (k.1 : Int), .int .i64 k.2] 58)).alloc (.cells #[.int .i64 0, .int .u32 0, .int .i64 0, .int .i64 0, .int .i64 0] 62)).heap[w.heap.size + 1]? = some (.cells #[.int .i64 0, .int .u32 0, .int .i64 0, .int .i64 0, .int .i64 0] 62) := hnewAt (by simp)
  have hps : PfS w.heap.size k ((w.alloc (.cells #[.int .u32 (k.1 : Int), .int .i64 k.2] 58)).alloc (.cells #[.int .i64 0, .int .u32 0, .int .i64 0, .int .i64 0, .int .i64 0] 62)) := hold (hnew _ _)
  have hlk := fun (W' : World) (h : W'.heap[bm]? = ((w.alloc (.cells #[.int .u32 (k.1 : Int), .int .i64 k.2] 58)).alloc (.cells #[.int .i64 0, .int .u32 0, .int .i64 0, .int .i64 0, .int .i64 0] 62)).heap[bm]?) => (H.keep hal).lookup hk W' h
  have F := Lib.hid (And.intro hal (And.intro hz (And.intro hps (And.intro (H.keep hal) hlk))))
  have HM := Lib.hid (tmade_any (H.keep hal))
  clear hal hz hps hlk H
  unfold pfx
  generalize getO L k = g at *
  generalize hasO L k = hs at *
  go_enter Try.func40, Try.ntmps40
  go_wp2_with fail
  refine HM.out.mono ?_
  rintro e W1 ⟨rfl, hw⟩
  generalize (w.alloc (.cells #[.int .u32 (k.1 : Int), .int .i64 k.2] 58)).alloc (.cells #[.int .i64 0, .int .u32 0, .int .i64 0, .int .i64 0, .int .i64 0] 62) = W2 at *
  subst hw
  go_wp2_with fail
  refine wp_region_heldP (SameAt [t, bm, w.heap.size] W1) (by kernel_rfl) ?_
  obtain ⟨q, hq⟩ : ∃ q, w.heap.size = q := ⟨_, rfl⟩
  have F2 := Lib.hid (show Below w.heap.size w W1 ∧ W1.heap[q + 1]? = some (.cells #[.int .i64 0, .int .u32 0, .int .i64 0, .int .i64 0, .int .i64 0] 62) ∧ PfS q k W1 ∧ TabAt W1 t bm L ∧ (∀ W' : World, W'.heap[bm]? = W1.heap[bm]? → (Instr.lookup 113 (.map (some bm)) (.agg #[.int .u32 (k.1 : Int), .int .i64 k.2]) true).run Try.prog W' = .ok (.tuple #[g.v, .bool hs]) W') from hq ▸ F.out)
  have HQ := Lib.hid hq
  rw [hq]
  clear hq F HM
  have hc := show ∀ w', SameAt [t, bm, q] W1 w' → w'.cell? ⟨t, 0, none⟩ = some (.map (some bm)) ∧ w'.cell? ⟨q, 0, none⟩ = some (.int .u32 (k.1 : Int)) ∧ w'.cell? ⟨q, 1, none⟩ = some (.int .i64 k.2) ∧ (Instr.lookup 113 (.map (some bm)) (.agg #[.int .u32 (k.1 : Int), .int .i64 k.2]) true).run Try.prog w' = .ok (.tuple #[g.v, .bool hs]) w' from fun w' hw' => by
    obtain ⟨g0, g1⟩ := (F2.out.2.2.1.on (hw' q (by simp))).cells
    exact ⟨(cell_same (hw' t (by simp))).trans F2.out.2.2.2.1.c0, g0, g1, F2.out.2.2.2.2 w' (hw' bm (by simp))⟩
  have HC := Lib.hid hc
  have HSZ := Lib.hid (show t < W1.heap.size ∧ bm < W1.heap.size ∧ q < W1.heap.size from ⟨F2.out.2.2.2.1.lt.1, F2.out.2.2.2.1.lt.2.1, lt_of_blk F2.out.2.2.1⟩)
  have HS0 := Lib.hid (show SameAt [t, bm, q] W1 W1.drew from SameAt.refl _ _)
  have hd := (Below.refl W1.heap.size W1).drew
  have F3 := Lib.hid (show Below w.heap.size w W1.drew ∧ W1.drew.heap[q + 1]? = some (.cells #[.int .i64 0, .int .u32 0, .int .i64 0, .int .i64 0, .int .i64 0] 62) ∧ W1.drew.heap.size = W1.heap.size from ⟨bcall F2.out.1 (Nat.le_refl _) hd, F2.out.2.1, rfl⟩)
  clear hc hd F2
  generalize W1.drew = W9 at *
  unfold Ov.v at HC
  refine held_reads [0, 1, 2, 3, 4, 5, 6, 7, 8] (g := 3) rfl (by kernel_rfl) HS0.out (fun _ _ d _ _ h => by cases d <;> exact h) ?_
  simp only [pick, List.getD_cons_zero, List.getD_cons_succ]
  ((with_reducible refine wpRead_step (fun K hK => ?_)); go_simp; first | ((with_reducible refine hK _ ?_); clear hK K) | (apply Exists.intro; (with_reducible refine ⟨fun w' hw' => ?_, hK _ ?_⟩); (first | exact rfl | exact ⟨rfl, rfl⟩); clear hK K))
  ((with_reducible refine wpRead_step (fun K hK => ?_)); go_simp; first | ((with_reducible refine hK _ ?_); clear hK K) | (apply Exists.intro; (with_reducible refine ⟨fun w' hw' => ?_, hK _ ?_⟩); (first | exact rfl | exact ⟨rfl, rfl⟩); clear hK K))
  ((with_reducible refine wpRead_step (fun K hK => ?_)); go_simp; first | ((with_reducible refine hK _ ?_); clear hK K) | (apply Exists.intro; (with_reducible refine ⟨fun w' hw' => ?_, hK _ ?_⟩); (first | exact rfl | exact ⟨rfl, rfl⟩); clear hK K))
  ((with_reducible refine wpRead_step (fun K hK => ?_)); go_simp; first | ((with_reducible refine hK _ ?_); clear hK K) | (apply Exists.intro; (with_reducible refine ⟨fun w' hw' => ?_, hK _ ?_⟩); (obtain ⟨f0, f1, f2, l0⟩ := HC.out w' hw'; go_simp; first | exact rfl | exact ⟨rfl, rfl⟩); clear hK K))
  ((with_reducible refine wpRead_step (fun K hK => ?_)); go_simp; first | ((with_reducible refine hK _ ?_); clear hK K) | (apply Exists.intro; (with_reducible refine ⟨fun w' hw' => ?_, hK _ ?_⟩); (obtain ⟨f0, f1, f2, l0⟩ := HC.out w' hw'; go_simp; first | exact rfl | exact ⟨rfl, rfl⟩); clear hK K))
  ((with_reducible refine wpRead_step (fun K hK => ?_)); go_simp; first | ((with_reducible refine hK _ ?_); clear hK K) | (apply Exists.intro; (with_reducible refine ⟨fun w' hw' => ?_, hK _ ?_⟩); (obtain ⟨f0, f1, f2, l0⟩ := HC.out w' hw'; go_simp; first | exact rfl | exact ⟨rfl, rfl⟩); clear hK K))
  ((with_reducible refine wpRead_step (fun K hK => ?_)); go_simp; first | ((with_reducible refine hK _ ?_); clear hK K) | (apply Exists.intro; (with_reducible refine ⟨fun w' hw' => ?_, hK _ ?_⟩); (first | exact rfl | exact ⟨rfl, rfl⟩); clear hK K))
  ((with_reducible refine wpRead_step (fun K hK => ?_)); go_simp; first | ((with_reducible refine hK _ ?_); clear hK K) | (apply Exists.intro; (with_reducible refine ⟨fun w' hw' => ?_, hK _ ?_⟩); (first | exact rfl | exact ⟨rfl, rfl⟩); clear hK K))
  ((with_reducible refine wpRead_step (fun K hK => ?_)); go_simp; first | ((with_reducible refine hK _ ?_); clear hK K) | (apply Exists.intro; (with_reducible refine ⟨fun w' hw' => ?_, hK _ ?_⟩); (first | exact rfl | exact ⟨rfl, rfl⟩); clear hK K))
  with_reducible refine wpRead_nil ?_
  have hal := (Below.refl W9.heap.size W9).alloc (Nat.le_refl _) (.cells #[.int .i64 g.r, .int .u32 (g.ad : Int), .int .i64 g.ln, .int .i64 g.id, .int .i64 g.till] 62)
  have halz := (Below.refl W9.heap.size W9).alloc (Nat.le_refl _) (.cells #[.int .i64 0, .int .u32 0, .int .i64 0, .int .i64 0, .int .i64 0] 62)
  have F4 := Lib.hid (And.intro (bcall F3.out.1 (Nat.le_refl _) hal) (And.intro ((hal.block _ (lt_of_blk F3.out.2.1)).trans F3.out.2.1) (show OvS W9.heap.size g (W9.alloc (.cells #[.int .i64 g.r, .int .u32 (g.ad : Int), .int .i64 g.ln, .int .i64 g.id, .int .i64 g.till] 62)) from hnew _ _)))
  have HZ0 := Lib.hid (show SameAt [t, bm, q] W1 (W9.alloc (.cells #[.int .i64 0, .int .u32 0, .int .i64 0, .int .i64 0, .int .i64 0] 62)) from HS0.out.on halz (by simp only [List.mem_cons, List.not_mem_nil, or_false]; intro x hx; rw [F3.out.2.2]; rcases hx with rfl | rfl | rfl <;> first | exact HSZ.out.1 | exact HSZ.out.2.1 | exact HSZ.out.2.2))
  have HZ1 := Lib.hid (show SameAt [t, bm, q] W1 (W9.alloc (.cells #[.int .i64 g.r, .int .u32 (g.ad : Int), .int .i64 g.ln, .int .i64 g.id, .int .i64 g.till] 62)) from HS0.out.on hal (by simp only [List.mem_cons, List.not_mem_nil, or_false]; intro x hx; rw [F3.out.2.2]; rcases hx with rfl | rfl | rfl <;> first | exact HSZ.out.1 | exact HSZ.out.2.1 | exact HSZ.out.2.2))
  clear hal halz F3
  refine held_one 9 (by kernel_rfl) ?_
  simp only [pick, List.getD_cons_zero, List.getD_cons_succ]
  go_wp2_with fail
  refine ⟨HZ0.out, ?_⟩
  refine held_one 10 (by kernel_rfl) ?_
  simp only [pick, List.getD_cons_zero, List.getD_cons_succ]
  go_wp2_with fail
  refine ⟨HZ1.out, ?_⟩
  refine held_one 11 (by kernel_rfl) ?_
  simp only [pick, List.getD_cons_zero, List.getD_cons_succ]
  go_wp2_with fail
  refine ⟨HZ1.out, ?_⟩
  refine wpAnyH_done (by kernel_rfl) ?_ _
  generalize W9.alloc (.cells #[.int .i64 g.r, .int .u32 (g.ad : Int), .int .i64 g.ln, .int .i64 g.id, .int .i64 g.till] 62) = W4 at *
  have z0 := F4.out.2.2
  obtain ⟨y0, y1, y2, y3, y4⟩ := OvS.cells z0
  clear z0
  go_wp2_with (with_reducible refine halt_store 62 (x := .tmp 4) rfl ?_)
  refine Halted.go ?_
  refine store_whole rfl 62 _ _ rfl (q + 1) #[.int .i64 g.r, .int .u32 (g.ad : Int), .int .i64 g.ln, .int .i64 g.id, .int .i64 g.till] rfl rfl F4.out.2.1 rfl (by kernel_rfl) (by simp [Value.oneCell']) ?_
  intro Wz hwz hsz
  have HZ := Lib.hid (And.intro hwz (F4.out.1.trans (hsz.below (by rw [HQ.out]; exact Nat.le_succ _))))
  clear hwz hsz
  go_wp2_with fail
  refine ret_cell2 rfl rfl rfl HZ.out.1 Try.underlying62 rfl (by kernel_rfl) ?_
  exact ⟨rfl, HZ.out.2⟩
end Go.Proofs.Ytfmehahjjgalfaa
/- Delete, Expire, Clear. -/
namespace Go.Proofs.Ytfmehahjjgalfaa
open Go.RowKit
open Go.ChangeMaps (setBlock)

theorem wrapS {i n : Nat} (h : i < n) (hn : n ≤ maxLen) : wrap64 ((i : Int) + 1) = ((i + 1 : Nat) : Int) := by unfold maxLen at hn; unfold wrap64; omega
theorem mSucc {i n : Nat} (h : i < n) : n - (intOf (.int .i64 ((i + 1 : Nat) : Int))).toNat < n - (intOf (.int .i64 (i : Int))).toNat := by show n - ((i + 1 : Nat) : Int).toNat < n - (i : Int).toNat; omega
theorem TabAt.okk {w : World} {t bm : Nat} {L : List Ov} (H : TabAt w t bm L) {o : Ov} (ho : o ∈ L) : PN.ok o.key := by
  obtain ⟨⟨clk, es, k1, k2, k3⟩, hord⟩ := H
  have h1 := k3.get o.key
  rw [Kl.look_of k3.nd ho] at h1
  obtain ⟨e, he, h2, -⟩ := MR.mem_of_get? h1
  rw [← h2]
  exact k2.ok e he
theorem setBlock_block {w : World} {b k : Nat} {O : Obj} (h : k ≠ b) : (setBlock w b O).heap[k]? = w.heap[k]? := setBlock_other h
structure TDel (w w' : World) (t bm : Nat) (L : List Ov) (k : PK) : Prop where
  tab : TabAt w' t bm (L.filter fun x => decide (x.key ≠ k))
  but : But w w' [bm]
theorem tdel_nil (k : PK) (w : World) : Calls Try.prog 34 #[.pointer none, pfx k.1 k.2] w fun e w' => e = .returned (.bool false) ∧ Below w.heap.size w w' := by
  have hal := (Below.refl w.heap.size w).alloc (Nat.le_refl _) (.cells #[.int .u32 (k.1 : Int), .int .i64 k.2] 58)
  have hps : PfS w.heap.size k (w.alloc (.cells #[.int .u32 (k.1 : Int), .int .i64 k.2] 58)) := hnew _ _
  have HB := Lib.hid hal
  obtain ⟨z0, z1⟩ := hps.cells
  have HG := Lib.hid (tget_nil k)
  clear hal hps
  unfold pfx at HG ⊢
  go_enter Try.func34, Try.ntmps34
  go_wp2_with fail
  refine (HG.out _).mono ?_
  rintro e W1 ⟨rfl, hb⟩
  rw [show ovZ.v = .agg #[.int .i64 0, .int .u32 0, .int .i64 0, .int .i64 0, .int .i64 0] from rfl]
  have HB2 := Lib.hid ((bcall HB.out (Nat.le_refl _) hb).trans (((Below.refl _ W1).alloc (Nat.le_refl _) (.cells #[.int .i64 0, .int .u32 0, .int .i64 0, .int .i64 0, .int .i64 0] 62)).mono (bcall HB.out (Nat.le_refl _) hb).size))
  clear hb z0 z1
  go_wp2_with fail
  go_ret
  exact ⟨rfl, HB2.out⟩
set_option maxRecDepth 100000 in
theorem tdel_any {w : World} {t bm : Nat} {L : List Ov} (H : TabAt w t bm L) {k : PK} (hk : PN.ok k) : Calls Try.prog 34 #[.pointer (some ⟨t, 0, none⟩), pfx k.1 k.2] w fun e w' => e = .returned (.bool (hasO L k)) ∧ TDel w w' t bm L k := by
  have hal := (Below.refl w.heap.size w).alloc (Nat.le_refl _) (.cells #[.int .u32 (k.1 : Int), .int .i64 k.2] 58)
  have hps : PfS w.heap.size k (w.alloc (.cells #[.int .u32 (k.1 : Int), .int .i64 k.2] 58)) := hnew _ _
  have F := Lib.hid (And.intro hal (And.intro hps (H.keep hal)))
  obtain ⟨z0, z1⟩ := hps.cells
  have HG := Lib.hid (tget_any (H.keep hal) hk)
  have HK := Lib.hid hk
  clear hal hps H
  unfold pfx at HG
  unfold pfx
  generalize getO L k = g at *
  obtain ⟨hs, hhs⟩ : ∃ hs, hasO L k = hs := ⟨_, rfl⟩
  rw [hhs] at HG ⊢
  have HS := Lib.hid hhs
  clear hhs
  go_enter Try.func34, Try.ntmps34
  go_wp2_with fail
  refine HG.out.mono ?_
  rintro e W1 ⟨rfl, hb⟩
  unfold Ov.v
  have hal := (Below.refl W1.heap.size W1).alloc (Nat.le_refl _) (.cells #[.int .i64 g.r, .int .u32 (g.ad : Int), .int .i64 g.ln, .int .i64 g.id, .int .i64 g.till] 62)
  have hbb := bcall hb (Nat.le_refl _) hal
  have F2 := Lib.hid (And.intro (bcall F.out.1 (Nat.le_refl _) hbb) (And.intro (F.out.2.1.on (hbb.block _ (lt_of_blk F.out.2.1))) (F.out.2.2.keep hbb)))
  clear hb hal hbb HG F z0 z1
  cases hs with
  | false =>
    go_wp2_with fail
    go_ret
    refine ⟨rfl, ?_, But.of_below F2.out.1 _⟩
    rw [del_none HS.out]
    exact F2.out.2.2
  | true =>
    go_wp2_with fail
    generalize W1.alloc (.cells #[.int .i64 g.r, .int .u32 (g.ad : Int), .int .i64 g.ln, .int .i64 g.id, .int .i64 g.till] 62) = W2 at *
    obtain ⟨q, hq⟩ : ∃ q, w.heap.size = q := ⟨_, rfl⟩
    have F3 := Lib.hid (show Below w.heap.size w W2 ∧ PfS q k W2 ∧ TabAt W2 t bm L from hq ▸ F2.out)
    rw [hq]
    clear hq F2
    have c0 := F3.out.2.2.c0
    obtain ⟨z0, z1⟩ := F3.out.2.1.cells
    obtain ⟨O, hup, htab⟩ := (F3.out.2.2.on (w' := W2.drew) rfl rfl).delete HK.out 58 0
    have F4 := Lib.hid (And.intro htab ((But.of_below F3.out.1 [bm]).drew.setBlock (b := bm) (.inr (by simp)) O))
    clear htab
    refine wp_region_pieces (by kernel_rfl) ?_
    refine wpAny_seg (fun w' => w' = W2.drew) [0, 1, 2, 3, 4] (g := 1) rfl (by kernel_rfl) rfl ?_
    simp only [pick, List.getD_cons_zero, List.getD_cons_succ]
    iterate 5 ((with_reducible refine wpQuiet_step (fun K hK => ?_)); go_simp; first | ((with_reducible refine hK _ ?_); clear hK K) | (apply Exists.intro; (with_reducible refine ⟨fun w' hw' => ?_, hK _ ?_⟩); (subst hw'; go_simp; first | exact rfl | exact ⟨rfl, rfl⟩); clear hK K))
    refine wpQuiet_nil ?_
    rintro _ rfl
    refine wpAny_one 5 (by kernel_rfl) ?_
    simp only [pick, List.getD_cons_zero, List.getD_cons_succ]
    go_wp2_with fail
    refine wpAny_done (by kernel_rfl) ?_ _
    go_wp2_with fail
    go_ret
    exact ⟨rfl, F4.out.1, F4.out.2⟩
def delAll (L G : List Ov) : List Ov := G.foldl (fun L o => L.filter fun x => decide (x.key ≠ o.key)) L
theorem delAll_succ {L G : List Ov} {i : Nat} (hi : i < G.length) : delAll L (G.take (i + 1)) = (delAll L (G.take i)).filter fun x => decide (x.key ≠ (G.getD i default).key) := by
  unfold delAll
  rw [List.take_succ_eq_append_getElem hi, List.foldl_append]
  simp [List.getD_eq_getElem?_getD, hi]
theorem delAll_is : ∀ (G L : List Ov), delAll L G = L.filter fun x => decide (x.key ∉ G.map Ov.key)
  | [], L => by show L = _; symm; rw [List.filter_eq_self]; intro x _; simp
  | o :: G, L => by
    show delAll (L.filter fun x => decide (x.key ≠ o.key)) G = _
    rw [delAll_is G, List.filter_filter]
    refine List.filter_congr fun x _ => ?_
    simp [Bool.and_comm]
theorem delAll_filter {L : List Ov} (h : Ord L) (p : Ov → Bool) : delAll L (L.filter p) = L.filter fun x => !p x := by
  rw [delAll_is]
  refine List.filter_congr fun x hx => ?_
  cases hp : p x with
  | true =>
    have : x.key ∈ (L.filter p).map Ov.key := List.mem_map.2 ⟨x, List.mem_filter.2 ⟨hx, hp⟩, rfl⟩
    simp [this]
  | false =>
    have : x.key ∉ (L.filter p).map Ov.key := by
      rintro hm
      obtain ⟨y, hy, e⟩ := List.mem_map.1 hm
      obtain ⟨hy1, hy2⟩ := List.mem_filter.1 hy
      rw [Kl.inj_on h.keys hy1 hx e, hp] at hy2
      cases hy2
    simp [this]
theorem delAll_mem {L G : List Ov} {i : Nat} {x : Ov} (_hL : Ord L) (hG : ∀ y ∈ G, y ∈ L) (_hn : (G.map Ov.key).Nodup) (hi : i < G.length) (hx : x = G.getD i default) : x ∈ L := by
  rw [hx]; exact hG _ (getD_mem hi)
def tillP (now : Int) (o : Ov) : Bool := decide (o.till < now)
structure TExp (w w' : World) (t bm : Nat) (L : List Ov) (now : Int) (v : Value) : Prop where
  own : ROv.Own w' w.heap.size v (L.filter (tillP now))
  tab : TabAt w' t bm (L.filter fun x => !tillP now x)
  but : But w w' [bm]
theorem texp_nil (now : Int) (w : World) : Calls Try.prog 37 #[.pointer none, .int .i64 now] w fun e w' => e = .returned (.slice none 0 0) ∧ Below w.heap.size w w' := by
  have HB := Lib.hid ((Below.refl w.heap.size w).alloc (Nat.le_refl _) (.cells #[.int .i64 now] 3))
  go_enter Try.func37, Try.ntmps37
  go_wp2_with fail
  refine (some_nil _ _).mono ?_
  rintro e W1 ⟨rfl, hb⟩
  have HB2 := Lib.hid (bcall HB.out (Nat.le_refl _) hb)
  clear hb
  go_wp2_with fail
  go_loopw [13] (fun iv wr => iv = .int .i64 0 ∧ wr = W1) (fun _ _ => 0)
  case atStart => exact ⟨rfl, rfl⟩
  case round =>
    obtain ⟨rfl, rfl⟩ := hrel
    go_wp2_with fail
    go_ret
    exact ⟨rfl, HB2.out⟩
set_option maxRecDepth 100000 in
set_option maxHeartbeats 2000000 in
theorem texp_any {w : World} {t bm : Nat} {L : List Ov} (H : TabAt w t bm L) (hlen : L.length ≤ 4611686) (now : Int) : Calls Try.prog 37 #[.pointer (some ⟨t, 0, none⟩), .int .i64 now] w fun e w' => ∃ v, e = .returned v ∧ TExp w w' t bm L now v := by
  have hal := (Below.refl w.heap.size w).alloc (Nat.le_refl _) (.cells #[.int .i64 now] 3)
  have hnb : (w.alloc (.cells #[.int .i64 now] 3)).cell? ⟨w.heap.size, 0, none⟩ = some (.int .i64 now) := cell_of (hnew _ _) rfl
  have hpk : Picks (w.alloc (.cells #[.int .i64 now] 3)) 72 #[.pointer (some ⟨w.heap.size, 0, none⟩)] (tillP now) := expire_picks hnb (by simp)
  have HS := Lib.hid (some_till (H.keep hal) hlen hpk)
  have F := Lib.hid (And.intro hal (H.keep hal))
  have HLT := Lib.hid H.lt
  clear hal hnb hpk H
  go_enter Try.func37, Try.ntmps37
  go_wp2_with fail
  refine HS.out.mono ?_
  rintro e W1 ⟨v, rfl, hown, hb⟩
  obtain ⟨a1, c1, rfl, hsl, -⟩ := hown.sl0
  have hfar : ∀ b o, a1 = some ⟨b, o, none⟩ → w.heap.size ≤ b := fun b o e => by
    rcases hown.cases with ⟨h1, -⟩ | ⟨g, cap, h1, hg, -⟩
    · injection h1 with h1; rw [h1] at e; cases e
    · injection h1 with h1; rw [h1] at e; injection e with e; injection e with e1; subst e1
      rw [show ∀ o, (w.alloc o).heap.size = w.heap.size + 1 from fun o => by simp] at hg
      omega
  obtain ⟨G, hG⟩ : ∃ G, L.filter (tillP now) = G := ⟨_, rfl⟩
  have HGE := Lib.hid hG
  rw [hG] at hown hsl ⊢
  obtain ⟨n, hn⟩ : ∃ n, G.length = n := ⟨_, rfl⟩
  have HN := Lib.hid hn
  rw [hn] at hown hsl ⊢
  have F2 := Lib.hid (And.intro (bcall F.out.1 (Nat.le_refl _) hb) (And.intro (F.out.2.keep hb) (And.intro (hown.mono (by simp) : ROv.Own W1 w.heap.size _ G) (And.intro hsl hfar))))
  have hmax : n ≤ maxLen := hsl.max
  clear hown hb hsl hfar hn HS F hG
  go_wp2_with fail
  go_loopw [13] (fun iv wr => ∃ i : Nat, i ≤ n ∧ iv = .int .i64 i ∧ TabAt wr t bm (delAll L (G.take i)) ∧ But W1 wr [bm]) (fun iv _ => n - (intOf iv).toNat)
  case atStart => exact ⟨0, Nat.zero_le _, rfl, F2.out.2.1, But.refl _ _⟩
  case round =>
    obtain ⟨i, hi, rfl, htab, hbt⟩ := hrel
    obtain ⟨w2, rfl⟩ : ∃ w2 : World, w2 = wr := ⟨_, rfl⟩
    by_cases hlt : i < n
    · have hil : ((i : Int) < (n : Int)) = True := by simp; omega
      have hi0 : ((0 : Int) ≤ (i : Int)) = True := by simp
      have hw3 := wrapS hlt hmax
      have hgm : G.getD i default ∈ G := getD_mem (by rw [HN.out]; exact hlt)
      have hgl : G.getD i default ∈ L := by
        have := hgm
        rw [← HGE.out] at this
        rw [← HGE.out]
        exact (List.mem_filter.1 this).1
      have hok := F2.out.2.1.okk hgl
      have t1 := delAll_succ (L := L) (G := G) (i := i) (by rw [HN.out]; exact hlt)
      obtain ⟨b, o, hbo, hrow⟩ := F2.out.2.2.2.1.row (by omega)
      subst hbo
      have hbne : b ≠ bm := by have := F2.out.2.2.2.2 b o rfl; have := HLT.out.2.1; omega
      have hat := (hrow.keep (hbt.block b hrow.lt (by simp; exact hbne))).get i (by rw [HN.out]; exact hlt)
      generalize G.getD i default = x at *
      have y0 := hat 0 (by decide)
      have y1 := hat 1 (by decide)
      have y2 := hat 2 (by decide)
      have y3 := hat 3 (by decide)
      have y4 := hat 4 (by decide)
      simp only [ROv, Nat.add_zero, List.getElem?_cons_zero, List.getElem?_cons_succ] at y0 y1 y2 y3 y4
      have hal := (Below.refl w2.heap.size w2).alloc (Nat.le_refl _) (.cells #[.int .i64 x.r, .int .u32 (x.ad : Int), .int .i64 x.ln, .int .i64 x.id, .int .i64 x.till] 62)
      have hxs : OvS w2.heap.size x (w2.alloc (.cells #[.int .i64 x.r, .int .u32 (x.ad : Int), .int .i64 x.ln, .int .i64 x.id, .int .i64 x.till] 62)) := hnew _ _
      obtain ⟨x0, x1, x2, x3, x4⟩ := hxs.cells
      have htab2 := htab.keep hal
      have c0 := htab2.c0
      obtain ⟨O, hup0, htab3⟩ := (htab2.on (w' := (w2.alloc (.cells #[.int .i64 x.r, .int .u32 (x.ad : Int), .int .i64 x.ln, .int .i64 x.id, .int .i64 x.till] 62)).drew) rfl rfl).delete hok 58 0
      have hup : (Builtin.delete_ #[113, 58] 0 #[.map (some bm), .agg #[.int .u32 (x.ad : Int), .int .i64 x.ln]]).run Try.prog (w2.alloc (.cells #[.int .i64 x.r, .int .u32 (x.ad : Int), .int .i64 x.ln, .int .i64 x.id, .int .i64 x.till] 62)).drew = .ok (.tuple #[]) (setBlock (w2.alloc (.cells #[.int .i64 x.r, .int .u32 (x.ad : Int), .int .i64 x.ln, .int .i64 x.id, .int .i64 x.till] 62)).drew bm O) := hup0
      clear hup0
      rw [← t1] at htab3
      have F3 := Lib.hid (And.intro htab3 ((hbt.trans (But.of_below hal _)).drew.setBlock (b := bm) (.inr (by simp)) O))
      clear htab hbt hgm hgl hok t1 hrow hbne hat hal hxs htab2 htab3
      go_wp2_with fail
      clear y0 y1 y2 y3 y4
      generalize w2.alloc (.cells #[.int .i64 x.r, .int .u32 (x.ad : Int), .int .i64 x.ln, .int .i64 x.id, .int .i64 x.till] 62) = W5 at *
      generalize w2.heap.size = q2 at *
      refine wp_region_pieces (by kernel_rfl) ?_
      refine wpAny_seg (fun w' => w' = W5.drew) [0, 1, 2, 3, 4, 5, 6] (g := 1) rfl (by kernel_rfl) rfl ?_
      simp only [pick, List.getD_cons_zero, List.getD_cons_succ]
      iterate 7 ((with_reducible refine wpQuiet_step (fun K hK => ?_)); go_simp; first | ((with_reducible refine hK _ ?_); clear hK K) | (apply Exists.intro; (with_reducible refine ⟨fun w' hw' => ?_, hK _ ?_⟩); (subst hw'; go_simp; first | exact rfl | exact ⟨rfl, rfl⟩); clear hK K))
      refine wpQuiet_nil ?_
      rintro _ rfl
      refine wpAny_one 7 (by kernel_rfl) ?_
      simp only [pick, List.getD_cons_zero, List.getD_cons_succ]
      go_wp2_with fail
      refine wpAny_done (by kernel_rfl) ?_ _
      go_wp2_with fail
      exact ⟨⟨i + 1, hlt, by first | rw [hw3] | rw [Int.natCast_succ], F3.out⟩, by first | (rw [hw3]; exact mSucc hlt) | (rw [← Int.natCast_succ]; exact mSucc hlt)⟩
    · obtain rfl : n = i := by omega
      have hil : ((n : Int) < (n : Int)) = False := by simp
      have hord := F2.out.2.1.ord
      rw [List.take_of_length_le (by rw [HN.out]; exact Nat.le_refl _), ← HGE.out, delAll_filter hord] at htab
      have hbw : But w w2 [bm] := (But.of_below F2.out.1 [bm]).trans hbt
      have hown := Rep.Own.but F2.out.2.2.1 hbt (by simp; exact HLT.out.2.1)
      have F3 := Lib.hid (show TExp w w2 t bm L now (.slice a1 n c1) from ⟨by rw [HGE.out]; exact hown, htab, hbw⟩)
      clear htab hbt hord hbw hown
      go_wp2_with fail
      go_ret
      exact ⟨_, rfl, F3.out⟩
end Go.Proofs.Ytfmehahjjgalfaa
/- Meter: index, Check. -/
namespace Go.Proofs.Ytfmehahjjgalfaa.Me
open Go.RowKit
open Go.ChangeMaps (setBlock)

def inM (n : Int) : Bool := decide (0 ≤ n) && decide (n ≤ 9007199254740991)
def okC (x : Ct) : Bool := okP x.p.1 x.p.2 && inM x.n
def chkL (L : List Ct) : Bool := L.all okC && (decide ((ixC L).length = L.length) && decide (L.length ≤ 1024))
def CtS (q : Nat) (y : Ct) (w : World) : Prop := w.heap[q]? = some (.cells #[.int .u32 (y.p.1 : Int), .int .i64 y.p.2, .int .i64 y.n] 128)
theorem CtS.cells {q : Nat} {y : Ct} {w : World} (h : CtS q y w) : w.cell? ⟨q, 0, none⟩ = some (.int .u32 (y.p.1 : Int)) ∧ w.cell? ⟨q, 1, none⟩ = some (.int .i64 y.p.2) ∧ w.cell? ⟨q, 2, none⟩ = some (.int .i64 y.n) := ⟨cell_of h rfl, cell_of h rfl, cell_of h rfl⟩
theorem CtS.on {q : Nat} {y : Ct} {w w' : World} (h : CtS q y w) (hb : w'.heap[q]? = w.heap[q]?) : CtS q y w' := hb.trans h
theorem CtS.keep {q : Nat} {y : Ct} {w w' : World} (h : CtS q y w) (hb : Below w.heap.size w w') : CtS q y w' := h.on (hb.block _ (lt_of_blk h))
theorem below_put {w W : World} {b : Nat} (h : Below w.heap.size w W) (hb : w.heap.size ≤ b) (O : Obj) : Below w.heap.size w (setBlock W b O) := ((But.of_below h []).setBlock (.inl hb) O).below (Nat.le_refl _) (by simp)
/-- counts of an argument -/
structure Cts (w : World) (oa : Option Addr) (n c : Nat) (L : List Ct) : Prop where
  sl : RCt.Sl w oa n c L
  ok : ∀ x ∈ L, x.p.1 < 4294967296 ∧ PN.ok x.p
theorem Cts.keep {w w' : World} {oa : Option Addr} {n c : Nat} {L : List Ct} (h : Cts w oa n c L) (hb : Below w.heap.size w w') : Cts w' oa n c L := ⟨h.sl.keep hb, h.ok⟩
theorem all_succ {L : List Ct} {i : Nat} (hi : i < L.length) : (L.take (i + 1)).all okC = ((L.take i).all okC && okC (L.getD i default)) := by
  rw [List.take_succ_eq_append_getElem hi, List.all_append]
  simp [List.getD_eq_getElem?_getD, hi]
theorem chk_bad {L : List Ct} {i : Nat} (hi : i < L.length) (h : okC (L.getD i default) = false) : chkL L = false := by
  have hm : L.getD i default ∈ L := getD_mem hi
  unfold chkL
  cases ha : L.all okC with
  | false => rfl
  | true => rw [List.all_eq_true.1 ha _ hm] at h; cases h
theorem ret_vb {v : Value} {a b : Bool} (h : a = b) : Ending.returned (.tuple #[v, .bool a]) = .returned (.tuple #[v, .bool b]) := by rw [h]
def IxR (w w' : World) (L : List Ct) (v : Value) : Prop := Below w.heap.size w w' ∧ (chkL L = true → ∃ bm, v = .map (some bm) ∧ w.heap.size ≤ bm ∧ CntAt w' bm L)
set_option maxRecDepth 100000 in
set_option maxHeartbeats 2000000 in
theorem index_any {w : World} {oa : Option Addr} {n c : Nat} {L : List Ct} (H : Cts w oa n c L) : Calls Try.prog 74 #[.slice oa n c] w fun e w' => ∃ v, e = .returned (.tuple #[v, .bool (chkL L)]) ∧ IxR w w' L v := by
  have hmm := @run_makeMap Try.prog
  have hln : L.length = n := H.sl.len.symm
  have hmax : n ≤ maxLen := H.sl.max
  have HS := Lib.hid (And.intro H hln)
  clear H hln
  go_enter Try.func74, Try.ntmps74
  go_wp2_with fail
  clear hmm
  go_loopw [10] (fun iv wr => ∃ i : Nat, i ≤ n ∧ iv = .int .i64 i ∧ (L.take i).all okC = true ∧ CntAt wr w.heap.size (ixC (L.take i)) ∧ Below w.heap.size w wr) (fun iv _ => n - (intOf iv).toNat)
  case atStart => exact ⟨0, Nat.zero_le _, rfl, rfl, CntAt.made (hnew _ _), (Below.refl _ _).alloc (Nat.le_refl _) _⟩
  case round =>
    obtain ⟨i, hi, rfl, hall, htab, hb⟩ := hrel
    obtain ⟨w2, rfl⟩ : ∃ w2 : World, w2 = wr := ⟨_, rfl⟩
    by_cases hlt : i < n
    · have hil : ((i : Int) < (n : Int)) = True := by simp; omega
      have hi0 : ((0 : Int) ≤ (i : Int)) = True := by simp
      have hw3 := wrapS hlt hmax
      have hgm : L.getD i default ∈ L := getD_mem (by rw [HS.out.2]; exact hlt)
      obtain ⟨ha, hok⟩ := HS.out.1.ok _ hgm
      have hix := ixC_succ (L := L) (i := i) (by rw [HS.out.2]; exact hlt)
      have hal1 := all_succ (L := L) (i := i) (by rw [HS.out.2]; exact hlt)
      have hbad := chk_bad (L := L) (i := i) (by rw [HS.out.2]; exact hlt)
      obtain ⟨b, o, hbo, hrow⟩ := HS.out.1.sl.row (by omega)
      subst hbo
      have hat := (hrow.below hb).get i (by rw [HS.out.2]; exact hlt)
      rw [hall, Bool.true_and] at hal1
      generalize L.getD i default = y at *
      have y0 := hat 0 (by decide)
      have y1 := hat 1 (by decide)
      have y2 := hat 2 (by decide)
      simp only [RCt, Nat.add_zero, List.getElem?_cons_zero, List.getElem?_cons_succ] at y0 y1 y2
      have hal := (Below.refl w2.heap.size w2).alloc (Nat.le_refl _) (.cells #[.int .u32 (y.p.1 : Int), .int .i64 y.p.2, .int .i64 y.n] 128)
      have hxs : CtS w2.heap.size y (w2.alloc (.cells #[.int .u32 (y.p.1 : Int), .int .i64 y.p.2, .int .i64 y.n] 128)) := hnew _ _
      obtain ⟨x0, x1, x2⟩ := hxs.cells
      have F1 := Lib.hid (And.intro hxs (And.intro (htab.keep hal) (bcall hb (Nat.le_refl _) hal)))
      have G := Lib.hid (And.intro ha (And.intro hok (And.intro hix (And.intro hal1 hbad))))
      have HCK := Lib.hid (check_any y.p.1 y.p.2 ha)
      clear hgm ha hok hix hal1 hbad hrow hat hal hxs htab hb hall
      unfold pfx at HCK
      cases hp : okP y.p.1 y.p.2 with
      | false =>
        rw [hp, if_neg (by decide)] at HCK
        have HP := Lib.hid (show chkL L = false from G.out.2.2.2.2 (by unfold okC; rw [hp]; rfl))
        clear hp
        go_wp2_with fail
        refine (HCK.out _).mono ?_
        rintro e W3 ⟨rfl, hb⟩
        have F2 := Lib.hid (bcall F1.out.2.2 (Nat.le_refl _) hb)
        clear hb F1 y0 y1 y2 x0 x1 x2 HCK
        go_wp2_with fail
        go_ret2
        exact ⟨_, ret_vb HP.out.symm, F2.out, fun h => by rw [HP.out] at h; cases h⟩
      | true =>
        rw [hp, if_pos rfl] at HCK
        have HW := Lib.hid (within_any y.n 0 9007199254740991)
        have HCN := Lib.hid (show okC y = inM y.n from by unfold okC; rw [hp]; rfl)
        have hin0 : (decide (0 ≤ y.n) && decide (y.n ≤ 9007199254740991)) = inM y.n := rfl
        rw [hin0] at HW
        clear hp hin0
        go_wp2_with fail
        refine (HCK.out _).mono ?_
        rintro e W3 ⟨rfl, hb⟩
        obtain ⟨q, hq⟩ : ∃ q, w2.heap.size = q := ⟨_, rfl⟩
        have F2 := Lib.hid (show CtS q y W3 ∧ CntAt W3 w.heap.size (ixC (L.take i)) ∧ Below w.heap.size w W3 from hq ▸ And.intro (F1.out.1.keep hb) (And.intro (F1.out.2.1.keep hb) (bcall F1.out.2.2 (Nat.le_refl _) hb)))
        rw [hq]
        clear hq hb F1 y0 y1 y2 x0 x1 x2 HCK
        obtain ⟨x0, x1, x2⟩ := F2.out.1.cells
        obtain ⟨O, hup, htab⟩ := F2.out.2.1.update G.out.2.1 y.n
        rw [show (⟨y.p, y.n⟩ : Ct) = y from rfl, ← G.out.2.2.1] at htab
        have F3 := Lib.hid (And.intro htab (below_put F2.out.2.2 (Nat.le_refl _) O))
        clear htab
        cases hin : inM y.n with
        | false =>
          rw [hin] at HW
          have HP := Lib.hid (show chkL L = false from G.out.2.2.2.2 (by rw [HCN.out]; exact hin))
          clear hin
          go_wp2_with fail
          refine (HW.out _).mono ?_
          rintro e W4 ⟨rfl, hw4⟩
          subst hw4
          go_wp2_with fail
          go_ret2
          exact ⟨_, ret_vb HP.out.symm, F2.out.2.2, fun h => by rw [HP.out] at h; cases h⟩
        | true =>
          rw [hin] at HW
          have HP := Lib.hid (show (L.take (i + 1)).all okC = true from by rw [G.out.2.2.2.1, HCN.out]; exact hin)
          clear hin
          go_wp2_with fail
          refine (HW.out _).mono ?_
          rintro e W4 ⟨rfl, hw4⟩
          subst hw4
          go_wp2_with fail
          exact ⟨⟨i + 1, hlt, by first | rw [hw3] | rw [Int.natCast_succ], HP.out, F3.out.1, F3.out.2⟩, by first | (rw [hw3]; exact mSucc hlt) | (rw [← Int.natCast_succ]; exact mSucc hlt)⟩
    · obtain rfl : n = i := by omega
      have hil : ((n : Int) < (n : Int)) = False := by simp
      rw [List.take_of_length_le (by rw [HS.out.2]; exact Nat.le_refl _)] at htab hall
      have hlen := fun ty => htab.len w2 rfl ty
      obtain ⟨k, hk⟩ : ∃ k, (ixC L).length = k := ⟨_, rfl⟩
      rw [hk] at hlen
      have hck : chkL L = (((k : Int) == (n : Int)) && decide (n ≤ 1024)) := by
        unfold chkL
        rw [hall, hk, HS.out.2, Bool.true_and]
        congr 1
        rw [Bool.eq_iff_iff]
        simp
        omega
      have F2 := Lib.hid (show IxR w w2 L (.map (some w.heap.size)) from ⟨hb, fun h => ⟨_, rfl, Nat.le_refl _, by
        have hnd : (L.map Ct.p).Nodup := (ixC_len L).2.1 (by
          unfold chkL at h
          simp at h
          exact h.2.1)
        rw [← ixC_id L hnd]
        exact htab⟩⟩)
      have HK := Lib.hid hck
      clear hck hall htab hb hk
      cases hkn : ((k : Int) == (n : Int)) with
      | false =>
        rw [hkn] at HK
        go_wp2_with fail
        go_ret2
        exact ⟨_, ret_vb (HK.out.trans (Bool.false_and _)).symm, F2.out⟩
      | true =>
        rw [hkn] at HK
        by_cases h4 : n ≤ 1024
        · have h4t : ((n : Int) ≤ 1024) = True := by simp; omega
          have HK2 := Lib.hid (show chkL L = true from by rw [HK.out]; simp [h4])
          clear h4 HK
          go_wp2_with fail
          go_ret2
          exact ⟨_, ret_vb HK2.out.symm, F2.out⟩
        · have h4t : ((n : Int) ≤ 1024) = False := by simp; omega
          have HK2 := Lib.hid (show chkL L = false from by rw [HK.out]; simp [h4])
          clear h4 HK
          go_wp2_with fail
          go_ret2
          exact ⟨_, ret_vb HK2.out.symm, F2.out⟩
end Go.Proofs.Ytfmehahjjgalfaa.Me
/- Meter: Check, the meter in memory, New, others. -/
namespace Go.Proofs.Ytfmehahjjgalfaa.Me
open Go.RowKit
open Go.ChangeMaps (setBlock)

def inS (n : Int) : Bool := decide (0 ≤ n) && decide (n ≤ 15)
def chkR (src seq : Int) (L : List Ct) : Bool := chkL L && (inS src && inM seq)
def RpS (q : Nat) (src seq : Int) (oa : Option Addr) (n c : Nat) (w : World) : Prop := w.heap[q]? = some (.cells #[.int .i64 src, .int .i64 seq, .slice oa n c] 82)
theorem RpS.cells {q : Nat} {src seq : Int} {oa : Option Addr} {n c : Nat} {w : World} (h : RpS q src seq oa n c w) : w.cell? ⟨q, 0, none⟩ = some (.int .i64 src) ∧ w.cell? ⟨q, 1, none⟩ = some (.int .i64 seq) ∧ w.cell? ⟨q, 2, none⟩ = some (.slice oa n c) := ⟨cell_of h rfl, cell_of h rfl, cell_of h rfl⟩
theorem RpS.keep {q : Nat} {src seq : Int} {oa : Option Addr} {n c : Nat} {w w' : World} (h : RpS q src seq oa n c w) (hb : Below w.heap.size w w') : RpS q src seq oa n c w' := (hb.block _ (lt_of_blk h)).trans h
set_option maxRecDepth 100000 in
set_option maxHeartbeats 2000000 in
theorem mcheck_any {w : World} {oa : Option Addr} {n c : Nat} {L : List Ct} (H : Cts w oa n c L) (src seq : Int) : Calls Try.prog 47 #[.agg #[.int .i64 src, .int .i64 seq, .slice oa n c]] w fun e w' => e = .returned (.int .i64 (if chkR src seq L then 0 else 1)) ∧ Below w.heap.size w w' := by
  have hal := (Below.refl w.heap.size w).alloc (Nat.le_refl _) (.cells #[.int .i64 src, .int .i64 seq, .slice oa n c] 82)
  have hks : RpS w.heap.size src seq oa n c (w.alloc (.cells #[.int .i64 src, .int .i64 seq, .slice oa n c] 82)) := hnew _ _
  obtain ⟨z0, z1, z2⟩ := hks.cells
  have HI := Lib.hid (index_any (H.keep hal))
  have F := Lib.hid (And.intro hal hks)
  have HW1 := Lib.hid (within_any src 0 15)
  have HW2 := Lib.hid (within_any seq 0 9007199254740991)
  have e1 : (decide (0 ≤ src) && decide (src ≤ 15)) = inS src := rfl
  have e2 : (decide (0 ≤ seq) && decide (seq ≤ 9007199254740991)) = inM seq := rfl
  rw [e1] at HW1
  rw [e2] at HW2
  obtain ⟨k, hk⟩ : ∃ k, (if chkR src seq L then (0 : Int) else 1) = k := ⟨_, rfl⟩
  rw [hk]
  have HK := Lib.hid hk
  clear hal hks H e1 e2 hk
  go_enter Try.func47, Try.ntmps47
  go_wp2_with fail
  refine HI.out.mono ?_
  rintro e W1 ⟨v, rfl, hix⟩
  obtain ⟨q, hq⟩ : ∃ q, w.heap.size = q := ⟨_, rfl⟩
  have F2 := Lib.hid (show Below w.heap.size w W1 ∧ RpS q src seq oa n c W1 from hq ▸ And.intro (bcall F.out.1 (Nat.le_refl _) hix.1) (F.out.2.keep hix.1))
  rw [hq]
  clear hq hix F HI z0 z1 z2
  obtain ⟨z0, z1, z2⟩ := F2.out.2.cells
  cases hc : chkL L with
  | false =>
    have HR := Lib.hid (show 1 = k from by rw [← HK.out]; unfold chkR; rw [hc]; rfl)
    clear hc
    go_wp2_with fail
    go_ret
    exact ⟨ret_int HR.out, F2.out.1⟩
  | true =>
    cases hs : inS src with
    | false =>
      rw [hs] at HW1
      have HR := Lib.hid (show 1 = k from by rw [← HK.out]; unfold chkR; rw [hc, hs]; rfl)
      clear hc hs
      go_wp2_with fail
      refine (HW1.out _).mono ?_
      rintro e W4 ⟨rfl, hw4⟩
      subst hw4
      go_wp2_with fail
      go_ret
      exact ⟨ret_int HR.out, F2.out.1⟩
    | true =>
      rw [hs] at HW1
      cases hm : inM seq with
      | false =>
        rw [hm] at HW2
        have HR := Lib.hid (show 1 = k from by rw [← HK.out]; unfold chkR; rw [hc, hs, hm]; rfl)
        clear hc hs hm
        go_wp2_with fail
        refine (HW1.out _).mono ?_
        rintro e W4 ⟨rfl, hw4⟩
        subst hw4
        go_wp2_with fail
        refine (HW2.out _).mono ?_
        rintro e W4 ⟨rfl, hw4⟩
        subst hw4
        go_wp2_with fail
        go_ret
        exact ⟨ret_int HR.out, F2.out.1⟩
      | true =>
        rw [hm] at HW2
        have HR := Lib.hid (show 0 = k from by rw [← HK.out]; unfold chkR; rw [hc, hs, hm]; rfl)
        clear hc hs hm
        go_wp2_with fail
        refine (HW1.out _).mono ?_
        rintro e W4 ⟨rfl, hw4⟩
        subst hw4
        go_wp2_with fail
        refine (HW2.out _).mono ?_
        rintro e W4 ⟨rfl, hw4⟩
        subst hw4
        go_wp2_with fail
        go_ret
        exact ⟨ret_int HR.out, F2.out.1⟩
/-- a report that was taken -/
structure Rp where
  seq : Int
  at' : Int
  cs : List Ct
deriving Inhabited
structure Rp.ok (r : Rp) : Prop where
  seq : inM r.seq = true
  at' : inM r.at' = true
  chk : chkL r.cs = true
structure Src where
  last : Option Rp
  ahead : Option Rp
deriving Inhabited
structure Src.ok (s : Src) : Prop where
  last : ∀ r, s.last = some r → r.ok
  ahead : ∀ r, s.ahead = some r → r.ok
  two : s.last = none → s.ahead = none
theorem chkL_len {L : List Ct} (h : chkL L = true) : L.length ≤ 1024 := by unfold chkL at h; simp at h; exact h.2.2
theorem chkL_nd {L : List Ct} (h : chkL L = true) : (L.map Ct.p).Nodup := by unfold chkL at h; simp at h; exact (ixC_len L).2.1 h.2.1
theorem chkL_ok {L : List Ct} (h : chkL L = true) {x : Ct} (hx : x ∈ L) : okC x = true := by
  unfold chkL at h
  rw [Bool.and_eq_true] at h
  exact List.all_eq_true.1 h.1 x hx
def TkAt (w : World) (b : Nat) (r : Rp) : Prop := ∃ bm, w.heap[b]? = some (.cells #[.int .i64 r.seq, .int .i64 r.at', .map (some bm)] 135) ∧ CntAt w bm r.cs
def PtrAt (w : World) (p : Option Addr) (o : Option Rp) : Prop := match o with
  | none => p = none
  | some r => ∃ b, p = some ⟨b, 0, none⟩ ∧ TkAt w b r
structure MetAt (w : World) (m : Nat) (X : Nat → Src) : Prop where
  out : ∃ A : Array Value, A.size = 33 ∧ w.heap[m]? = some (.cells A 126) ∧ A[32]? = some (.bool true) ∧ ∀ i : Nat, i < 16 → ∃ p q, A[i * 2]? = some (.pointer p) ∧ A[i * 2 + 1]? = some (.pointer q) ∧ PtrAt w p (X i).last ∧ PtrAt w q (X i).ahead
  ok : ∀ i, i < 16 → (X i).ok
theorem MetAt.lt {w : World} {m : Nat} {X : Nat → Src} (H : MetAt w m X) : m < w.heap.size := by
  obtain ⟨A, -, h, -⟩ := H.out
  exact lt_of_blk h
theorem TkAt.on {w w' : World} {b m : Nat} {A : Array Value} {r : Rp} (H : TkAt w b r) (hm : w.heap[m]? = some (.cells A 126)) (h : ∀ k, k < w.heap.size → k ≠ m → w'.heap[k]? = w.heap[k]?) : TkAt w' b r := by
  obtain ⟨bm, h1, h2⟩ := H
  have hb : b ≠ m := by rintro rfl; rw [h1] at hm; cases hm
  have hc : bm ≠ m := by
    rintro rfl
    obtain ⟨clk, es, k2, k3⟩ := h2.out
    rw [k2.blk] at hm; cases hm
  exact ⟨bm, (h b (lt_of_blk h1) hb).trans h1, h2.on (h bm h2.lt hc)⟩
theorem PtrAt.on {w w' : World} {m : Nat} {A : Array Value} {p : Option Addr} {o : Option Rp} (H : PtrAt w p o) (hm : w.heap[m]? = some (.cells A 126)) (h : ∀ k, k < w.heap.size → k ≠ m → w'.heap[k]? = w.heap[k]?) : PtrAt w' p o := by
  cases o with
  | none => exact H
  | some r =>
    obtain ⟨b, h1, h2⟩ := H
    exact ⟨b, h1, h2.on hm h⟩
theorem MetAt.keep {w w' : World} {m : Nat} {X : Nat → Src} (H : MetAt w m X) (hb : Below w.heap.size w w') : MetAt w' m X := by
  obtain ⟨A, h1, h2, h3, h4⟩ := H.out
  exact ⟨⟨A, h1, (hb.block _ (lt_of_blk h2)).trans h2, h3, fun i hi => by
    obtain ⟨p, q, k1, k2, k3, k4⟩ := h4 i hi
    exact ⟨p, q, k1, k2, k3.on h2 fun k hk _ => hb.block k hk, k4.on h2 fun k hk _ => hb.block k hk⟩⟩, H.ok⟩
theorem run_index {P : Program} {T E : TypeId} {len k : Nat} (ht : P.underlying T = some (.array len E)) (ha : ∀ w, (isAgg E).run P w = .ok true w) (hz : ∀ w, (Go.sizeOf E).run P w = .ok k w) {cs : Array Value} {i : Nat} (hi : i < len) (w : World) : (Instr.index T (.agg cs) (.int .i64 (i : Int))).run P w = .ok (.agg (cs.extract (i * k) (i * k + k))) w := by
  have hc : (0 : Int) ≤ (i : Int) ∧ (i : Int) < (len : Int) := by omega
  unfold Instr.index
  simp only [asIntOf, Sem.run_bind, Sem.run_pure, Result.andThen_ok, run_underlying ht]
  rw [if_pos hc]
  simp only [part, Sem.run_bind, ha w, Result.andThen_ok, if_true, hz w, Sem.run_pure, Int.toNat_natCast]
/-- a range over all sources -/
structure AllS (w : World) (A : Array Value) (X : Nat → Src) : Prop where
  ix : ∀ i : Nat, i < 16 → ∃ p q, (∀ w, (Instr.index 124 (.agg A) (.int .i64 (i : Int))).run Try.prog w = .ok (.agg #[.pointer p, .pointer q]) w) ∧ PtrAt w p (X i).last ∧ PtrAt w q (X i).ahead
theorem MetAt.all {w : World} {m : Nat} {X : Nat → Src} (H : MetAt w m X) : ∃ A : Array Value, A.size = 32 ∧ w.rangeAt m 0 A.toList ∧ AllS w A X := by
  obtain ⟨A, h1, h2, h3, h4⟩ := H.out
  refine ⟨A.extract 0 32, by simp [h1], ?_, ⟨fun i hi => ?_⟩⟩
  · intro j v hv
    refine cell_of h2 ?_
    rw [Array.getElem?_toList, Array.getElem?_extract] at hv
    split at hv
    · simpa using hv
    · cases hv
  · obtain ⟨p, q, k1, k2, k3, k4⟩ := h4 i hi
    refine ⟨p, q, fun w => ?_, k3, k4⟩
    rw [run_index (P := Try.prog) (len := 16) (k := 2) Try.underlying124 (fun w => by kernel_rfl) (fun w => by kernel_rfl) hi w]
    congr 2
    refine Array.ext' (List.ext_getElem? fun j => ?_)
    rw [Array.getElem?_toList, Array.getElem?_toList, Array.getElem?_extract]
    by_cases hj : j < 2
    · have hj2 : j = 0 ∨ j = 1 := by omega
      rw [if_pos (by simp [h1]; omega), Array.getElem?_extract, if_pos (by simp [h1]; omega)]
      rcases hj2 with rfl | rfl
      · simpa using k1
      · simpa using k2
    · rw [if_neg (by omega)]
      match j, hj with
      | 0, hj => omega
      | 1, hj => omega
      | j + 2, _ => simp
theorem AllS.keep {w w' : World} {m : Nat} {A : Array Value} {X : Nat → Src} (h : AllS w A X) (H : MetAt w m X) (hb : Below w.heap.size w w') : AllS w' A X := by
  obtain ⟨B, h1, h2, h3, h4⟩ := H.out
  exact ⟨fun i hi => by
    obtain ⟨p, q, k1, k3, k4⟩ := h.ix i hi
    exact ⟨p, q, k1, k3.on h2 fun k hk _ => hb.block k hk, k4.on h2 fun k hk _ => hb.block k hk⟩⟩
/-- an array of another block is loaded -/
theorem load_mid {P : Program} {ops : Array Oper} {rest : List Oper} {o : Oper} {a : Act} {Q : Exit → Act → World → Prop} {w : World} (hgd : o.guard = none) (ty : TypeId) (x : Operand) (ho : o.op = .load ty x) (b off : Nat) (cells : Array Value) (hx : a.eval x = .pointer (some ⟨b, off, none⟩))
    (hb : w.rangeAt b off cells.toList) {d : TypeDesc} (hu : P.underlying ty = some d) (hd : d.isRow = true) (hi : (P.info? ty).map (·.size) = some cells.size) (h : wpList P ops Q rest (a.put o.dst (.agg cells)) w) : wpList P ops Q (o :: rest) a w :=
  op_value hgd _ (exec_load_mid ty x ho b off cells hx hb hu hd hi) h
theorem infoA : (Try.prog.info? 124).map (·.size) = some 32 := by kernel_rfl
set_option maxRecDepth 100000 in
theorem mnew_any (w : World) : Calls Try.prog 44 #[] w fun e w' => e = .returned (.pointer (some ⟨w.heap.size, 0, none⟩)) ∧ MetAt w' w.heap.size (fun _ => ⟨none, none⟩) ∧ Below w.heap.size w w' := by
  go_enter Try.func44, Try.ntmps44
  go_wp2_with fail
  go_ret
  refine ⟨rfl, ⟨⟨_, ?_, hnew _ _, ?_, ?_⟩, fun i _ => ⟨fun r h => (by cases h), fun r h => (by cases h), fun _ => rfl⟩⟩, (Below.refl _ _).alloc (Nat.le_refl _) _⟩
  · rfl
  · rfl
  · intro i hi
    refine ⟨none, none, ?_, ?_, rfl, rfl⟩
    · match i, hi with
      | 0, _ | 1, _ | 2, _ | 3, _ | 4, _ | 5, _ | 6, _ | 7, _ | 8, _ | 9, _ | 10, _ | 11, _ | 12, _ | 13, _ | 14, _ | 15, _ => rfl
      | n + 16, h => exact absurd h (by omega)
    · match i, hi with
      | 0, _ | 1, _ | 2, _ | 3, _ | 4, _ | 5, _ | 6, _ | 7, _ | 8, _ | 9, _ | 10, _ | 11, _ | 12, _ | 13, _ | 14, _ | 15, _ => rfl
      | n + 16, h => exact absurd h (by omega)
end Go.Proofs.Ytfmehahjjgalfaa.Me
/- Meter: others, Stamp. -/
namespace Go.Proofs.Ytfmehahjjgalfaa.Me
open Go.RowKit
open Go.ChangeMaps (setBlock)

def lenO (s : Src) : Nat := match s.last with | some r => r.cs.length | none => 0
theorem lenO_le {s : Src} (h : s.ok) : lenO s ≤ 1024 := by
  unfold lenO
  split
  · rename_i r e; exact chkL_len (h.last r e).chk
  · omega
def oth (X : Nat → Src) (k : Int) (i : Nat) : Nat := ((List.range i).map fun (j : Nat) => if (j : Int) = k then 0 else lenO (X j)).sum
theorem oth_succ (X : Nat → Src) (k : Int) (i : Nat) : oth X k (i + 1) = oth X k i + if (i : Int) = k then 0 else lenO (X i) := by
  unfold oth
  rw [List.range_succ, List.map_append, List.sum_append]
  simp
theorem oth_le {X : Nat → Src} (h : ∀ i, i < 16 → (X i).ok) (k : Int) (i : Nat) (hi : i ≤ 16) : oth X k i ≤ i * 1024 := by
  induction i with
  | zero => simp [oth]
  | succ i ih =>
    rw [oth_succ]
    have h1 := ih (Nat.le_of_succ_le hi)
    have h2 := lenO_le (h i hi)
    rw [Nat.succ_mul]
    refine Nat.add_le_add h1 ?_
    split
    · exact Nat.zero_le _
    · exact h2
def SrS (b : Nat) (p q : Option Addr) (w : World) : Prop := w.heap[b]? = some (.cells #[.pointer p, .pointer q] 123)
theorem SrS.cells {b : Nat} {p q : Option Addr} {w : World} (h : SrS b p q w) : w.cell? ⟨b, 0, none⟩ = some (.pointer p) ∧ w.cell? ⟨b, 1, none⟩ = some (.pointer q) := ⟨cell_of h rfl, cell_of h rfl⟩
theorem SrS.keep {b : Nat} {p q : Option Addr} {w w' : World} (h : SrS b p q w) (hb : Below w.heap.size w w') : SrS b p q w' := (hb.block _ (lt_of_blk h)).trans h
theorem TkAt.keep {w w' : World} {b : Nat} {r : Rp} (H : TkAt w b r) (hb : Below w.heap.size w w') : TkAt w' b r := by
  obtain ⟨bm, h1, h2⟩ := H
  exact ⟨bm, (hb.block _ (lt_of_blk h1)).trans h1, h2.keep hb⟩
theorem PtrAt.keep {w w' : World} {p : Option Addr} {o : Option Rp} (H : PtrAt w p o) (hb : Below w.heap.size w w') : PtrAt w' p o := by
  cases o with
  | none => exact H
  | some r =>
    obtain ⟨b, h1, h2⟩ := H
    exact ⟨b, h1, h2.keep hb⟩
set_option maxRecDepth 100000 in
set_option maxHeartbeats 2000000 in
theorem others_any {w : World} {m : Nat} {X : Nat → Src} (H : MetAt w m X) (k : Int) : Calls Try.prog 76 #[.pointer (some ⟨m, 0, none⟩), .int .i64 k] w fun e w' => e = .returned (.int .i64 (oth X k 16 : Nat)) ∧ Below w.heap.size w w' := by
  obtain ⟨A, hA, hra, hall⟩ := H.all
  have HM := Lib.hid (And.intro H hall)
  clear H hall
  go_enter Try.func76, Try.ntmps76
  go_wp2_with (with_reducible refine halt_load 124 rfl ?_)
  refine Halted.go ?_
  refine load_mid rfl 124 _ rfl m 0 A rfl hra Try.underlying124 rfl (by rw [hA]; exact infoA) ?_
  clear hra hA
  go_wp2_with fail
  go_loopw [5, 12] (fun nv iv wr => ∃ i : Nat, i ≤ 16 ∧ iv = .int .i64 i ∧ nv = .int .i64 (oth X k i : Nat) ∧ Below w.heap.size w wr) (fun _ iv _ => 16 - (intOf iv).toNat)
  case atStart => exact ⟨0, Nat.zero_le _, rfl, rfl, Below.refl _ _⟩
  case round =>
    obtain ⟨i, hi, rfl, rfl, hb⟩ := hrel
    obtain ⟨w2, rfl⟩ : ∃ w2 : World, w2 = wr := ⟨_, rfl⟩
    have hsc := oth_succ X k i
    have hle := oth_le HM.out.1.ok k i hi
    by_cases hlt : i < 16
    · have hil : ((i : Int) < 16) = True := by simp; omega
      have hw3 := wrapS hlt (show 16 ≤ maxLen by unfold maxLen; omega)
      obtain ⟨p, q, hix, hp, hq⟩ := (HM.out.2.keep HM.out.1 hb).ix i hlt
      have hll := lenO_le (HM.out.1.ok i hlt)
      have hal := (Below.refl w2.heap.size w2).alloc (Nat.le_refl _) (.cells #[.pointer p, .pointer q] 123)
      have hxs : SrS w2.heap.size p q (w2.alloc (.cells #[.pointer p, .pointer q] 123)) := hnew _ _
      obtain ⟨x0, x1⟩ := hxs.cells
      have hpk := hp.keep hal
      have F := Lib.hid (bcall hb (Nat.le_refl _) hal)
      clear hal hxs hb hq hp
      by_cases hk : (i : Int) = k
      · replace hsc : oth X k (i + 1) = oth X k i := hsc.trans (by rw [if_pos hk]; exact Nat.add_zero _)
        obtain rfl : k = (i : Int) := hk.symm
        have hkt : ((i : Int) == (i : Int)) = true := by simp
        have HS := Lib.hid hsc
        clear hk hsc hll hle hpk
        go_wp2_with fail
        exact ⟨⟨i + 1, hlt, by first | rw [hw3] | rw [Int.natCast_succ], by rw [HS.out], F.out⟩, by first | (rw [hw3]; exact mSucc hlt) | (rw [← Int.natCast_succ]; exact mSucc hlt)⟩
      · have hkt : ((i : Int) == k) = false := by simp [hk]
        have hkn : ((i : Int) != k) = true := by simp [hk]
        have hkf : ((i : Int) = k) = False := by simp [hk]
        rw [if_neg hk] at hsc
        cases hl : (X i).last with
        | none =>
          rw [hl] at hpk
          obtain rfl : p = none := hpk
          have HS := Lib.hid (show oth X k (i + 1) = oth X k i from by rw [hsc]; unfold lenO; rw [hl]; rfl)
          clear hk hsc hll hle hl
          go_wp2_with fail
          exact ⟨⟨i + 1, hlt, by first | rw [hw3] | rw [Int.natCast_succ], by rw [HS.out], F.out⟩, by first | (rw [hw3]; exact mSucc hlt) | (rw [← Int.natCast_succ]; exact mSucc hlt)⟩
        | some r =>
          rw [hl] at hpk
          obtain ⟨b, rfl, bm, h1, h2⟩ := hpk
          have y2 := cell_of (o := 2) h1 rfl
          have hln := fun ty => h2.len _ rfl ty
          have hlo : lenO (X i) = r.cs.length := by unfold lenO; rw [hl]
          rw [hlo] at hsc hll
          generalize r.cs.length = ln at *
          generalize oth X k i = s at *
          have hwp : wrap64 ((s : Int) + (ln : Int)) = ((s + ln : Nat) : Int) := by unfold wrap64; omega
          have HS := Lib.hid hsc
          clear hk hsc hll hle hl h1 h2 hlo
          go_wp2_with fail
          refine ⟨⟨i + 1, hlt, by first | rw [hw3] | rw [Int.natCast_succ], by rw [HS.out]; first | rw [hwp] | rw [Int.natCast_add], F.out⟩, by first | (rw [hw3]; exact mSucc hlt) | (rw [← Int.natCast_succ]; exact mSucc hlt)⟩
    · obtain rfl : 16 = i := by omega
      have F := Lib.hid hb
      clear hsc hle hb
      go_wp2_with fail
      go_ret
      exact ⟨rfl, F.out⟩
theorem MetAt.at {w : World} {m : Nat} {X : Nat → Src} (H : MetAt w m X) {i : Nat} (hi : i < 16) : ∃ p q, w.cell? ⟨m, i * 2, none⟩ = some (.pointer p) ∧ w.cell? ⟨m, i * 2 + 1, none⟩ = some (.pointer q) ∧ PtrAt w p (X i).last ∧ PtrAt w q (X i).ahead := by
  obtain ⟨A, h1, h2, h3, h4⟩ := H.out
  obtain ⟨p, q, k1, k2, k3, k4⟩ := h4 i hi
  exact ⟨p, q, cell_of h2 k1, cell_of h2 k2, k3, k4⟩
theorem MetAt.made {w : World} {m : Nat} {X : Nat → Src} (H : MetAt w m X) : w.cell? ⟨m, 32, none⟩ = some (.bool true) := by
  obtain ⟨A, h1, h2, h3, h4⟩ := H.out
  exact cell_of h2 h3
def stampV (X : Nat → Src) (s : Int) : Int := if inS s then (match (X s.toNat).last with | some r => r.at' | none => 0) else 0
def stampB (X : Nat → Src) (s : Int) : Bool := inS s && (X s.toNat).last.isSome
theorem ret_nb {a b : Int} {x y : Bool} (h : a = b) (k : x = y) : Ending.returned (.tuple #[.int .i64 a, .bool x]) = .returned (.tuple #[.int .i64 b, .bool y]) := by rw [h, k]
set_option maxRecDepth 100000 in
theorem stamp_any {w : World} {m : Nat} {X : Nat → Src} (H : MetAt w m X) (s : Int) : Calls Try.prog 50 #[.pointer (some ⟨m, 0, none⟩), .int .i64 s] w fun e w' => e = .returned (.tuple #[.int .i64 (stampV X s), .bool (stampB X s)]) ∧ w' = w := by
  have HW := Lib.hid (within_any s 0 15)
  have e1 : (decide (0 ≤ s) && decide (s ≤ 15)) = inS s := rfl
  rw [e1] at HW
  clear e1
  obtain ⟨v, hv⟩ : ∃ v, stampV X s = v := ⟨_, rfl⟩
  obtain ⟨u, hu⟩ : ∃ u, stampB X s = u := ⟨_, rfl⟩
  rw [hv, hu]
  have HV := Lib.hid (And.intro hv hu)
  clear hv hu
  cases hs : inS s with
  | false =>
    have HR := Lib.hid (show 0 = v ∧ false = u from ⟨by rw [← HV.out.1]; unfold stampV; rw [hs]; rfl, by rw [← HV.out.2]; unfold stampB; rw [hs]; rfl⟩)
    rw [hs] at HW
    clear hs H
    go_enter Try.func50, Try.ntmps50
    go_wp2_with fail
    refine (HW.out _).mono ?_
    rintro e W4 ⟨rfl, hw4⟩
    subst hw4
    go_wp2_with fail
    go_ret2
    exact ⟨ret_nb HR.out.1 HR.out.2, rfl⟩
  | true =>
    rw [hs] at HW
    have hs2 : 0 ≤ s ∧ s ≤ 15 := by unfold inS at hs; simpa using hs
    obtain ⟨i, rfl⟩ : ∃ i : Nat, s = (i : Int) := ⟨s.toNat, by omega⟩
    have hi : i < 16 := by omega
    have hi0 : ((0 : Int) ≤ (i : Int)) = True := by simp
    have hi1 : ((i : Int) < 16) = True := by simp; omega
    obtain ⟨p, q, z0, z1, k3, k4⟩ := H.at hi
    cases hl : (X i).last with
    | none =>
      rw [hl] at k3
      obtain rfl : p = none := k3
      have HR := Lib.hid (show 0 = v ∧ false = u from ⟨by rw [← HV.out.1]; unfold stampV; rw [hs, if_pos rfl, Int.toNat_natCast, hl], by rw [← HV.out.2]; unfold stampB; rw [hs, Int.toNat_natCast, hl]; rfl⟩)
      clear hs hs2 k4 H hl hi
      go_enter Try.func50, Try.ntmps50
      go_wp2_with fail
      refine (HW.out _).mono ?_
      rintro e W4 ⟨rfl, hw4⟩
      subst hw4
      go_wp2_with fail
      go_ret2
      exact ⟨ret_nb HR.out.1 HR.out.2, rfl⟩
    | some r =>
      rw [hl] at k3
      obtain ⟨b, rfl, bm, h1, h2⟩ := k3
      have y1 := cell_of (o := 1) h1 rfl
      have HR := Lib.hid (show r.at' = v ∧ true = u from ⟨by rw [← HV.out.1]; unfold stampV; rw [hs, if_pos rfl, Int.toNat_natCast, hl], by rw [← HV.out.2]; unfold stampB; rw [hs, Int.toNat_natCast, hl]; rfl⟩)
      clear hs hs2 k4 H hl hi h1 h2
      go_enter Try.func50, Try.ntmps50
      go_wp2_with fail
      refine (HW.out _).mono ?_
      rintro e W4 ⟨rfl, hw4⟩
      subst hw4
      go_wp2_with fail
      go_ret2
      exact ⟨ret_nb HR.out.1 HR.out.2, rfl⟩
end Go.Proofs.Ytfmehahjjgalfaa.Me
