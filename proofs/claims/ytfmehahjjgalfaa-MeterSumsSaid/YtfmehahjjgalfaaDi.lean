/- The reference's table: Get, Delete, Same. -/
import Derived.Test.YtfmehahjjgalfaaDh
import Derived.Test.YtfmehahjjgalfaaPx
import Derived.Test.YtfmehahjjgalfaaAq
namespace Go.Proofs.Ytfmehahjjgalfaa
open Go.RowKit

set_option maxRecDepth 100000 in
theorem rtget_any {w : World} {base x : Nat} {L : List Ov} (H : RefT w base x L) (k : PK) : Calls Try.prog 41 #[.pointer (some ⟨x, 0, none⟩), pfx k.1 k.2] w fun e w' => e = .returned (.tuple #[(getO L k).v, .bool (hasO L k)]) ∧ Below w.heap.size w w' := by
  have hal := ((Below.refl w.heap.size w).alloc (Nat.le_refl _) (.cells #[.int .u32 (k.1 : Int), .int .i64 k.2] 58)).alloc (by simp) (.cells #[.int .i64 0, .int .u32 0, .int .i64 0, .int .i64 0, .int .i64 0] 62)
  have hz : ((w.alloc (.cells #[.int .u32 (k.1 : Int), .int .i64 k.2] 58)).alloc (.cells #[.int .i64 0, .int .u32 0, .int .i64 0, .int .i64 0, .int .i64 0] 62)).heap[w.heap.size + 1]? = some (.cells #[.int .i64 0, .int .u32 0, .int .i64 0, .int .i64 0, .int .i64 0] 62) := hnewAt (by simp)
  have hps : PfS w.heap.size k ((w.alloc (.cells #[.int .u32 (k.1 : Int), .int .i64 k.2] 58)).alloc (.cells #[.int .i64 0, .int .u32 0, .int .i64 0, .int .i64 0, .int .i64 0] 62)) := hold (hnew _ _)
  have HF := Lib.hid (rtfind_any (H.keep hal) k)
  have F := Lib.hid (And.intro hal (And.intro hz (H.keep hal)))
  obtain ⟨z0, z1⟩ := hps.cells
  have HGA := Lib.hid (fun h => get_at (k := k) H.ord h)
  have HGN := Lib.hid (show hasO L k = false → getO L k = ovZ from fun h => by
    unfold hasO at h
    unfold getO
    cases hl : Kl.look Ov.key L k with
    | none => rfl
    | some _ => rw [hl] at h; cases h)
  unfold pfx at HF
  clear hal hz hps H
  unfold pfx
  generalize getO L k = g at *
  generalize hasO L k = hs at *
  generalize idxO L k = ix at *
  go_enter Try.func41, Try.ntmps41
  go_wp2_with fail
  refine HF.out.mono ?_
  rintro e W1 ⟨rfl, hb⟩
  have F2 := Lib.hid (And.intro (bcall F.out.1 (Nat.le_refl _) hb) (And.intro ((hb.block _ (lt_of_blk F.out.2.1)).trans F.out.2.1) (F.out.2.2.keep hb)))
  clear hb HF F z0 z1
  cases hs with
  | false =>
    have hg := HGN.out rfl
    subst hg
    go_wp2_with (with_reducible refine halt_store 62 (x := .tmp 4) rfl ?_)
    refine Halted.go ?_
    refine store_whole rfl 62 _ _ rfl (w.heap.size + 1) #[.int .i64 0, .int .u32 0, .int .i64 0, .int .i64 0, .int .i64 0] rfl rfl F2.out.2.1 rfl (by kernel_rfl) (by simp [Value.oneCell']) ?_
    intro Wz hwz hsz
    have HZ := Lib.hid (And.intro hwz (F2.out.1.trans (hsz.below (Nat.le_succ _))))
    clear hwz hsz
    go_wp2_with fail
    refine ret_cell2 rfl rfl rfl HZ.out.1 Try.underlying62 rfl (by kernel_rfl) ?_
    exact ⟨rfl, HZ.out.2⟩
  | true =>
    obtain ⟨h1, -, h3⟩ := HGA.out rfl
    obtain ⟨a, c, h0, hsl, -, -, -⟩ := F2.out.2.2.len
    obtain ⟨b, o, rfl, hlt, hat⟩ := hsl.at h1
    have c0 : W1.cell? ⟨x, 0, none⟩ = some (.slice (some ⟨b, o, none⟩) L.length c) := cell_of h0 rfl
    rw [← h3] at hat
    have y0 := hat 0 (by decide)
    have y1 := hat 1 (by decide)
    have y2 := hat 2 (by decide)
    have y3 := hat 3 (by decide)
    have y4 := hat 4 (by decide)
    simp only [ROv, Nat.add_zero, List.getElem?_cons_zero, List.getElem?_cons_succ] at y0 y1 y2 y3 y4
    have hkl : ((ix : Int) < (L.length : Int)) = True := by simp; omega
    have hk0 : ((0 : Int) ≤ (ix : Int)) = True := by simp
    clear h0 hsl hlt hat h1 h3
    generalize L.length = n at *
    go_wp2_with (with_reducible refine halt_store 62 (x := .tmp 4) rfl ?_)
    refine Halted.go ?_
    refine store_whole rfl 62 _ _ rfl (w.heap.size + 1) #[.int .i64 g.r, .int .u32 (g.ad : Int), .int .i64 g.ln, .int .i64 g.id, .int .i64 g.till] rfl rfl F2.out.2.1 rfl (by kernel_rfl) (by simp [Value.oneCell']) ?_
    intro Wz hwz hsz
    have HZ := Lib.hid (And.intro hwz (F2.out.1.trans (hsz.below (Nat.le_succ _))))
    clear hwz hsz
    go_wp2_with fail
    refine ret_cell2 rfl rfl rfl HZ.out.1 Try.underlying62 rfl (by kernel_rfl) ?_
    exact ⟨rfl, HZ.out.2⟩
structure RDel (w w' : World) (base x : Nat) (L : List Ov) (k : PK) : Prop where
  tab : ∃ b', RefT w' b' x (L.filter fun y => decide (y.key ≠ k))
  but : But w w' [x]
def RxT (x : Nat) (v : Value) (w : World) : Prop := w.cell? ⟨x, 0, none⟩ = some v ∧ w.frozen? ⟨x, 0, none⟩ = false
set_option maxRecDepth 100000 in
set_option maxHeartbeats 2000000 in
theorem rtdel_any {w : World} {base x : Nat} {L : List Ov} (H : RefT w base x L) (hlen : L.length ≤ 4611686) (k : PK) : Calls Try.prog 35 #[.pointer (some ⟨x, 0, none⟩), pfx k.1 k.2] w fun e w' => e = .returned (.bool (hasO L k)) ∧ RDel w w' base x L k := by
  have hal := (Below.refl w.heap.size w).alloc (Nat.le_refl _) (.cells #[.int .u32 (k.1 : Int), .int .i64 k.2] 58)
  have hps : PfS w.heap.size k (w.alloc (.cells #[.int .u32 (k.1 : Int), .int .i64 k.2] 58)) := hnew _ _
  have HF := Lib.hid (rtfind_any (H.keep hal) k)
  have F := Lib.hid (And.intro hal (H.keep hal))
  obtain ⟨z0, z1⟩ := hps.cells
  have HGA := Lib.hid (fun h => get_at (k := k) H.ord h)
  have HDR := Lib.hid (fun h => del_ref H.ord (k := k) h)
  have HDN := Lib.hid (fun h => del_none (L := L) (k := k) h)
  have HOD := Lib.hid (H.ord.filter fun y => decide (y.key ≠ k))
  have HX := Lib.hid H.lx
  unfold pfx at HF
  clear hal hps H
  unfold pfx
  generalize getO L k = g at *
  generalize hasO L k = hs at *
  generalize idxO L k = ix at *
  go_enter Try.func35, Try.ntmps35
  go_wp2_with fail
  refine HF.out.mono ?_
  rintro e W1 ⟨rfl, hb⟩
  have F2 := Lib.hid (And.intro (bcall F.out.1 (Nat.le_refl _) hb) (F.out.2.keep hb))
  clear hb HF F z0 z1
  cases hs with
  | false =>
    go_wp2_with fail
    go_ret
    refine ⟨rfl, ⟨base, ?_⟩, But.of_below F2.out.1 _⟩
    rw [HDN.out (by first | rfl | trivial)]
    exact F2.out.2
  | true =>
    obtain ⟨h1, -, -⟩ := HGA.out (by first | rfl | trivial)
    obtain ⟨a, c, h0, hsl, hnc, hcm, hn0⟩ := F2.out.2.len
    obtain ⟨n, hn⟩ : ∃ n, L.length = n := ⟨_, rfl⟩
    rw [hn] at h0 hsl hnc h1 hlen
    have HN := Lib.hid hn
    obtain ⟨sa, p1, p2, hst, hsn, -⟩ := Rep.cut_to T53 hsl hnc hn0 (i := ix) (by omega)
    obtain ⟨j, hj⟩ : ∃ j : Nat, ix + 1 = j := ⟨_, rfl⟩
    have hje : ((ix : Int) + 1) = (j : Int) := by omega
    have hjw : wrap64 ((ix : Int) + 1) = (j : Int) := by rw [wrapS h1 (by unfold maxLen; omega), hj]
    have hjk : IntKind.i64.wrap (j : Int) = (j : Int) := by rw [IntKind.wrap_i64]; omega
    obtain ⟨sb, p3, p4, hsu, hsm, -⟩ := Rep.cut_from T53 hsl hnc hn0 (i := j) (by omega)
    have HD2 := Lib.hid (show L.take ix ++ L.drop j = L.filter (fun y => decide (y.key ≠ k)) from hj ▸ HDR.out (by first | rfl | trivial))
    have hrx : RxT x (.slice a n c) W1.drew := ⟨cell_of (show W1.drew.heap[x]? = _ from h0) rfl, free_of (show W1.drew.heap[x]? = _ from h0)⟩
    have hd := (Below.refl W1.heap.size W1).drew
    have G := Lib.hid (And.intro hd (And.intro ((hd.block _ (lt_of_blk h0)).trans h0) (And.intro (hst.keep hd) (And.intro hsn (And.intro (hsu.keep hd) (And.intro hsm hrx))))))
    have HXW := Lib.hid (lt_of_blk h0)
    have hlt4 : (L.take ix).length = ix := by rw [List.length_take, hn]; omega
    have HT4 := Lib.hid hlt4
    clear hn hst hsn hsu hsm hd hrx h0 hsl hnc hcm hn0 hj hlt4
    have hi0 : ((0 : Int) ≤ (ix : Int)) = True := by simp
    go_wp2_with fail
    refine wp_region_T 19 (RxT x (.slice a n c)) (by kernel_rfl) ?_
    generalize W1.drew = W2 at *
    refine T_reads [0, 2, 3, 4, 5, 6, 7, 9, 10, 11, 12, 13, 14, 15] (g := 6) rfl (by kernel_rfl) G.out.2.2.2.2.2.2 (fun _ _ d _ _ h => by cases d <;> exact h) ?_
    simp only [pick, List.getD_cons_zero, List.getD_cons_succ]
    ((with_reducible refine wpRead_step (fun K hK => ?_)); go_simp; first | ((with_reducible refine hK _ ?_); clear hK K) | (apply Exists.intro; (with_reducible refine ⟨fun w' hw' => ?_, hK _ ?_⟩); ((obtain ⟨f0, f1⟩ := hw'; go_simp; first | exact rfl | exact ⟨rfl, rfl⟩)); clear hK K))
    ((with_reducible refine wpRead_step (fun K hK => ?_)); go_simp; first | ((with_reducible refine hK _ ?_); clear hK K) | (apply Exists.intro; (with_reducible refine ⟨fun w' hw' => ?_, hK _ ?_⟩); ((obtain ⟨f0, f1⟩ := hw'; go_simp; first | exact rfl | exact ⟨rfl, rfl⟩)); clear hK K))
    ((with_reducible refine wpRead_step (fun K hK => ?_)); go_simp; first | ((with_reducible refine hK _ ?_); clear hK K) | (apply Exists.intro; (with_reducible refine ⟨fun w' hw' => ?_, hK _ ?_⟩); ((obtain ⟨f0, f1⟩ := hw'; go_simp; first | exact rfl | exact ⟨rfl, rfl⟩)); clear hK K))
    ((with_reducible refine wpRead_step (fun K hK => ?_)); go_simp; first | ((with_reducible refine hK _ ?_); clear hK K) | (apply Exists.intro; (with_reducible refine ⟨fun w' hw' => ?_, hK _ ?_⟩); ((obtain ⟨f0, f1⟩ := hw'; go_simp; first | exact rfl | exact ⟨rfl, rfl⟩)); clear hK K))
    ((with_reducible refine wpRead_step (fun K hK => ?_)); go_simp; first | ((with_reducible refine hK _ ?_); clear hK K) | (apply Exists.intro; (with_reducible refine ⟨fun w' hw' => ?_, hK _ ?_⟩); ((obtain ⟨f0, f1⟩ := hw'; go_simp; first | exact rfl | exact ⟨rfl, rfl⟩)); clear hK K))
    ((with_reducible refine wpRead_step (fun K hK => ?_)); go_simp; first | ((with_reducible refine hK _ ?_); clear hK K) | (apply Exists.intro; (with_reducible refine ⟨fun w' hw' => ?_, hK _ ?_⟩); ((obtain ⟨f0, f1⟩ := hw'; go_simp; first | exact rfl | exact ⟨rfl, rfl⟩)); clear hK K))
    ((with_reducible refine wpRead_step (fun K hK => ?_)); go_simp; first | ((with_reducible refine hK _ ?_); clear hK K) | (apply Exists.intro; (with_reducible refine ⟨fun w' hw' => ?_, hK _ ?_⟩); ((obtain ⟨f0, f1⟩ := hw'; go_simp; first | exact rfl | exact ⟨rfl, rfl⟩)); clear hK K))
    ((with_reducible refine wpRead_step (fun K hK => ?_)); go_simp; first | ((with_reducible refine hK _ ?_); clear hK K) | (apply Exists.intro; (with_reducible refine ⟨fun w' hw' => ?_, hK _ ?_⟩); ((obtain ⟨f0, f1⟩ := hw'; go_simp; first | exact rfl | exact ⟨rfl, rfl⟩)); clear hK K))
    ((with_reducible refine wpRead_step (fun K hK => ?_)); go_simp; first | ((with_reducible refine hK _ ?_); clear hK K) | (apply Exists.intro; (with_reducible refine ⟨fun w' hw' => ?_, hK _ ?_⟩); ((obtain ⟨f0, f1⟩ := hw'; go_simp; first | exact rfl | exact ⟨rfl, rfl⟩)); clear hK K))
    ((with_reducible refine wpRead_step (fun K hK => ?_)); go_simp; first | ((with_reducible refine hK _ ?_); clear hK K) | (apply Exists.intro; (with_reducible refine ⟨fun w' hw' => ?_, hK _ ?_⟩); ((obtain ⟨f0, f1⟩ := hw'; go_simp; first | exact rfl | exact ⟨rfl, rfl⟩)); clear hK K))
    ((with_reducible refine wpRead_step (fun K hK => ?_)); go_simp; first | ((with_reducible refine hK _ ?_); clear hK K) | (apply Exists.intro; (with_reducible refine ⟨fun w' hw' => ?_, hK _ ?_⟩); ((obtain ⟨f0, f1⟩ := hw'; go_simp; first | exact rfl | exact ⟨rfl, rfl⟩)); clear hK K))
    ((with_reducible refine wpRead_step (fun K hK => ?_)); go_simp; first | ((with_reducible refine hK _ ?_); clear hK K) | (apply Exists.intro; (with_reducible refine ⟨fun w' hw' => ?_, hK _ ?_⟩); ((obtain ⟨f0, f1⟩ := hw'; go_simp; first | exact rfl | exact ⟨rfl, rfl⟩)); clear hK K))
    ((with_reducible refine wpRead_step (fun K hK => ?_)); go_simp; first | ((with_reducible refine hK _ ?_); clear hK K) | (apply Exists.intro; (with_reducible refine ⟨fun w' hw' => ?_, hK _ ?_⟩); ((obtain ⟨f0, f1⟩ := hw'; go_simp; first | exact rfl | exact ⟨rfl, rfl⟩)); clear hK K))
    ((with_reducible refine wpRead_step (fun K hK => ?_)); go_simp; first | ((with_reducible refine hK _ ?_); clear hK K) | (apply Exists.intro; (with_reducible refine ⟨fun w' hw' => ?_, hK _ ?_⟩); ((obtain ⟨f0, f1⟩ := hw'; go_simp; first | exact rfl | exact ⟨rfl, rfl⟩)); clear hK K))
    with_reducible refine wpRead_nil ?_
    clear p1 p2 p3 p4
    have hal0 := (Below.refl W2.heap.size W2).alloc (Nat.le_refl _) (.cells #[] 62)
    have hem : ROv.Own (W2.alloc (.cells #[] 62)) W2.heap.size (.slice (some ⟨W2.heap.size, 0, none⟩) 0 0) ([] : List Ov) := Rep.own_empty (hnew _ _) (Nat.le_refl _)
    have hx0 := (hal0.block _ (lt_of_blk G.out.2.1)).trans G.out.2.1
    have G1 := Lib.hid (And.intro hal0 (And.intro hem (And.intro (G.out.2.2.1.keep hal0) (And.intro G.out.2.2.2.1 (show RxT x (.slice a n c) (W2.alloc (.cells #[] 62)) from ⟨cell_of hx0 rfl, free_of hx0⟩)))))
    clear hal0 hem hx0
    refine T_one 1 (by kernel_rfl) ?_
    simp only [pick, List.getD_cons_zero, List.getD_cons_succ]
    go_wp2_with fail
    generalize W2.alloc (.cells #[] 62) = W3 at *
    refine ⟨fun _ => G1.out.2.2.2.2, ?_⟩
    refine T_one 8 (by kernel_rfl) ?_
    simp only [pick, List.getD_cons_zero, List.getD_cons_succ]
    go_wp2_with (at_builtin; refine halt ?_)
    refine Halted.go ?_
    refine Rep.append_list T53 rfl _ _ rfl rfl G1.out.2.1 (L := []) (M := L.take ix) rfl G1.out.2.2.1 G1.out.2.2.2.1 (by rw [List.length_nil]; unfold maxLen; omega) (by rw [List.length_nil]; omega) G1.out.1.size ?_
    intro v4 W4 hown4 hb4 _
    rw [List.nil_append] at hown4
    obtain ⟨a4, c4, rfl, -, -⟩ := hown4.sl0
    rw [HT4.out] at hown4 ⊢
    have hbb := G1.out.1.trans hb4
    have hx4 := (hbb.block _ (lt_of_blk G.out.2.1)).trans G.out.2.1
    have G2 := Lib.hid (And.intro hbb (And.intro hown4 (And.intro (G.out.2.2.2.2.1.keep hbb) (And.intro G.out.2.2.2.2.2.1 (show RxT x (.slice a n c) W4 from ⟨cell_of hx4 rfl, free_of hx4⟩)))))
    clear hown4 hb4 hbb hx4 G1
    go_wp2_with fail
    refine ⟨fun _ => G2.out.2.2.2.2, ?_⟩
    refine T_one 16 (by kernel_rfl) ?_
    simp only [pick, List.getD_cons_zero, List.getD_cons_succ]
    go_wp2_with (at_builtin; refine halt ?_)
    refine Halted.go ?_
    refine Rep.append_list T53 rfl _ _ rfl rfl G2.out.2.1 (M := L.drop j) rfl G2.out.2.2.1 G2.out.2.2.2.1 (by rw [HT4.out]; unfold maxLen; omega) (by rw [HT4.out]; omega) G2.out.1.size ?_
    intro v6 W6 hown6 hb6 _
    obtain ⟨a6, c6, rfl, -, -⟩ := hown6.sl0
    rw [HD2.out] at hown6 ⊢
    obtain ⟨n6, hn6⟩ : ∃ n6, (L.filter fun y => decide (y.key ≠ k)).length = n6 := ⟨_, rfl⟩
    rw [hn6] at hown6 ⊢
    clear hn6
    have hbb := G2.out.1.trans hb6
    have hx6 := (hbb.block _ (lt_of_blk G.out.2.1)).trans G.out.2.1
    have G3 := Lib.hid (And.intro hbb (And.intro hown6 (And.intro hx6 (show RxT x (.slice a n c) W6 from ⟨cell_of hx6 rfl, free_of hx6⟩))))
    clear hown6 hb6 hbb hx6 G2
    go_wp2_with fail
    refine ⟨fun _ => G3.out.2.2.2, ?_⟩
    refine T_one 17 (by kernel_rfl) ?_
    simp only [pick, List.getD_cons_zero, List.getD_cons_succ]
    go_wp2_with fail
    refine ⟨fun _ => G3.out.2.2.2, ?_⟩
    refine T_one 18 (by kernel_rfl) ?_
    simp only [pick, List.getD_cons_zero, List.getD_cons_succ]
    go_wp2_with fail
    refine ⟨fun _ => G3.out.2.2.2, ?_⟩
    obtain ⟨hR, hbt⟩ := RefT.put G3.out.2.2.1 (Nat.lt_of_lt_of_le HXW.out G.out.1.size) G3.out.2.1 HOD.out rfl
    have G5 := Lib.hid (show RDel w (W6.setCell ⟨x, 0, none⟩ (.slice a6 n6 c6)) base x L k from ⟨⟨_, hR⟩, (But.of_below ((bcall F2.out.1 (Nat.le_refl _) G.out.1).trans (G3.out.1.mono (Nat.le_trans F2.out.1.size G.out.1.size))) [x]).trans hbt⟩)
    obtain ⟨f0, f1⟩ := G3.out.2.2.2
    clear hR hbt
    refine T_one 19 (by kernel_rfl) ?_
    simp only [pick, List.getD_cons_zero, List.getD_cons_succ]
    go_wp2_with fail
    refine ⟨fun h => absurd rfl h, ?_⟩
    refine T_done (by kernel_rfl) ?_ _
    go_wp2_with fail
    go_ret
    exact ⟨rfl, G5.out⟩
set_option maxRecDepth 100000 in
theorem rtsame {w : World} {oa ob : Option Addr} {n ca cb : Nat} {l : List Ov} (h1 : ROv.Sl w oa n ca l) (h2 : ROv.Sl w ob n cb l) : Calls Try.prog 36 #[.slice oa n ca, .slice ob n cb] w fun e w' => e = .returned (.bool true) ∧ Below w.heap.size w w' := by
  have hmax := h1.max
  have F := Lib.hid (And.intro h1 h2)
  clear h1 h2
  go_enter Try.func36, Try.ntmps36
  go_wp2_with fail
  go_loopw [5] (fun iv wr => ∃ i : Nat, i ≤ n ∧ iv = .int .i64 i ∧ Below w.heap.size w wr) (fun iv _ => n - (intOf iv).toNat)
  case atStart => exact ⟨0, Nat.zero_le _, rfl, Below.refl _ _⟩
  case round =>
    obtain ⟨i, hi, rfl, hb⟩ := hrel
    obtain ⟨w2, rfl⟩ : ∃ w2 : World, w2 = wr := ⟨_, rfl⟩
    by_cases hlt : i < n
    · have hil : ((i : Int) < (n : Int)) = True := by simp; omega
      have hi0 : ((0 : Int) ≤ (i : Int)) = True := by simp
      have hw3 := wrapS hlt hmax
      obtain ⟨b0, o0, rfl, hbb, hat⟩ := (F.out.1.keep hb).at hlt
      obtain ⟨b1, o1, rfl, hbb1, hat1⟩ := (F.out.2.keep hb).at hlt
      generalize l.getD i default = x at *
      have c0 := hat 0 (by decide)
      have c1 := hat 1 (by decide)
      have c2 := hat 2 (by decide)
      have c3 := hat 3 (by decide)
      have c4 := hat 4 (by decide)
      have d0 := hat1 0 (by decide)
      have d1 := hat1 1 (by decide)
      have d2 := hat1 2 (by decide)
      have d3 := hat1 3 (by decide)
      have d4 := hat1 4 (by decide)
      simp only [ROv, Nat.add_zero, List.getElem?_cons_zero, List.getElem?_cons_succ] at c0 c1 c2 c3 c4 d0 d1 d2 d3 d4
      have HB := Lib.hid hb.drew
      clear hb hat hat1 hbb hbb1
      go_wp2_with fail
      refine wp_region_quiet_tail (fun w' => w' = w2.drew) 8 (by kernel_rfl) (by kernel_rfl) rfl ?_
      simp only [List.take_succ_cons, List.take_zero, List.drop_succ_cons, List.drop_zero]
      iterate 8 ((with_reducible refine wpQuiet_step (fun K hK => ?_)); go_simp; first | (rw [if_neg (by decide)]; (with_reducible refine hK _ ?_); clear hK K) | ((with_reducible refine hK _ ?_); clear hK K) | (apply Exists.intro; (with_reducible refine ⟨fun w' hw' => ?_, hK _ ?_⟩); (subst hw'; first | (go_simp; first | exact rfl | exact ⟨rfl, rfl⟩) | exact rfl | exact ⟨rfl, rfl⟩); clear hK K))
      refine wpQuiet_nil ?_
      rintro _ rfl
      go_wp2_with fail
      exact ⟨⟨i + 1, hlt, by first | rw [hw3] | rw [Int.natCast_succ], HB.out⟩, by first | (rw [hw3]; exact mSucc hlt) | (rw [← Int.natCast_succ]; exact mSucc hlt)⟩
    · obtain rfl : n = i := by omega
      have hil : ((n : Int) < (n : Int)) = False := by simp
      have HB := Lib.hid hb
      clear hb
      go_wp2_with fail
      go_ret
      exact ⟨rfl, HB.out⟩
end Go.Proofs.Ytfmehahjjgalfaa
