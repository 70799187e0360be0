/- The reference: New, drop, set. -/
import Derived.Test.YtadoflcomienoaaGreatZax
import Derived.Test.YtadoflcomienoaaGreatZad
import Derived.Test.YtadoflcomienoaaGreatZah
namespace Go.Proofs.YtadoflcomienoaaGreat.Rr
open Go.RowKit

/-- the reference's table in memory; the list holds whatever becomes of F -/
structure RefF (F : Nat → Prop) (w : World) (q : Nat) (asn room rf : Int) (s : SlV RtV) : Prop where
  blk : w.heap[q]? = some (.cells #[.slice s.a s.n s.c, .int .i64 asn, .int .i64 room, .int .i64 rf] 122)
  hd : HoldF F w fun V => SlOk RRt RtOk V s
  fq : F q
  fl : ∀ k, F k → k < w.heap.size
theorem RefF.x {F : Nat → Prop} {w : World} {q : Nat} {asn room rf : Int} {s : SlV RtV} (h : RefF F w q asn room rf s) : RefX w q asn room rf s := ⟨h.blk, h.hd.now⟩
theorem RefF.keep {F : Nat → Prop} {w w' : World} {q : Nat} {asn room rf : Int} {s : SlV RtV} (h : RefF F w q asn room rf s) (hb : Below w.heap.size w w') : RefF F w' q asn room rf s :=
  ⟨(hb.block _ (lt_of_blk h.blk)).trans h.blk, h.hd.below hb, h.fq, fun k hk => Nat.lt_of_lt_of_le (h.fl k hk) hb.size⟩
theorem hold_but {F : Nat → Prop} {w w' : World} {q : Nat} {P : World → Prop} (h : HoldF F w P) (hq : F q) (hb : But w w' [q]) : HoldF F w' P :=
  h.turn hb.size (fun k hk hn => hb.block k hk (by rw [List.mem_singleton]; rintro rfl; exact hn hq)) fun k hk => .inl hk
theorem hd_own {F : Nat → Prop} {w : World} {B : Nat} {v : Value} {L : List RtV} (hF : ∀ k, F k → k < B) (ho : RRt.Own w B v L) (hel : ∀ z ∈ L, HoldF F w fun V => RtOk V z) : ∃ s : SlV RtV, v = .slice s.a s.n s.c ∧ s.l = L ∧ HoldF F w fun V => SlOk RRt RtOk V s := by
  obtain ⟨s, rfl, rfl, h1, h2, -⟩ := Own_slok (ok := RtOk) ho fun x hx => (hel x hx).now
  refine ⟨s, rfl, rfl, fun w' hs he => ?_⟩
  have h3 : SlOk RRt okT w s := ⟨h1.sl, h1.nil, h1.nc, h1.cm, fun _ _ => trivial⟩
  have h4 := h3.same (w' := w') (fun hn a e hl => he _ hl fun hf => by have := h2 hn a e; have := hF _ hf; omega) fun _ _ _ => trivial
  exact ⟨h4.sl, h4.nil, h4.nc, h4.cm, fun x hx => hel x hx w' hs he⟩
theorem RefF.el {F : Nat → Prop} {w : World} {q : Nat} {asn room rf : Int} {s : SlV RtV} (h : RefF F w q asn room rf s) : ∀ z ∈ s.l, HoldF F w fun V => RtOk V z := fun z hz => h.hd.imp fun _ h => h.all z hz
/-- a list of its own is put -/
theorem RefF.put {F : Nat → Prop} {w : World} {q B : Nat} {asn room rf : Int} {s0 : Value} {v : Value} {L : List RtV} (hblk : w.heap[q]? = some (.cells #[s0, .int .i64 asn, .int .i64 room, .int .i64 rf] 122)) (hq : F q) (hF : ∀ k, F k → k < B) (hB : B ≤ w.heap.size) (ho : RRt.Own w B v L) (hel : ∀ z ∈ L, HoldF F w fun V => RtOk V z) :
    ∃ s : SlV RtV, s.l = L ∧ RefF F (w.setCell ⟨q, 0, none⟩ v) q asn room rf s ∧ But w (w.setCell ⟨q, 0, none⟩ v) [q] := by
  obtain ⟨s, rfl, rfl, h1⟩ := hd_own hF ho hel
  have hb := (But.refl w [q]).setCell (a := ⟨q, 0, none⟩) (.inr (by simp)) (.slice s.a s.n s.c)
  exact ⟨s, rfl, ⟨setCell_blk hblk 0 _, hold_but h1 hq hb, hq, fun k hk => Nat.lt_of_lt_of_le (hF k hk) (Nat.le_trans hB hb.size)⟩, hb⟩
set_option maxRecDepth 100000 in
theorem xnew_ok (w : World) (asn room : Int) (h : (0 ≤ asn ∧ asn ≤ 4294967295) ∧ (0 ≤ room ∧ room ≤ 65536)) : Calls Tryz.prog 22 #[.int .i64 asn, .int .i64 room] w fun e w' => e = .returned (.pointer (some ⟨w.heap.size, 0, none⟩)) ∧ w'.heap[w.heap.size]? = some (.cells #[.slice none 0 0, .int .i64 asn, .int .i64 room, .int .i64 0] 122) ∧ Below w.heap.size w w' := by
  have e1 : (asn < 0) = False := eq_false (by omega)
  have e2 : (4294967295 < asn) = False := eq_false (by omega)
  have e3 : (room < 0) = False := eq_false (by omega)
  have e4 : (65536 < room) = False := eq_false (by omega)
  have hal := (Below.refl w.heap.size w).alloc (Nat.le_refl _) (.cells #[.slice none 0 0, .int .i64 asn, .int .i64 room, .int .i64 0] 122)
  have F := Lib.hid (And.intro (hnew w (.cells #[.slice none 0 0, .int .i64 asn, .int .i64 room, .int .i64 0] 122)) hal)
  clear hal h
  go_enter Tryz.func22, Tryz.ntmps22
  go_wp2_with fail
  go_ret
  exact ⟨rfl, F.out.1, F.out.2⟩
set_option maxRecDepth 100000 in
theorem xnew_no (w : World) (asn room : Int) (h : ¬ ((0 ≤ asn ∧ asn ≤ 4294967295) ∧ (0 ≤ room ∧ room ≤ 65536))) : Calls Tryz.prog 22 #[.int .i64 asn, .int .i64 room] w fun e w' => e = .returned (.pointer none) ∧ Below w.heap.size w w' := by
  have hb := Below.refl w.heap.size w
  have F := Lib.hid hb
  have hcase : (asn < 0) = True ∨ ((asn < 0) = False ∧ (4294967295 < asn) = True) ∨ ((asn < 0) = False ∧ (4294967295 < asn) = False ∧ (room < 0) = True) ∨ ((asn < 0) = False ∧ (4294967295 < asn) = False ∧ (room < 0) = False ∧ (65536 < room) = True) := by
    by_cases h1 : asn < 0
    · exact .inl (eq_true h1)
    · by_cases h2 : 4294967295 < asn
      · exact .inr (.inl ⟨eq_false h1, eq_true h2⟩)
      · by_cases h3 : room < 0
        · exact .inr (.inr (.inl ⟨eq_false h1, eq_false h2, eq_true h3⟩))
        · exact .inr (.inr (.inr ⟨eq_false h1, eq_false h2, eq_false h3, eq_true (by omega)⟩))
  clear h hb
  rcases hcase with e1 | ⟨e1, e2⟩ | ⟨e1, e2, e3⟩ | ⟨e1, e2, e3, e4⟩
  all_goals
    go_enter Tryz.func22, Tryz.ntmps22
    go_wp2_with fail
    go_ret
    exact ⟨rfl, F.out⟩
def DropQ (F : Nat → Prop) (w : World) (q : Nat) (asn room rf : Int) (s : SlV RtV) (k : RKey) (w' : World) : Prop := ∃ s', RefF F w' q asn room rf s' ∧ s'.l = s.l.filter (fun x => decide (x.key ≠ k)) ∧ But w w' [q]
def SetQ (F : Nat → Prop) (w : World) (q : Nat) (asn room rf : Int) (s : SlV RtV) (k : RKey) (a : AtV) (w' : World) : Prop := ∃ s' rf', RefF F w' q asn room rf' s' ∧ (s'.l, rf') = (if hasO s.l k || decide ((s.l.length : Int) < room) then (setO s.l ⟨k.1, k.2.1, k.2.2, a⟩, rf) else (s.l, rf + 1)) ∧ But w w' [q]
def RxT (q : Nat) (v : Value) (w : World) : Prop := w.cell? ⟨q, 0, none⟩ = some v ∧ w.frozen? ⟨q, 0, none⟩ = false
set_option maxRecDepth 100000 in
set_option maxHeartbeats 4000000 in
theorem rdrop_any {F : Nat → Prop} {w : World} {q : Nat} {asn room rf : Int} {s : SlV RtV} (H : RefF F w q asn room rf s) (ho : Ord s.l) (hlen : s.n ≤ 3000000) (k : RKey) : Calls Tryz.prog 117 #[.pointer (some ⟨q, 0, none⟩), .agg #[.int .i64 k.1, .int .u32 (k.2.1.1 : Int), .int .i64 k.2.1.2, .int .i64 k.2.2]] w fun e w' => e = .returned (.tuple #[]) ∧ DropQ F w q asn room rf s k w' := by
  have hal := (Below.refl w.heap.size w).alloc (Nat.le_refl _) (.cells #[.int .i64 k.1, .int .u32 (k.2.1.1 : Int), .int .i64 k.2.1.2, .int .i64 k.2.2] 62)
  have hps : BxQ w.heap.size k (w.alloc (.cells #[.int .i64 k.1, .int .u32 (k.2.1.1 : Int), .int .i64 k.2.1.2, .int .i64 k.2.2] 62)) := hnew _ _
  have HF := Lib.hid (rfind_any (H.keep hal).x ho k)
  have F0 := Lib.hid (And.intro hal (H.keep hal))
  obtain ⟨z0, z1, z2, z3⟩ := hps.cells
  have HGA := Lib.hid (fun h : hasO s.l k = true => (at_has ho h))
  have HDR := Lib.hid (fun h => del_ref ho (k := k) h)
  have HDN := Lib.hid (fun h => del_none (L := s.l) (k := k) h)
  clear hal hps H ho
  generalize hasO s.l k = hs at *
  generalize idxO s.l k = ix at *
  go_enter Tryz.func117, Tryz.ntmps117
  go_wp2_with fail
  refine HF.out.mono ?_
  rintro e W1 ⟨rfl, hb⟩
  have F2 := Lib.hid (And.intro (bcall F0.out.1 (Nat.le_refl _) hb) (F0.out.2.keep hb))
  clear hb HF F0 z0 z1 z2 z3
  cases hs with
  | false =>
    go_wp2_with fail
    go_end0
    exact ⟨rfl, s, F2.out.2, (HDN.out (by first | rfl | trivial)).symm, But.of_below F2.out.1 _⟩
  | true =>
    have h1 := HGA.out (by first | rfl | trivial)
    obtain ⟨a, n, c, L⟩ := s
    dsimp only at h1 hlen ⊢
    have h0 := F2.out.2.blk
    have hsl := F2.out.2.hd.now.sl
    have hnc := F2.out.2.hd.now.nc
    have hn0 := F2.out.2.hd.now.nil
    dsimp only at h0 hsl hnc hn0
    have hn : L.length = n := hsl.len.symm
    rw [hn] at h1
    obtain ⟨sa, p1, p2, hst, hsn, -⟩ := Rep.cut_to TRt hsl hnc hn0 (i := ix) (by omega)
    obtain ⟨j, hj⟩ : ∃ j : Nat, ix + 1 = j := ⟨_, rfl⟩
    have hje : ((ix : Int) + 1) = (j : Int) := by omega
    have hjw : wrap64 ((ix : Int) + 1) = (j : Int) := by rw [wrapS h1 (by unfold maxLen; omega), hj]
    have hjk : IntKind.i64.wrap (j : Int) = (j : Int) := by rw [IntKind.wrap_i64]; omega
    obtain ⟨sb, p3, p4, hsu, hsm, -⟩ := Rep.cut_from TRt hsl hnc hn0 (i := j) (by omega)
    have HD2 := Lib.hid (show L.take ix ++ L.drop j = L.filter (fun y => decide (y.key ≠ k)) from hj ▸ HDR.out (by first | rfl | trivial))
    have hrx : RxT q (.slice a n c) W1.drew := ⟨cell_of (show W1.drew.heap[q]? = _ from h0) rfl, free_of (show W1.drew.heap[q]? = _ from h0)⟩
    have hd := (Below.refl W1.heap.size W1).drew
    have G := Lib.hid (And.intro hd (And.intro ((hd.block _ (lt_of_blk h0)).trans h0) (And.intro (hst.keep hd) (And.intro hsn (And.intro (hsu.keep hd) (And.intro hsm hrx))))))
    have hlt4 : (L.take ix).length = ix := by rw [List.length_take, hn]; omega
    have HT4 := Lib.hid hlt4
    clear hn hst hsn hsu hsm hd hrx h0 hsl hnc hn0 hj hlt4
    have hi0 : ((0 : Int) ≤ (ix : Int)) = True := by simp
    go_wp2_with fail
    refine wp_region_T 19 (RxT q (.slice a n c)) (by kernel_rfl) ?_
    generalize W1.drew = W2 at *
    refine T_reads [0, 2, 3, 4, 5, 6, 7, 9, 10, 11, 12, 13, 14, 15] (g := 6) rfl (by kernel_rfl) G.out.2.2.2.2.2.2 (fun _ _ d _ _ h => by cases d <;> exact h) ?_
    simp only [pick, List.getD_cons_zero, List.getD_cons_succ]
    iterate 14 ((with_reducible refine wpRead_step (fun K hK => ?_)); go_simp; first | ((with_reducible refine hK _ ?_); clear hK K) | (apply Exists.intro; (with_reducible refine ⟨fun w' hw' => ?_, hK _ ?_⟩); ((obtain ⟨f0, f1⟩ := hw'; go_simp; first | exact rfl | exact ⟨rfl, rfl⟩)); clear hK K))
    with_reducible refine wpRead_nil ?_
    clear p1 p2 p3 p4
    have hal0 := (Below.refl W2.heap.size W2).alloc (Nat.le_refl _) (.cells #[] 93)
    have hem : RRt.Own (W2.alloc (.cells #[] 93)) W2.heap.size (.slice (some ⟨W2.heap.size, 0, none⟩) 0 0) ([] : List RtV) := Rep.own_empty (hnew _ _) (Nat.le_refl _)
    have hx0 := (hal0.block _ (lt_of_blk G.out.2.1)).trans G.out.2.1
    have G1 := Lib.hid (And.intro hal0 (And.intro hem (And.intro (G.out.2.2.1.keep hal0) (And.intro G.out.2.2.2.1 (show RxT q (.slice a n c) (W2.alloc (.cells #[] 93)) from ⟨cell_of hx0 rfl, free_of hx0⟩)))))
    clear hal0 hem hx0
    refine T_one 1 (by kernel_rfl) ?_
    simp only [pick, List.getD_cons_zero, List.getD_cons_succ]
    go_wp2_with fail
    generalize W2.alloc (.cells #[] 93) = W3 at *
    refine ⟨fun _ => G1.out.2.2.2.2, ?_⟩
    refine T_one 8 (by kernel_rfl) ?_
    simp only [pick, List.getD_cons_zero, List.getD_cons_succ]
    go_wp2_with (at_builtin; refine halt ?_)
    refine Halted.go ?_
    refine Rep.append_list TRt rfl _ _ rfl rfl G1.out.2.1 (L := []) (M := L.take ix) rfl G1.out.2.2.1 G1.out.2.2.2.1 (by rw [List.length_nil]; unfold maxLen; omega) (by rw [List.length_nil]; omega) G1.out.1.size ?_
    intro v4 W4 hown4 hb4 _
    rw [List.nil_append] at hown4
    obtain ⟨a4, c4, rfl, -, -⟩ := hown4.sl0
    rw [HT4.out] at hown4 ⊢
    have hbb := G1.out.1.trans hb4
    have hx4 := (hbb.block _ (lt_of_blk G.out.2.1)).trans G.out.2.1
    have G2 := Lib.hid (And.intro hbb (And.intro hown4 (And.intro (G.out.2.2.2.2.1.keep hbb) (And.intro G.out.2.2.2.2.2.1 (show RxT q (.slice a n c) W4 from ⟨cell_of hx4 rfl, free_of hx4⟩)))))
    clear hown4 hb4 hbb hx4 G1
    go_wp2_with fail
    refine ⟨fun _ => G2.out.2.2.2.2, ?_⟩
    refine T_one 16 (by kernel_rfl) ?_
    simp only [pick, List.getD_cons_zero, List.getD_cons_succ]
    go_wp2_with (at_builtin; refine halt ?_)
    refine Halted.go ?_
    refine Rep.append_list TRt rfl _ _ rfl rfl G2.out.2.1 (M := L.drop j) rfl G2.out.2.2.1 G2.out.2.2.2.1 (by rw [HT4.out]; unfold maxLen; omega) (by rw [HT4.out]; omega) G2.out.1.size ?_
    intro v6 W6 hown6 hb6 _
    obtain ⟨a6, c6, rfl, -, -⟩ := hown6.sl0
    rw [HD2.out] at hown6 ⊢
    obtain ⟨n6, hn6⟩ : ∃ n6, (L.filter fun y => decide (y.key ≠ k)).length = n6 := ⟨_, rfl⟩
    rw [hn6] at hown6 ⊢
    clear hn6
    have hbb := G2.out.1.trans hb6
    have hx6 := (hbb.block _ (lt_of_blk G.out.2.1)).trans G.out.2.1
    have G3 := Lib.hid (And.intro hbb (And.intro hown6 (And.intro hx6 (show RxT q (.slice a n c) W6 from ⟨cell_of hx6 rfl, free_of hx6⟩))))
    clear hown6 hb6 hbb hx6 G2
    go_wp2_with fail
    refine ⟨fun _ => G3.out.2.2.2, ?_⟩
    refine T_one 17 (by kernel_rfl) ?_
    simp only [pick, List.getD_cons_zero, List.getD_cons_succ]
    go_wp2_with fail
    refine ⟨fun _ => G3.out.2.2.2, ?_⟩
    refine T_one 18 (by kernel_rfl) ?_
    simp only [pick, List.getD_cons_zero, List.getD_cons_succ]
    go_wp2_with fail
    refine ⟨fun _ => G3.out.2.2.2, ?_⟩
    have hb26 : Below W1.heap.size W1 W6 := bcall G.out.1 (Nat.le_refl _) G3.out.1
    obtain ⟨s', hs1, hs2, hbt⟩ := RefF.put (F := F) G3.out.2.2.1 F2.out.2.fq (fun k hk => Nat.lt_of_lt_of_le (F2.out.2.fl k hk) G.out.1.size) G3.out.1.size G3.out.2.1 fun z hz => (F2.out.2.el z (List.mem_filter.1 hz).1).below hb26
    have G5 := Lib.hid (show ∃ s', RefF F (W6.setCell ⟨q, 0, none⟩ (.slice a6 n6 c6)) q asn room rf s' ∧ s'.l = L.filter (fun x => decide (x.key ≠ k)) ∧ But w (W6.setCell ⟨q, 0, none⟩ (.slice a6 n6 c6)) [q] from ⟨s', hs2, hs1, (But.of_below (bcall F2.out.1 (Nat.le_refl _) hb26) [q]).trans hbt⟩)
    obtain ⟨f0, f1⟩ := G3.out.2.2.2
    clear hs1 hs2 hbt hb26
    refine T_one 19 (by kernel_rfl) ?_
    simp only [pick, List.getD_cons_zero, List.getD_cons_succ]
    go_wp2_with fail
    refine ⟨fun h => absurd rfl h, ?_⟩
    refine T_done (by kernel_rfl) ?_ _
    go_wp2_with fail
    go_end0
    exact ⟨rfl, G5.out⟩
structure StS (q : Nat) (v : Value) (room : Int) (W : World) : Prop where
  c : W.cell? ⟨q, 0, none⟩ = some v
  r : W.cell? ⟨q, 2, none⟩ = some (.int .i64 room)
set_option maxRecDepth 100000 in
set_option maxHeartbeats 8000000 in
theorem rset_any {F : Nat → Prop} {w : World} {q : Nat} {asn room rf : Int} {s : SlV RtV} (H : RefF F w q asn room rf s) (ho : Ord s.l) (hlen : s.n ≤ 3000000) (hrf : 0 ≤ rf ∧ rf ≤ 900000000) {k : RKey} {a : AtV} (hk : KOk k.1 k.2.1 k.2.2) (ha : HoldF F w fun V => AtOk V a) : Calls Tryz.prog 118 #[.pointer (some ⟨q, 0, none⟩), .agg #[.int .i64 k.1, .int .u32 (k.2.1.1 : Int), .int .i64 k.2.1.2, .int .i64 k.2.2], .agg #[.int .i64 a.o, .slice a.p.a a.p.n a.p.c, .int .u32 a.nx, .int .i64 a.md, .int .i64 a.pf, .slice a.c.a a.c.n a.c.c]] w fun e w' => e = .returned (.tuple #[]) ∧ SetQ F w q asn room rf s k a w' := by
  have hal := ((Below.refl w.heap.size w).alloc (Nat.le_refl _) (.cells #[.int .i64 k.1, .int .u32 (k.2.1.1 : Int), .int .i64 k.2.1.2, .int .i64 k.2.2] 62)).alloc (by simp) (.cells #[.int .i64 a.o, .slice a.p.a a.p.n a.p.c, .int .u32 a.nx, .int .i64 a.md, .int .i64 a.pf, .slice a.c.a a.c.n a.c.c] 40)
  have hps : BxQ w.heap.size k ((w.alloc (.cells #[.int .i64 k.1, .int .u32 (k.2.1.1 : Int), .int .i64 k.2.1.2, .int .i64 k.2.2] 62)).alloc (.cells #[.int .i64 a.o, .slice a.p.a a.p.n a.p.c, .int .u32 a.nx, .int .i64 a.md, .int .i64 a.pf, .slice a.c.a a.c.n a.c.c] 40)) := (((Below.refl (w.alloc (.cells #[.int .i64 k.1, .int .u32 (k.2.1.1 : Int), .int .i64 k.2.1.2, .int .i64 k.2.2] 62)).heap.size (w.alloc (.cells #[.int .i64 k.1, .int .u32 (k.2.1.1 : Int), .int .i64 k.2.1.2, .int .i64 k.2.2] 62))).alloc (Nat.le_refl _) (.cells #[.int .i64 a.o, .slice a.p.a a.p.n a.p.c, .int .u32 a.nx, .int .i64 a.md, .int .i64 a.pf, .slice a.c.a a.c.n a.c.c] 40)).block _ (by simp)).trans (hnew _ _)
  have hpa : BxA (w.heap.size + 1) a ((w.alloc (.cells #[.int .i64 k.1, .int .u32 (k.2.1.1 : Int), .int .i64 k.2.1.2, .int .i64 k.2.2] 62)).alloc (.cells #[.int .i64 a.o, .slice a.p.a a.p.n a.p.c, .int .u32 a.nx, .int .i64 a.md, .int .i64 a.pf, .slice a.c.a a.c.n a.c.c] 40)) := hnewAt (by simp)
  have HOF := Lib.hid (show HoldF F w fun V => RtOk V (⟨k.1, k.2.1, k.2.2, a⟩ : RtV) from ha.imp fun _ h => ⟨hk, h⟩)
  have HF := Lib.hid (rfind_any (H.keep hal).x ho k)
  have F0 := Lib.hid (And.intro hal (And.intro (H.keep hal) (And.intro hps hpa)))
  obtain ⟨z0, z1, z2, z3⟩ := hps.cells
  have HSR := Lib.hid (show s.l.take (idxO s.l k) ++ [(⟨k.1, k.2.1, k.2.2, a⟩ : RtV)] ++ s.l.drop (idxO s.l k + if hasO s.l k then 1 else 0) = setO s.l (⟨k.1, k.2.1, k.2.2, a⟩ : RtV) from set_ref ho (⟨k.1, k.2.1, k.2.2, a⟩ : RtV))
  have HIX := Lib.hid (idx_le s.l k)
  have HHS := Lib.hid (fun h : hasO s.l k = true => at_has ho h)
  obtain ⟨w0, hw0⟩ : ∃ b, (hasO s.l k || decide ((s.l.length : Int) < room)) = b := ⟨_, rfl⟩
  have HW0 := Lib.hid hw0
  obtain ⟨hs, hhs⟩ : ∃ hs, hasO s.l k = hs := ⟨_, rfl⟩
  obtain ⟨ix, hix⟩ : ∃ ix, idxO s.l k = ix := ⟨_, rfl⟩
  rw [hhs] at HF HSR HHS
  rw [hix] at HF HSR HIX HHS
  have HWW := Lib.hid (show (hs || decide ((s.l.length : Int) < room)) = w0 by rw [← hhs]; exact hw0)
  clear hal hps hpa H ho hhs hix hw0 ha hk
  go_enter Tryz.func118, Tryz.ntmps118
  go_wp2_with fail
  refine HF.out.mono ?_
  rintro e W2 ⟨rfl, hb⟩
  have F2 := Lib.hid (And.intro (bcall F0.out.1 (Nat.le_refl _) hb) (And.intro (F0.out.2.1.keep hb) (And.intro (F0.out.2.2.1.keep hb) (F0.out.2.2.2.keep hb))))
  clear hb HF F0 z0 z1 z2 z3
  obtain ⟨a1, n, c, L⟩ := s
  dsimp only at hlen HSR HIX HHS HWW HW0 ⊢
  have h0 := F2.out.2.1.blk
  have hsl := F2.out.2.1.hd.now.sl
  have hnc := F2.out.2.1.hd.now.nc
  have hn0 := F2.out.2.1.hd.now.nil
  dsimp only at h0 hsl hnc hn0
  have hn : L.length = n := hsl.len.symm
  rw [hn] at HIX HHS HWW
  have HN := Lib.hid hn
  have HR2 := Lib.hid (show StS q (.slice a1 n c) room W2.drew from ⟨cell_of h0 rfl, cell_of h0 rfl⟩)
  have hd := (Below.refl W2.heap.size W2).drew
  have FN := Lib.hid (And.intro (bcall F2.out.1 (Nat.le_refl _) hd) (And.intro (F2.out.2.1.keep hd) (And.intro (F2.out.2.2.1.keep hd) (F2.out.2.2.2.keep hd))))
  have F3 := Lib.hid (And.intro (show W2.drew.heap[q]? = _ from h0) (And.intro (hsl.keep hd) (And.intro hnc hn0)))
  clear F2 h0 hsl hnc hn0 hn hd
  have F2 := FN
  clear FN
  by_cases hfull : hs = false ∧ room ≤ (n : Int)
  · obtain ⟨rfl, h4⟩ := hfull
    have h4t : (room ≤ (n : Int)) = True := eq_true h4
    have hw00 : w0 = false := by rw [← HWW.out]; simp; omega
    subst hw00
    have hwr : wrap64 (rf + 1) = rf + 1 := by unfold wrap64; omega
    clear h4
    go_wp2_with fail
    refine wp_region_heldP (StS q (.slice a1 n c) room) (by kernel_rfl) ?_
    generalize W2.drew = W3 at *
    refine held_reads [0, 1, 2, 3, 4, 5, 6, 7, 8, 9, 10, 11, 12, 13] (g := 0) rfl (by kernel_rfl) HR2.out (fun _ _ d _ _ h => by cases d <;> exact h) ?_
    simp only [pick, List.getD_cons_zero, List.getD_cons_succ]
    iterate 6 ((with_reducible refine wpRead_step (fun K hK => ?_)); go_simp; first | (rw [if_neg (by decide)]; (with_reducible refine hK _ ?_); clear hK K) | ((with_reducible refine hK _ ?_); clear hK K) | (apply Exists.intro; (with_reducible refine ⟨fun w' hw' => ?_, hK _ ?_⟩); ((go_simp; first | exact rfl | exact ⟨rfl, rfl⟩)); clear hK K))
    ((with_reducible refine wpRead_step (fun K hK => ?_)); go_simp; first | (rw [if_neg (by decide)]; (with_reducible refine hK _ ?_); clear hK K) | ((with_reducible refine hK _ ?_); clear hK K) | (apply Exists.intro; (with_reducible refine ⟨fun w' hw' => ?_, hK _ ?_⟩); ((have f0 := hw'.c; go_simp; first | exact rfl | exact ⟨rfl, rfl⟩)); clear hK K))
    iterate 4 ((with_reducible refine wpRead_step (fun K hK => ?_)); go_simp; first | (rw [if_neg (by decide)]; (with_reducible refine hK _ ?_); clear hK K) | ((with_reducible refine hK _ ?_); clear hK K) | (apply Exists.intro; (with_reducible refine ⟨fun w' hw' => ?_, hK _ ?_⟩); ((go_simp; first | exact rfl | exact ⟨rfl, rfl⟩)); clear hK K))
    ((with_reducible refine wpRead_step (fun K hK => ?_)); go_simp; first | (rw [if_neg (by decide)]; (with_reducible refine hK _ ?_); clear hK K) | ((with_reducible refine hK _ ?_); clear hK K) | (apply Exists.intro; (with_reducible refine ⟨fun w' hw' => ?_, hK _ ?_⟩); ((have f0 := hw'.r; go_simp; first | exact rfl | exact ⟨rfl, rfl⟩)); clear hK K))
    iterate 2 ((with_reducible refine wpRead_step (fun K hK => ?_)); go_simp; first | (rw [if_neg (by decide)]; (with_reducible refine hK _ ?_); clear hK K) | ((with_reducible refine hK _ ?_); clear hK K) | (apply Exists.intro; (with_reducible refine ⟨fun w' hw' => ?_, hK _ ?_⟩); ((go_simp; first | exact rfl | exact ⟨rfl, rfl⟩)); clear hK K))
    with_reducible refine wpRead_nil ?_
    refine wpAnyH_done (by kernel_rfl) ?_ _
    have c3 : W3.cell? ⟨q, 3, none⟩ = some (.int .i64 rf) := cell_of F3.out.1 rfl
    have f3 : W3.frozen? ⟨q, 3, none⟩ = false := free_of F3.out.1
    have hb := (But.refl W3 [q]).setCell (a := ⟨q, 3, none⟩) (.inr (by simp)) (.int .i64 (rf + 1))
    have G5 := Lib.hid (show ∃ s' rf', RefF F (W3.setCell ⟨q, 3, none⟩ (.int .i64 (rf + 1))) q asn room rf' s' ∧ (s'.l, rf') = (if hasO L k || decide ((L.length : Int) < room) then (setO L (⟨k.1, k.2.1, k.2.2, a⟩ : RtV), rf) else (L, rf + 1)) ∧ But w (W3.setCell ⟨q, 3, none⟩ (.int .i64 (rf + 1))) [q] from
      ⟨⟨a1, n, c, L⟩, rf + 1, ⟨setCell_blk F3.out.1 3 _, hold_but F2.out.2.1.hd F2.out.2.1.fq hb, F2.out.2.1.fq, fun k hk => Nat.lt_of_lt_of_le (F2.out.2.1.fl k hk) hb.size⟩, by rw [HW0.out, if_neg (by simp)], (But.of_below F2.out.1 [q]).trans hb⟩)
    clear hb
    go_wp2_with fail
    (try simp only [Exit.inBlock, Exit.then])
    refine bodyPost_ret (results_none rfl _ _ _) rfl ?_
    exact ⟨rfl, G5.out⟩
  have hw01 : w0 = true := by
    rw [← HWW.out]
    cases hs with
    | true => rfl
    | false =>
      have : ¬ room ≤ (n : Int) := fun h => hfull ⟨rfl, h⟩
      simp; omega
  subst hw01
  have hway : (hs = true) ∨ (hs = false ∧ (room ≤ (n : Int)) = False) := by
    cases hs with
    | true => exact .inl rfl
    | false => right; exact ⟨rfl, eq_false fun h => hfull ⟨rfl, h⟩⟩
  clear hfull
  have hix0 := HIX.out
  have hi0 : ((0 : Int) ≤ (ix : Int)) = True := by simp
  have hixn : ((ix : Int) ≤ (n : Int)) = True := by simp; omega
  rcases hway with rfl | ⟨rfl, h4f⟩
  · have hi1 := HHS.out rfl
    go_wp2_with fail
    refine wp_region_heldP (StS q (.slice a1 n c) room) (by kernel_rfl) ?_
    generalize W2.drew = W3 at *
    refine held_reads [0, 1, 2, 3, 4, 5, 6, 7, 8, 9, 10, 11, 12, 13] (g := 0) rfl (by kernel_rfl) HR2.out (fun _ _ d _ _ h => by cases d <;> exact h) ?_
    simp only [pick, List.getD_cons_zero, List.getD_cons_succ]
    iterate 6 ((with_reducible refine wpRead_step (fun K hK => ?_)); go_simp; first | (rw [if_neg (by decide)]; (with_reducible refine hK _ ?_); clear hK K) | ((with_reducible refine hK _ ?_); clear hK K) | (apply Exists.intro; (with_reducible refine ⟨fun w' hw' => ?_, hK _ ?_⟩); ((go_simp; first | exact rfl | exact ⟨rfl, rfl⟩)); clear hK K))
    ((with_reducible refine wpRead_step (fun K hK => ?_)); go_simp; first | (rw [if_neg (by decide)]; (with_reducible refine hK _ ?_); clear hK K) | ((with_reducible refine hK _ ?_); clear hK K) | (apply Exists.intro; (with_reducible refine ⟨fun w' hw' => ?_, hK _ ?_⟩); ((have f0 := hw'.c; go_simp; first | exact rfl | exact ⟨rfl, rfl⟩)); clear hK K))
    iterate 4 ((with_reducible refine wpRead_step (fun K hK => ?_)); go_simp; first | (rw [if_neg (by decide)]; (with_reducible refine hK _ ?_); clear hK K) | ((with_reducible refine hK _ ?_); clear hK K) | (apply Exists.intro; (with_reducible refine ⟨fun w' hw' => ?_, hK _ ?_⟩); ((go_simp; first | exact rfl | exact ⟨rfl, rfl⟩)); clear hK K))
    ((with_reducible refine wpRead_step (fun K hK => ?_)); go_simp; first | (rw [if_neg (by decide)]; (with_reducible refine hK _ ?_); clear hK K) | ((with_reducible refine hK _ ?_); clear hK K) | (apply Exists.intro; (with_reducible refine ⟨fun w' hw' => ?_, hK _ ?_⟩); ((have f0 := hw'.r; go_simp; first | exact rfl | exact ⟨rfl, rfl⟩)); clear hK K))
    iterate 2 ((with_reducible refine wpRead_step (fun K hK => ?_)); go_simp; first | (rw [if_neg (by decide)]; (with_reducible refine hK _ ?_); clear hK K) | ((with_reducible refine hK _ ?_); clear hK K) | (apply Exists.intro; (with_reducible refine ⟨fun w' hw' => ?_, hK _ ?_⟩); ((go_simp; first | exact rfl | exact ⟨rfl, rfl⟩)); clear hK K))
    with_reducible refine wpRead_nil ?_
    refine wpAnyH_done (by kernel_rfl) ?_ _
    obtain ⟨W2', rfl⟩ : ∃ W2' : World, W2' = W3 := ⟨_, rfl⟩
    have c0 : W2'.cell? ⟨q, 0, none⟩ = some (.slice a1 n c) := HR2.out.c
    obtain ⟨sa, hr1, hr2, hst, hsn, -⟩ := Rep.cut_to TRt F3.out.2.1 F3.out.2.2.1 F3.out.2.2.2 hix0
    obtain ⟨j, hj⟩ : ∃ j : Nat, ix + 1 = j := ⟨_, rfl⟩
    have hw3 : wrap64 ((ix : Int) + 1) = (j : Int) := by rw [wrapS hi1 (by unfold maxLen; omega), hj]
    have hje : ((ix : Int) + 1) = (j : Int) := by omega
    have hjn : j ≤ n := by omega
    have hj0 : ((0 : Int) ≤ (j : Int)) = True := by simp
    have hjn2 : ((j : Int) ≤ (n : Int)) = True := by simp; omega
    have HSJ := Lib.hid (show L.take ix ++ [(⟨k.1, k.2.1, k.2.2, a⟩ : RtV)] ++ L.drop j = setO L (⟨k.1, k.2.1, k.2.2, a⟩ : RtV) from by have h := HSR.out; simp only [↓reduceIte] at h; rw [← h, hj])
    clear hj
    have hal0 := (Below.refl W2'.heap.size W2').alloc (Nat.le_refl _) (.cells #[] 93)
    have hem : RRt.Own (W2'.alloc (.cells #[] 93)) W2'.heap.size (.slice (some ⟨W2'.heap.size, 0, none⟩) 0 0) ([] : List RtV) := Rep.own_empty (hnew _ _) (Nat.le_refl _)
    have c1 : (W2'.alloc (.cells #[] 93)).cell? ⟨q, 0, none⟩ = some (.slice a1 n c) := cell_of ((hal0.block _ (lt_of_blk F3.out.1)).trans F3.out.1) rfl
    have G1 := Lib.hid (And.intro hal0 (And.intro hem (And.intro (hst.keep hal0) hsn)))
    clear hal0 hem hst hsn
    go_wp2_with (at_builtin; refine halt ?_)
    refine Halted.go ?_
    clear hr1 hr2 c0 c1
    generalize W2'.alloc (.cells #[] 93) = W3q at *
    refine Rep.append_list TRt rfl _ _ rfl rfl G1.out.2.1 (L := []) (M := L.take ix) rfl G1.out.2.2.1 G1.out.2.2.2 (by rw [List.length_nil]; unfold maxLen; omega) (by rw [List.length_nil]; omega) G1.out.1.size ?_
    intro v4 W4 hown4 hb4 _
    rw [List.nil_append] at hown4
    obtain ⟨a4, c4, rfl, -, -⟩ := hown4.sl0
    have hlt4 : (L.take ix).length = ix := by rw [List.length_take, HN.out]; omega
    rw [hlt4] at hown4 ⊢
    have hbb := G1.out.1.trans hb4
    have G2 := Lib.hid (And.intro hbb hown4)
    obtain ⟨z0, z1, z2, z3⟩ := (F2.out.2.2.1.keep (hbb.mono (Nat.le_refl _))).cells
    obtain ⟨y0, y1, y2, y3, y4, y5⟩ := (F2.out.2.2.2.keep (hbb.mono (Nat.le_refl _))).cells
    have HT4 := Lib.hid hlt4
    clear hlt4 hown4 hb4 hbb G1
    go_wp2_with (at_builtin; refine halt ?_)
    refine Halted.go ?_
    have hal := (Below.refl W4.heap.size W4).alloc (Nat.le_refl _) (.cells #[.int .i64 k.1, .int .u32 (k.2.1.1 : Int), .int .i64 k.2.1.2, .int .i64 k.2.2, .int .i64 a.o, .slice a.p.a a.p.n a.p.c, .int .u32 a.nx, .int .i64 a.md, .int .i64 a.pf, .slice a.c.a a.c.n a.c.c] 93)
    refine Rep.append_one TRt rfl _ _ rfl rfl (G2.out.2.below hal) (⟨k.1, k.2.1, k.2.2, a⟩ : RtV) _ 1 rfl (hnew _ _) (n := ix) HT4.out (by unfold maxLen; omega) (by show (ix + 1) * 112 ≤ _; omega) (Nat.le_trans G2.out.1.size hal.size) ?_
    intro v5 W5 hown5 hb5 _
    obtain ⟨a5, c5, rfl, -, -⟩ := hown5.sl0
    have hlt5 : (L.take ix ++ [(⟨k.1, k.2.1, k.2.2, a⟩ : RtV)]).length = ix + 1 := by rw [List.length_append, HT4.out]; rfl
    obtain ⟨n5, hn5⟩ : ∃ n5, ix + 1 = n5 := ⟨_, rfl⟩
    rw [hlt5, hn5] at hown5 ⊢
    have hbb := G2.out.1.trans ((hal.mono G2.out.1.size).trans hb5)
    have G3 := Lib.hid (And.intro hbb hown5)
    have H5 := Lib.hid (And.intro hlt5 hn5)
    have hx5 := (hbb.block _ (lt_of_blk F3.out.1)).trans F3.out.1
    have c0 : W5.cell? ⟨q, 0, none⟩ = some (.slice a1 n c) := cell_of hx5 rfl
    obtain ⟨sb, hr1, hr2, hst, hsn, -⟩ := Rep.cut_from TRt (F3.out.2.1.keep hbb) F3.out.2.2.1 F3.out.2.2.2 hjn
    have G4 := Lib.hid (And.intro hst (And.intro hsn hx5))
    clear z0 z1 z2 z3 y0 y1 y2 y3 y4 y5 hlt5 hn5 hown5 hb5 hbb G2 hal hst hsn hx5
    go_wp2_with (at_builtin; refine halt ?_)
    refine Halted.go ?_
    clear hr1 hr2
    refine Rep.append_list TRt rfl _ _ rfl rfl G3.out.2 (M := L.drop j) rfl G4.out.1 G4.out.2.1 (by rw [H5.out.1]; unfold maxLen; omega) (by rw [H5.out.1]; have := H5.out.2; omega) G3.out.1.size ?_
    intro v6 W6 hown6 hb6 _
    obtain ⟨a6, c6, rfl, -, -⟩ := hown6.sl0
    rw [HSJ.out] at hown6 ⊢
    obtain ⟨n6, hn6⟩ : ∃ n6, (setO L (⟨k.1, k.2.1, k.2.2, a⟩ : RtV)).length = n6 := ⟨_, rfl⟩
    rw [hn6] at hown6 ⊢
    clear hn6
    have hbb := G3.out.1.trans hb6
    have hx6 : W6.heap[q]? = some (.cells #[.slice a1 n c, .int .i64 asn, .int .i64 room, .int .i64 rf] 122) := (hbb.block _ (lt_of_blk F3.out.1)).trans F3.out.1
    have f6 : W6.frozen? ⟨q, 0, none⟩ = false := free_of hx6
    have e6 : W6.cell? ⟨q, 0, none⟩ = some (.slice a1 n c) := cell_of hx6 rfl
    obtain ⟨s', hs1, hs2, hbt⟩ := RefF.put (F := F) hx6 F2.out.2.1.fq F2.out.2.1.fl hbb.size hown6 (fun z hz => by
      rcases mem_set.1 hz with hz | ⟨hz, -⟩
      · rw [hz]; exact HOF.out.below (bcall F2.out.1 (Nat.le_refl _) hbb)
      · exact (F2.out.2.1.el z hz).below hbb)
    have G5 := Lib.hid (show ∃ s' rf', RefF F (W6.setCell ⟨q, 0, none⟩ (.slice a6 n6 c6)) q asn room rf' s' ∧ (s'.l, rf') = (if hasO L k || decide ((L.length : Int) < room) then (setO L (⟨k.1, k.2.1, k.2.2, a⟩ : RtV), rf) else (L, rf + 1)) ∧ But w (W6.setCell ⟨q, 0, none⟩ (.slice a6 n6 c6)) [q] from ⟨s', rf, hs2, by rw [HW0.out, if_pos rfl, hs1], (But.of_below (bcall F2.out.1 (Nat.le_refl _) hbb) [q]).trans hbt⟩)
    clear hown6 hb6 hbb hx6 hs1 hs2 hbt
    go_wp2_with fail
    go_end0
    exact ⟨rfl, G5.out⟩
  · go_wp2_with fail
    refine wp_region_heldP (StS q (.slice a1 n c) room) (by kernel_rfl) ?_
    generalize W2.drew = W3 at *
    refine held_reads [0, 1, 2, 3, 4, 5, 6, 7, 8, 9, 10, 11, 12, 13] (g := 0) rfl (by kernel_rfl) HR2.out (fun _ _ d _ _ h => by cases d <;> exact h) ?_
    simp only [pick, List.getD_cons_zero, List.getD_cons_succ]
    iterate 6 ((with_reducible refine wpRead_step (fun K hK => ?_)); go_simp; first | (rw [if_neg (by decide)]; (with_reducible refine hK _ ?_); clear hK K) | ((with_reducible refine hK _ ?_); clear hK K) | (apply Exists.intro; (with_reducible refine ⟨fun w' hw' => ?_, hK _ ?_⟩); ((go_simp; first | exact rfl | exact ⟨rfl, rfl⟩)); clear hK K))
    ((with_reducible refine wpRead_step (fun K hK => ?_)); go_simp; first | (rw [if_neg (by decide)]; (with_reducible refine hK _ ?_); clear hK K) | ((with_reducible refine hK _ ?_); clear hK K) | (apply Exists.intro; (with_reducible refine ⟨fun w' hw' => ?_, hK _ ?_⟩); ((have f0 := hw'.c; go_simp; first | exact rfl | exact ⟨rfl, rfl⟩)); clear hK K))
    iterate 4 ((with_reducible refine wpRead_step (fun K hK => ?_)); go_simp; first | (rw [if_neg (by decide)]; (with_reducible refine hK _ ?_); clear hK K) | ((with_reducible refine hK _ ?_); clear hK K) | (apply Exists.intro; (with_reducible refine ⟨fun w' hw' => ?_, hK _ ?_⟩); ((go_simp; first | exact rfl | exact ⟨rfl, rfl⟩)); clear hK K))
    ((with_reducible refine wpRead_step (fun K hK => ?_)); go_simp; first | (rw [if_neg (by decide)]; (with_reducible refine hK _ ?_); clear hK K) | ((with_reducible refine hK _ ?_); clear hK K) | (apply Exists.intro; (with_reducible refine ⟨fun w' hw' => ?_, hK _ ?_⟩); ((have f0 := hw'.r; go_simp; first | exact rfl | exact ⟨rfl, rfl⟩)); clear hK K))
    iterate 2 ((with_reducible refine wpRead_step (fun K hK => ?_)); go_simp; first | (rw [if_neg (by decide)]; (with_reducible refine hK _ ?_); clear hK K) | ((with_reducible refine hK _ ?_); clear hK K) | (apply Exists.intro; (with_reducible refine ⟨fun w' hw' => ?_, hK _ ?_⟩); ((go_simp; first | exact rfl | exact ⟨rfl, rfl⟩)); clear hK K))
    with_reducible refine wpRead_nil ?_
    refine wpAnyH_done (by kernel_rfl) ?_ _
    obtain ⟨W2', rfl⟩ : ∃ W2' : World, W2' = W3 := ⟨_, rfl⟩
    have c0 : W2'.cell? ⟨q, 0, none⟩ = some (.slice a1 n c) := HR2.out.c
    obtain ⟨sa, hr1, hr2, hst, hsn, -⟩ := Rep.cut_to TRt F3.out.2.1 F3.out.2.2.1 F3.out.2.2.2 hix0
    have hjn : ix ≤ n := hix0
    have HSJ := Lib.hid (show L.take ix ++ [(⟨k.1, k.2.1, k.2.2, a⟩ : RtV)] ++ L.drop ix = setO L (⟨k.1, k.2.1, k.2.2, a⟩ : RtV) from by have h := HSR.out; simp only [↓reduceIte, Bool.false_eq_true, Nat.add_zero] at h; exact h)
    have hal0 := (Below.refl W2'.heap.size W2').alloc (Nat.le_refl _) (.cells #[] 93)
    have hem : RRt.Own (W2'.alloc (.cells #[] 93)) W2'.heap.size (.slice (some ⟨W2'.heap.size, 0, none⟩) 0 0) ([] : List RtV) := Rep.own_empty (hnew _ _) (Nat.le_refl _)
    have c1 : (W2'.alloc (.cells #[] 93)).cell? ⟨q, 0, none⟩ = some (.slice a1 n c) := cell_of ((hal0.block _ (lt_of_blk F3.out.1)).trans F3.out.1) rfl
    have G1 := Lib.hid (And.intro hal0 (And.intro hem (And.intro (hst.keep hal0) hsn)))
    clear hal0 hem hst hsn
    go_wp2_with (at_builtin; refine halt ?_)
    refine Halted.go ?_
    clear hr1 hr2 c0 c1
    generalize W2'.alloc (.cells #[] 93) = W3q at *
    refine Rep.append_list TRt rfl _ _ rfl rfl G1.out.2.1 (L := []) (M := L.take ix) rfl G1.out.2.2.1 G1.out.2.2.2 (by rw [List.length_nil]; unfold maxLen; omega) (by rw [List.length_nil]; omega) G1.out.1.size ?_
    intro v4 W4 hown4 hb4 _
    rw [List.nil_append] at hown4
    obtain ⟨a4, c4, rfl, -, -⟩ := hown4.sl0
    have hlt4 : (L.take ix).length = ix := by rw [List.length_take, HN.out]; omega
    rw [hlt4] at hown4 ⊢
    have hbb := G1.out.1.trans hb4
    have G2 := Lib.hid (And.intro hbb hown4)
    obtain ⟨z0, z1, z2, z3⟩ := (F2.out.2.2.1.keep (hbb.mono (Nat.le_refl _))).cells
    obtain ⟨y0, y1, y2, y3, y4, y5⟩ := (F2.out.2.2.2.keep (hbb.mono (Nat.le_refl _))).cells
    have HT4 := Lib.hid hlt4
    clear hlt4 hown4 hb4 hbb G1
    go_wp2_with (at_builtin; refine halt ?_)
    refine Halted.go ?_
    have hal := (Below.refl W4.heap.size W4).alloc (Nat.le_refl _) (.cells #[.int .i64 k.1, .int .u32 (k.2.1.1 : Int), .int .i64 k.2.1.2, .int .i64 k.2.2, .int .i64 a.o, .slice a.p.a a.p.n a.p.c, .int .u32 a.nx, .int .i64 a.md, .int .i64 a.pf, .slice a.c.a a.c.n a.c.c] 93)
    refine Rep.append_one TRt rfl _ _ rfl rfl (G2.out.2.below hal) (⟨k.1, k.2.1, k.2.2, a⟩ : RtV) _ 1 rfl (hnew _ _) (n := ix) HT4.out (by unfold maxLen; omega) (by show (ix + 1) * 112 ≤ _; omega) (Nat.le_trans G2.out.1.size hal.size) ?_
    intro v5 W5 hown5 hb5 _
    obtain ⟨a5, c5, rfl, -, -⟩ := hown5.sl0
    have hlt5 : (L.take ix ++ [(⟨k.1, k.2.1, k.2.2, a⟩ : RtV)]).length = ix + 1 := by rw [List.length_append, HT4.out]; rfl
    obtain ⟨n5, hn5⟩ : ∃ n5, ix + 1 = n5 := ⟨_, rfl⟩
    rw [hlt5, hn5] at hown5 ⊢
    have hbb := G2.out.1.trans ((hal.mono G2.out.1.size).trans hb5)
    have G3 := Lib.hid (And.intro hbb hown5)
    have H5 := Lib.hid (And.intro hlt5 hn5)
    have hx5 := (hbb.block _ (lt_of_blk F3.out.1)).trans F3.out.1
    have c0 : W5.cell? ⟨q, 0, none⟩ = some (.slice a1 n c) := cell_of hx5 rfl
    obtain ⟨sb, hr1, hr2, hst, hsn, -⟩ := Rep.cut_from TRt (F3.out.2.1.keep hbb) F3.out.2.2.1 F3.out.2.2.2 hjn
    have G4 := Lib.hid (And.intro hst (And.intro hsn hx5))
    clear z0 z1 z2 z3 y0 y1 y2 y3 y4 y5 hlt5 hn5 hown5 hb5 hbb G2 hal hst hsn hx5
    go_wp2_with (at_builtin; refine halt ?_)
    refine Halted.go ?_
    clear hr1 hr2
    refine Rep.append_list TRt rfl _ _ rfl rfl G3.out.2 (M := L.drop ix) rfl G4.out.1 G4.out.2.1 (by rw [H5.out.1]; unfold maxLen; omega) (by rw [H5.out.1]; have := H5.out.2; omega) G3.out.1.size ?_
    intro v6 W6 hown6 hb6 _
    obtain ⟨a6, c6, rfl, -, -⟩ := hown6.sl0
    rw [HSJ.out] at hown6 ⊢
    obtain ⟨n6, hn6⟩ : ∃ n6, (setO L (⟨k.1, k.2.1, k.2.2, a⟩ : RtV)).length = n6 := ⟨_, rfl⟩
    rw [hn6] at hown6 ⊢
    clear hn6
    have hbb := G3.out.1.trans hb6
    have hx6 : W6.heap[q]? = some (.cells #[.slice a1 n c, .int .i64 asn, .int .i64 room, .int .i64 rf] 122) := (hbb.block _ (lt_of_blk F3.out.1)).trans F3.out.1
    have f6 : W6.frozen? ⟨q, 0, none⟩ = false := free_of hx6
    have e6 : W6.cell? ⟨q, 0, none⟩ = some (.slice a1 n c) := cell_of hx6 rfl
    obtain ⟨s', hs1, hs2, hbt⟩ := RefF.put (F := F) hx6 F2.out.2.1.fq F2.out.2.1.fl hbb.size hown6 (fun z hz => by
      rcases mem_set.1 hz with hz | ⟨hz, -⟩
      · rw [hz]; exact HOF.out.below (bcall F2.out.1 (Nat.le_refl _) hbb)
      · exact (F2.out.2.1.el z hz).below hbb)
    have G5 := Lib.hid (show ∃ s' rf', RefF F (W6.setCell ⟨q, 0, none⟩ (.slice a6 n6 c6)) q asn room rf' s' ∧ (s'.l, rf') = (if hasO L k || decide ((L.length : Int) < room) then (setO L (⟨k.1, k.2.1, k.2.2, a⟩ : RtV), rf) else (L, rf + 1)) ∧ But w (W6.setCell ⟨q, 0, none⟩ (.slice a6 n6 c6)) [q] from ⟨s', rf, hs2, by rw [HW0.out, if_pos rfl, hs1], (But.of_below (bcall F2.out.1 (Nat.le_refl _) hbb) [q]).trans hbt⟩)
    clear hown6 hb6 hbb hx6 hs1 hs2 hbt
    go_wp2_with fail
    go_end0
    exact ⟨rfl, G5.out⟩
end Go.Proofs.YtadoflcomienoaaGreat.Rr

