/- TableDoes: the law's walk. -/
import Derived.Test.YtfmehahjjgalfaaDo
namespace Go.Proofs.Ytfmehahjjgalfaa
open Go.RowKit

structure OpT where
  kind : Int
  o : Ov
  n : Int
deriving Inhabited
def ROpT : Rep OpT := ⟨64, 7, by decide, fun y => [.int .i64 y.kind, .int .i64 y.o.r, .int .u32 (y.o.ad : Int), .int .i64 y.o.ln, .int .i64 y.o.id, .int .i64 y.o.till, .int .i64 y.n], fun _ => rfl, fun _ => rfl⟩
def OpS (q : Nat) (y : OpT) (w : World) : Prop := w.heap[q]? = some (.cells #[.int .i64 y.kind, .int .i64 y.o.r, .int .u32 (y.o.ad : Int), .int .i64 y.o.ln, .int .i64 y.o.id, .int .i64 y.o.till, .int .i64 y.n] 64)
theorem OpS.cells {q : Nat} {y : OpT} {w : World} (h : OpS q y w) : w.cell? ⟨q, 0, none⟩ = some (.int .i64 y.kind) ∧ w.cell? ⟨q, 1, none⟩ = some (.int .i64 y.o.r) ∧ w.cell? ⟨q, 2, none⟩ = some (.int .u32 (y.o.ad : Int)) ∧ w.cell? ⟨q, 3, none⟩ = some (.int .i64 y.o.ln) ∧ w.cell? ⟨q, 4, none⟩ = some (.int .i64 y.o.id) ∧ w.cell? ⟨q, 5, none⟩ = some (.int .i64 y.o.till) ∧ w.cell? ⟨q, 6, none⟩ = some (.int .i64 y.n) :=
  ⟨cell_of h rfl, cell_of h rfl, cell_of h rfl, cell_of h rfl, cell_of h rfl, cell_of h rfl, cell_of h rfl⟩
theorem OpS.on {q : Nat} {y : OpT} {w w' : World} (h : OpS q y w) (hb : w'.heap[q]? = w.heap[q]?) : OpS q y w' := hb.trans h
theorem RefT.far {w w' : World} {base x bm : Nat} {L : List Ov} (H : RefT w base x L) (hb : But w w' [bm]) (hx : bm < x) : RefT w' base x L := H.on fun k hk hor => hb.block k hk (by
  have := H.lt
  simp only [List.mem_singleton]
  omega)
theorem TabAt.far {w w' : World} {t bm x : Nat} {L : List Ov} (H : TabAt w t bm L) (hb : But w w' [x]) (h1 : t ≠ x) (h2 : bm ≠ x) : TabAt w' t bm L :=
  H.on (hb.block _ H.lt.1 (by simp; exact h1)) (hb.block _ H.lt.2.1 (by simp; exact h2))
theorem filt_len (L : List Ov) (p : Ov → Bool) (i : Nat) (h : L.length ≤ i) : (L.filter p).length ≤ i + 1 := Nat.le_trans (List.length_filter_le _ _) (Nat.le_succ_of_le h)
/-- both tables hold the same -/
structure Both2 (w w' : World) (q t bm x : Nat) (y : OpT) (L : List Ov) : Prop where
  bel : Below w.heap.size w w'
  op : OpS q y w'
  tab : TabAt w' t bm L
  ref : ∃ base, RefT w' base x L
structure Sep (w : World) (q t bm x : Nat) : Prop where
  wb : w.heap.size ≤ bm
  wx : w.heap.size ≤ x
  bx : bm < x
  tx : t < x
  qx : x < q
theorem Both2.keep {w w' w2 : World} {q t bm x : Nat} {y : OpT} {L : List Ov} (H : Both2 w w' q t bm x y L) (hb : Below w'.heap.size w' w2) : Both2 w w2 q t bm x y L :=
  ⟨bcall H.bel (Nat.le_refl _) hb, H.op.on (hb.block _ (lt_of_blk H.op)), H.tab.keep hb, let ⟨b, h⟩ := H.ref; ⟨b, h.keep hb⟩⟩
def TdS (q9 q11 x : Nat) (g : Ov) (v : Value) (w : World) : Prop := OvS q9 g w ∧ OvS q11 g w ∧ x < w.heap.size ∧ w.cell? ⟨x, 0, none⟩ = some v
theorem TdS.on {q9 q11 x : Nat} {g : Ov} {v : Value} {w w' : World} (h : TdS q9 q11 x g v w) (hb : Below w.heap.size w w') : TdS q9 q11 x g v w' := ⟨h.1.on (hb.block _ (lt_of_blk h.1)), h.2.1.on (hb.block _ (lt_of_blk h.2.1)), Nat.lt_of_lt_of_le h.2.2.1 hb.size, (cell_same (hb.block _ h.2.2.1)).trans h.2.2.2⟩
structure OpsT (w : World) (oa : Option Addr) (n c : Nat) (l : List OpT) : Prop where
  sl : ROpT.Sl w oa n c l
  ok : ∀ y ∈ l, y.o.ad < 4294967296 ∧ PN.ok y.o.key
set_option maxRecDepth 100000 in
set_option maxHeartbeats 16000000 in
theorem tdoes_law {w : World} {oa : Option Addr} {n cn : Nat} {l : List OpT} (hl : OpsT w oa n cn l) : Calls Try.prog 7 #[.slice oa n cn] w fun e w' => e = .returned (.bool true) ∧ Below w.heap.size w w' := by
  have HL := Lib.hid hl.sl.len
  have hmax := hl.sl.max
  have HI := Lib.hid hl
  clear hl
  go_enter Try.func7, Try.ntmps7
  go_wp2_with fail
  refine (tnew_any _).mono ?_
  rintro e W1 ⟨t, bm, rfl, hT, hb, ht0, hm0⟩
  have hal := (Below.refl W1.heap.size W1).alloc (Nat.le_refl _) (.cells #[.slice none 0 0] 55)
  have hx0 : (W1.alloc (.cells #[.slice none 0 0] 55)).heap[W1.heap.size]? = some (.cells #[.slice none 0 0] 55 (0, 0)) := hnew _ _
  have F1 := Lib.hid (And.intro (bcall hb (Nat.le_refl _) hal) (And.intro (hT.keep hal) (show RefT (W1.alloc (.cells #[.slice none 0 0] 55)) (W1.heap.size + 1) W1.heap.size [] from ⟨by omega, ⟨_, hx0, Rep.Own.nil _ _⟩, Ord.nil⟩)))
  have HSX := Lib.hid (And.intro hm0 (And.intro (Nat.le_trans (Nat.le_trans hm0 (Nat.le_of_lt hT.lt.2.1)) (Nat.le_refl W1.heap.size)) (And.intro hT.lt.2.1 hT.lt.1)))
  clear hT hb ht0 hm0 hal hx0
  go_wp2_with fail
  generalize W1.alloc (.cells #[.slice none 0 0] 55) = W2 at *
  generalize W1.heap.size = x at *
  refine (lives23 _).mono ?_
  rintro e W3 ⟨rfl, hb⟩
  have F2 := Lib.hid (And.intro (bcall F1.out.1 (Nat.le_refl _) hb) (And.intro (F1.out.2.1.keep hb) (F1.out.2.2.keep hb)))
  clear hb F1
  go_wp2_with fail
  go_loopw [5] (fun iv wr => ∃ (i : Nat) (L : List Ov), i ≤ n ∧ i ≤ 150 ∧ iv = .int .i64 i ∧ TabAt wr t bm L ∧ (∃ base, RefT wr base x L) ∧ L.length ≤ i ∧ Below w.heap.size w wr) (fun iv _ => n - (intOf iv).toNat)
  case atStart => exact ⟨0, [], Nat.zero_le _, Nat.zero_le _, rfl, F2.out.2.1, ⟨_, F2.out.2.2⟩, Nat.le_refl _, F2.out.1⟩
  case round =>
    obtain ⟨i, L, hi, hi150, rfl, htab, href, hLi, hb⟩ := hrel
    obtain ⟨w2, rfl⟩ : ∃ w2 : World, w2 = wr := ⟨_, rfl⟩
    have G := Lib.hid (And.intro hb (And.intro htab href))
    have HLI := Lib.hid hLi
    clear hb htab href F2 hLi
    by_cases hlt : i < n ∧ i < 150
    · obtain ⟨hlt, hlt2⟩ := hlt
      have hil : ((i : Int) < (n : Int)) = True := by simp; omega
      have hil2 : ((i : Int) < 150) = True := by simp; omega
      have hi0 : ((0 : Int) ≤ (i : Int)) = True := by simp
      have hw3 := wrapS hlt hmax
      have hok := HI.out.ok (l.getD i default) (getD_mem (by rw [← HL.out]; exact hlt))
      obtain ⟨b, o, rfl, hbb, hat⟩ := (HI.out.sl.keep G.out.1).at hlt
      generalize l.getD i default = y at *
      have y0 := hat 0 (by decide)
      have y1 := hat 1 (by decide)
      have y2 := hat 2 (by decide)
      have y3 := hat 3 (by decide)
      have y4 := hat 4 (by decide)
      have y5 := hat 5 (by decide)
      have y6 := hat 6 (by decide)
      simp only [ROpT, Nat.add_zero, List.getElem?_cons_zero, List.getElem?_cons_succ] at y0 y1 y2 y3 y4 y5 y6
      have HOK := Lib.hid hok
      have hal := (Below.refl w2.heap.size w2).alloc (Nat.le_refl _) (.cells #[.int .i64 y.kind, .int .i64 y.o.r, .int .u32 (y.o.ad : Int), .int .i64 y.o.ln, .int .i64 y.o.id, .int .i64 y.o.till, .int .i64 y.n] 64)
      have hos : OpS w2.heap.size y (w2.alloc (.cells #[.int .i64 y.kind, .int .i64 y.o.r, .int .u32 (y.o.ad : Int), .int .i64 y.o.ln, .int .i64 y.o.id, .int .i64 y.o.till, .int .i64 y.n] 64)) := hnew _ _
      have hq : x < w2.heap.size := by obtain ⟨b', h'⟩ := G.out.2.2; exact h'.lx
      have J := Lib.hid (show Both2 w (w2.alloc (.cells #[.int .i64 y.kind, .int .i64 y.o.r, .int .u32 (y.o.ad : Int), .int .i64 y.o.ln, .int .i64 y.o.id, .int .i64 y.o.till, .int .i64 y.n] 64)) w2.heap.size t bm x y L from ⟨bcall G.out.1 (Nat.le_refl _) hal, hos, G.out.2.1.keep hal, let ⟨b', h'⟩ := G.out.2.2; ⟨b', h'.keep hal⟩⟩)
      have HS := Lib.hid (show Sep w w2.heap.size t bm x from ⟨HSX.out.1, HSX.out.2.1, HSX.out.2.2.1, HSX.out.2.2.2, hq⟩)
      have HLB := Lib.hid (show L.length ≤ 4611686 from by have := HLI.out; omega)
      obtain ⟨z0, z1, z2, z3, z4, z5, z6⟩ := hos.cells
      clear hat hbb hok hal hos hq G
      by_cases hk1 : y.kind = 1
      · have k1 : (y.kind == 1) = true := by simp [hk1]
        clear hk1
        go_wp2_with fail
        clear y0 y1 y2 y3 y4 y5 y6 z0 z1 z2 z3 z4 z5 z6
        generalize w2.alloc (.cells #[.int .i64 y.kind, .int .i64 y.o.r, .int .u32 (y.o.ad : Int), .int .i64 y.o.ln, .int .i64 y.o.id, .int .i64 y.o.till, .int .i64 y.n] 64) = W4 at *
        generalize w2.heap.size = q at *
        refine wp_region_heldP (OpS q y) (by kernel_rfl) ?_
        have hd := (Below.refl W4.heap.size W4).drew
        have J2 := Lib.hid (J.out.keep hd)
        clear hd J
        generalize W4.drew = W5 at *
        refine held_reads [0, 1, 2, 4, 5, 6] (g := 4) rfl (by kernel_rfl) J2.out.op (fun _ _ d _ _ h => by cases d <;> exact h) ?_
        simp only [pick, List.getD_cons_zero, List.getD_cons_succ]
        ((with_reducible refine wpRead_step (fun K hK => ?_)); go_simp; first | ((with_reducible refine hK _ ?_); clear hK K) | (apply Exists.intro; (with_reducible refine ⟨fun w' hw' => ?_, hK _ ?_⟩); (first | exact rfl | exact ⟨rfl, rfl⟩); clear hK K))
        ((with_reducible refine wpRead_step (fun K hK => ?_)); go_simp; first | ((with_reducible refine hK _ ?_); clear hK K) | (apply Exists.intro; (with_reducible refine ⟨fun w' hw' => ?_, hK _ ?_⟩); (first | exact rfl | exact ⟨rfl, rfl⟩); clear hK K))
        with_reducible refine wpRead_yes ?_ ?_
        rotate_left
        rfl
        intro K hK
        refine read_load 62 _ rfl q 1 #[.int .i64 y.o.r, .int .u32 (y.o.ad : Int), .int .i64 y.o.ln, .int .i64 y.o.id, .int .i64 y.o.till] rfl (fun w' hw' => rangeAt_block hw' 1 _ rfl) Try.underlying62 rfl (by kernel_rfl) (hK _ ?_)
        clear hK K
        ((with_reducible refine wpRead_step (fun K hK => ?_)); go_simp; first | ((with_reducible refine hK _ ?_); clear hK K) | (apply Exists.intro; (with_reducible refine ⟨fun w' hw' => ?_, hK _ ?_⟩); (first | exact rfl | exact ⟨rfl, rfl⟩); clear hK K))
        ((with_reducible refine wpRead_step (fun K hK => ?_)); go_simp; first | ((with_reducible refine hK _ ?_); clear hK K) | (apply Exists.intro; (with_reducible refine ⟨fun w' hw' => ?_, hK _ ?_⟩); (first | exact rfl | exact ⟨rfl, rfl⟩); clear hK K))
        with_reducible refine wpRead_yes ?_ ?_
        rotate_left
        rfl
        intro K hK
        refine read_load 62 _ rfl q 1 #[.int .i64 y.o.r, .int .u32 (y.o.ad : Int), .int .i64 y.o.ln, .int .i64 y.o.id, .int .i64 y.o.till] rfl (fun w' hw' => rangeAt_block hw' 1 _ rfl) Try.underlying62 rfl (by kernel_rfl) (hK _ ?_)
        clear hK K
        with_reducible refine wpRead_nil ?_
        have hset := fun (w' : World) (h : TabAt w' t bm L) => tset_any h (o := y.o) HOK.out.1 HOK.out.2
        have hset2 := fun (w' : World) (base : Nat) (h : RefT w' base x L) => rtset_any h HLB.out (o := y.o) HOK.out.1
        have HSE := Lib.hid (show (if setE L y.o = 0 then setO L y.o else L).length ≤ i + 1 from Nat.le_trans (tset_len J2.out.tab.ord y.o) (by have := HLI.out; omega))
        have HSET := Lib.hid (And.intro hset hset2)
        clear hset hset2
        refine held_one 3 (by kernel_rfl) ?_
        simp only [pick, List.getD_cons_zero, List.getD_cons_succ]
        go_wp2_with fail
        refine (HSET.out.1 _ J2.out.tab).mono ?_
        rintro e W6 ⟨rfl, hs⟩
        obtain ⟨bs, hbs⟩ := J2.out.ref
        have J3 := Lib.hid (And.intro (Below.step J2.out.bel J2.out.bel.size hs.but (by simp; exact HS.out.wb)) (And.intro (J2.out.op.on (hs.but.block _ (lt_of_blk J2.out.op) (by simp; have := HS.out.bx; have := HS.out.qx; omega))) (And.intro hs.tab (hbs.far hs.but HS.out.bx))))
        have HR := Lib.hid (HSET.out.2 _ _ J3.out.2.2.2)
        clear hs hbs J2 HSET
        obtain ⟨se, hse⟩ : ∃ se, setE L y.o = se := ⟨_, rfl⟩
        have HSEE := Lib.hid hse
        rw [hse] at HR ⊢
        clear hse
        go_wp2_with fail
        refine ⟨J3.out.2.1, ?_⟩
        refine held_one 7 (by kernel_rfl) ?_
        simp only [pick, List.getD_cons_zero, List.getD_cons_succ]
        go_wp2_with fail
        refine HR.out.mono ?_
        rintro e W7 ⟨rfl, hs⟩
        have hrf : ∃ base, RefT W7 base x (if setE L y.o = 0 then setO L y.o else L) := by
          by_cases h0 : setE L y.o = 0
          · rw [if_pos h0]; obtain ⟨b', -, h'⟩ := hs.yes h0; exact ⟨b', h'⟩
          · rw [if_neg h0]; exact ⟨_, hs.no h0⟩
        have J9 := Lib.hid (show Both2 w W7 q t bm x y (if setE L y.o = 0 then setO L y.o else L) from ⟨Below.step J3.out.1 J3.out.1.size hs.but (by simp; exact HS.out.wx), J3.out.2.1.on (hs.but.block _ (lt_of_blk J3.out.2.1) (by simp; have := HS.out.qx; omega)), J3.out.2.2.1.far hs.but (by have := HS.out.tx; omega) (by have := HS.out.bx; omega), hrf⟩)
        clear hs hrf J3 HR
        go_wp2_with fail
        refine ⟨J9.out.op, ?_⟩
        refine held_reads [8] (g := 1) rfl (by kernel_rfl) J9.out.op (fun _ _ d _ _ h => by cases d <;> exact h) ?_
        simp only [pick, List.getD_cons_zero, List.getD_cons_succ]
        ((with_reducible refine wpRead_step (fun K hK => ?_)); go_simp; first | ((with_reducible refine hK _ ?_); clear hK K) | (apply Exists.intro; (with_reducible refine ⟨fun w' hw' => ?_, hK _ ?_⟩); (first | exact rfl | exact ⟨rfl, rfl⟩); clear hK K))
        with_reducible refine wpRead_nil ?_
        refine held_one 9 (by kernel_rfl) ?_
        simp only [pick, List.getD_cons_zero, List.getD_cons_succ]
        go_wp2_with fail
        refine ⟨J9.out.op, ?_⟩
        refine wpAnyH_done (by kernel_rfl) ?_ _
        have HLN := Lib.hid (show (if setE L y.o = 0 then setO L y.o else L).length ≤ i + 1 from HSE.out)
        have HLB2 := Lib.hid (show (if setE L y.o = 0 then setO L y.o else L).length ≤ 4611686 from by have := HLN.out; omega)
        generalize (if setE L y.o = 0 then setO L y.o else L) = L9 at *
        obtain ⟨z0, z1, z2, z3, z4, z5, z6⟩ := J9.out.op.cells
        go_wp2_with fail
        refine (tget_any J9.out.tab HOK.out.2).mono ?_
        rintro e W10 ⟨rfl, hb⟩
        have J10 := Lib.hid (J9.out.keep hb)
        clear hb J9 z0 z1 z2 z3 z4 z5 z6
        have hgr := fun (w' : World) (base : Nat) (h : RefT w' base x L9) => rtget_any h y.o.key
        generalize getO L9 y.o.key = g at *
        generalize hasO L9 y.o.key = hh at *
        unfold Ov.v
        have hal := (Below.refl W10.heap.size W10).alloc (Nat.le_refl _) (.cells #[.int .i64 g.r, .int .u32 (g.ad : Int), .int .i64 g.ln, .int .i64 g.id, .int .i64 g.till] 62)
        have h9 : OvS W10.heap.size g (W10.alloc (.cells #[.int .i64 g.r, .int .u32 (g.ad : Int), .int .i64 g.ln, .int .i64 g.id, .int .i64 g.till] 62)) := hnew _ _
        have J11 := Lib.hid (And.intro (J10.out.keep hal) h9)
        obtain ⟨z0, z1, z2, z3, z4, z5, z6⟩ := J11.out.1.op.cells
        have HGR := Lib.hid hgr
        clear hal h9 J10 hgr
        go_wp2_with fail
        clear z0 z1 z2 z3 z4 z5 z6
        generalize W10.alloc (.cells #[.int .i64 g.r, .int .u32 (g.ad : Int), .int .i64 g.ln, .int .i64 g.id, .int .i64 g.till] 62) = W11 at *
        generalize W10.heap.size = q9 at *
        obtain ⟨bs, hbs⟩ := J11.out.1.ref
        refine (HGR.out _ _ hbs).mono ?_
        rintro e W12 ⟨rfl, hb⟩
        unfold Ov.v
        have hal := (Below.refl W12.heap.size W12).alloc (Nat.le_refl _) (.cells #[.int .i64 g.r, .int .u32 (g.ad : Int), .int .i64 g.ln, .int .i64 g.id, .int .i64 g.till] 62)
        have hbb := bcall hb (Nat.le_refl _) hal
        have h11 : OvS W12.heap.size g (W12.alloc (.cells #[.int .i64 g.r, .int .u32 (g.ad : Int), .int .i64 g.ln, .int .i64 g.id, .int .i64 g.till] 62)) := hnew _ _
        have J12 := Lib.hid (And.intro (J11.out.1.keep hbb) (And.intro (J11.out.2.on (hbb.block _ (lt_of_blk J11.out.2))) h11))
        clear hb hal hbb h11 hbs J11 HGR
        go_wp2_with fail
        generalize W12.alloc (.cells #[.int .i64 g.r, .int .u32 (g.ad : Int), .int .i64 g.ln, .int .i64 g.id, .int .i64 g.till] 62) = W13 at *
        generalize W12.heap.size = q11 at *
        have hd := (Below.refl W13.heap.size W13).drew
        obtain ⟨bs, hbs⟩ := (J12.out.1.keep hd).ref
        obtain ⟨a, c, hx0, hsl, -, -⟩ := hbs.sl
        have hx0' : W13.drew.cell? ⟨x, 0, none⟩ = some (.slice a L9.length c) := cell_of hx0 rfl
        have hlx := lt_of_blk hx0
        obtain ⟨n9, hn9⟩ : ∃ k, L9.length = k := ⟨_, rfl⟩
        rw [hn9] at hx0' hsl
        have HN9 := Lib.hid hn9
        have J13 := Lib.hid (And.intro (J12.out.1.keep hd) (And.intro hsl (show TdS q9 q11 x g (.slice a n9 c) W13.drew from ⟨J12.out.2.1.on (hd.block _ (lt_of_blk J12.out.2.1)), J12.out.2.2.on (hd.block _ (lt_of_blk J12.out.2.2)), hlx, hx0'⟩)))
        clear hd hbs hx0 hx0' hsl hlx hn9 J12
        refine wp_region_heldP (TdS q9 q11 x g (.slice a n9 c)) (by kernel_rfl) ?_
        generalize W13.drew = W14 at *
        refine held_reads [0, 1, 2, 3, 4, 5, 6, 7, 8, 9, 10, 11, 12, 13, 15, 16, 17, 18] (g := 14) rfl (by kernel_rfl) J13.out.2.2 (fun _ _ d _ _ h => by cases d <;> exact h) ?_
        simp only [pick, List.getD_cons_zero, List.getD_cons_succ]
        ((with_reducible refine wpRead_step (fun K hK => ?_)); go_simp; first | ((with_reducible refine hK _ ?_); clear hK K) | (apply Exists.intro; (with_reducible refine ⟨fun w' hw' => ?_, hK _ ?_⟩); (first | exact rfl | exact ⟨rfl, rfl⟩); clear hK K))
        ((with_reducible refine wpRead_step (fun K hK => ?_)); go_simp; first | ((with_reducible refine hK _ ?_); clear hK K) | (apply Exists.intro; (with_reducible refine ⟨fun w' hw' => ?_, hK _ ?_⟩); (first | exact rfl | exact ⟨rfl, rfl⟩); clear hK K))
        ((with_reducible refine wpRead_step (fun K hK => ?_)); go_simp; first | ((with_reducible refine hK _ ?_); clear hK K) | (apply Exists.intro; (with_reducible refine ⟨fun w' hw' => ?_, hK _ ?_⟩); (first | exact rfl | exact ⟨rfl, rfl⟩); clear hK K))
        with_reducible refine wpRead_yes ?_ ?_
        rotate_left
        rfl
        intro K hK
        refine read_load 62 _ rfl q9 0 #[.int .i64 g.r, .int .u32 (g.ad : Int), .int .i64 g.ln, .int .i64 g.id, .int .i64 g.till] rfl (fun w' hw' => rangeAt_block (hw'.1) 0 _ rfl) Try.underlying62 rfl (by kernel_rfl) (hK _ ?_)
        clear hK K
        with_reducible refine wpRead_yes ?_ ?_
        rotate_left
        rfl
        intro K hK
        refine read_load 62 _ rfl q11 0 #[.int .i64 g.r, .int .u32 (g.ad : Int), .int .i64 g.ln, .int .i64 g.id, .int .i64 g.till] rfl (fun w' hw' => rangeAt_block (hw'.2.1) 0 _ rfl) Try.underlying62 rfl (by kernel_rfl) (hK _ ?_)
        clear hK K
        ((with_reducible refine wpRead_step (fun K hK => ?_)); go_simp; first | ((with_reducible refine hK _ ?_); clear hK K) | (apply Exists.intro; (with_reducible refine ⟨fun w' hw' => ?_, hK _ ?_⟩); (first | exact rfl | exact ⟨rfl, rfl⟩); clear hK K))
        ((with_reducible refine wpRead_step (fun K hK => ?_)); go_simp; first | ((with_reducible refine hK _ ?_); clear hK K) | (apply Exists.intro; (with_reducible refine ⟨fun w' hw' => ?_, hK _ ?_⟩); (first | exact rfl | exact ⟨rfl, rfl⟩); clear hK K))
        ((with_reducible refine wpRead_step (fun K hK => ?_)); go_simp; first | ((with_reducible refine hK _ ?_); clear hK K) | (apply Exists.intro; (with_reducible refine ⟨fun w' hw' => ?_, hK _ ?_⟩); (first | exact rfl | exact ⟨rfl, rfl⟩); clear hK K))
        ((with_reducible refine wpRead_step (fun K hK => ?_)); go_simp; first | ((with_reducible refine hK _ ?_); clear hK K) | (apply Exists.intro; (with_reducible refine ⟨fun w' hw' => ?_, hK _ ?_⟩); (first | exact rfl | exact ⟨rfl, rfl⟩); clear hK K))
        ((with_reducible refine wpRead_step (fun K hK => ?_)); go_simp; first | ((with_reducible refine hK _ ?_); clear hK K) | (apply Exists.intro; (with_reducible refine ⟨fun w' hw' => ?_, hK _ ?_⟩); (first | exact rfl | exact ⟨rfl, rfl⟩); clear hK K))
        ((with_reducible refine wpRead_step (fun K hK => ?_)); go_simp; first | ((with_reducible refine hK _ ?_); clear hK K) | (apply Exists.intro; (with_reducible refine ⟨fun w' hw' => ?_, hK _ ?_⟩); (first | exact rfl | exact ⟨rfl, rfl⟩); clear hK K))
        ((with_reducible refine wpRead_step (fun K hK => ?_)); go_simp; first | ((with_reducible refine hK _ ?_); clear hK K) | (apply Exists.intro; (with_reducible refine ⟨fun w' hw' => ?_, hK _ ?_⟩); (first | exact rfl | exact ⟨rfl, rfl⟩); clear hK K))
        ((with_reducible refine wpRead_step (fun K hK => ?_)); go_simp; first | ((with_reducible refine hK _ ?_); clear hK K) | (apply Exists.intro; (with_reducible refine ⟨fun w' hw' => ?_, hK _ ?_⟩); (first | exact rfl | exact ⟨rfl, rfl⟩); clear hK K))
        ((with_reducible refine wpRead_step (fun K hK => ?_)); go_simp; first | ((with_reducible refine hK _ ?_); clear hK K) | (apply Exists.intro; (with_reducible refine ⟨fun w' hw' => ?_, hK _ ?_⟩); (first | exact rfl | exact ⟨rfl, rfl⟩); clear hK K))
        ((with_reducible refine wpRead_step (fun K hK => ?_)); go_simp; first | ((with_reducible refine hK _ ?_); clear hK K) | (apply Exists.intro; (with_reducible refine ⟨fun w' hw' => ?_, hK _ ?_⟩); (first | exact rfl | exact ⟨rfl, rfl⟩); clear hK K))
        ((with_reducible refine wpRead_step (fun K hK => ?_)); go_simp; first | ((with_reducible refine hK _ ?_); clear hK K) | (apply Exists.intro; (with_reducible refine ⟨fun w' hw' => ?_, hK _ ?_⟩); (first | exact rfl | exact ⟨rfl, rfl⟩); clear hK K))
        ((with_reducible refine wpRead_step (fun K hK => ?_)); go_simp; first | ((with_reducible refine hK _ ?_); clear hK K) | (apply Exists.intro; (with_reducible refine ⟨fun w' hw' => ?_, hK _ ?_⟩); (first | exact rfl | exact ⟨rfl, rfl⟩); clear hK K))
        ((with_reducible refine wpRead_step (fun K hK => ?_)); go_simp; first | ((with_reducible refine hK _ ?_); clear hK K) | (apply Exists.intro; (with_reducible refine ⟨fun w' hw' => ?_, hK _ ?_⟩); (obtain ⟨-, -, -, f0⟩ := hw'; go_simp; first | exact rfl | exact ⟨rfl, rfl⟩); clear hK K))
        with_reducible refine wpRead_nil ?_
        refine held_one 14 (by kernel_rfl) ?_
        simp only [pick, List.getD_cons_zero, List.getD_cons_succ]
        go_wp2_with fail
        refine (tall_any J13.out.1.tab HLB2.out).mono ?_
        rintro e W15 ⟨v, rfl, hown, hb⟩
        obtain ⟨a5, c5, rfl, hs5, -⟩ := hown.sl0
        rw [HN9.out] at hs5 ⊢
        have J14 := Lib.hid (And.intro (J13.out.1.keep hb) (And.intro (J13.out.2.1.keep hb) (And.intro (J13.out.2.2.on hb) hs5)))
        clear hown hb hs5 J13
        go_wp2_with fail
        refine ⟨J14.out.2.2.1, ?_⟩
        refine held_one 19 (by kernel_rfl) ?_
        simp only [pick, List.getD_cons_zero, List.getD_cons_succ]
        go_wp2_with fail
        refine (rtsame J14.out.2.2.2 J14.out.2.1).mono ?_
        rintro e W16 ⟨rfl, hb⟩
        have J15 := Lib.hid (And.intro (J14.out.1.keep hb) (J14.out.2.2.1.on hb))
        clear hb J14
        go_wp2_with fail
        refine ⟨J15.out.2, ?_⟩
        refine held_reads [20, 21, 22, 23, 25, 26, 27, 28, 29] (g := 3) rfl (by kernel_rfl) J15.out.2 (fun _ _ d _ _ h => by cases d <;> exact h) ?_
        simp only [pick, List.getD_cons_zero, List.getD_cons_succ]
        ((with_reducible refine wpRead_step (fun K hK => ?_)); go_simp; first | ((with_reducible refine hK _ ?_); clear hK K) | (apply Exists.intro; (with_reducible refine ⟨fun w' hw' => ?_, hK _ ?_⟩); (first | exact rfl | exact ⟨rfl, rfl⟩); clear hK K))
        ((with_reducible refine wpRead_step (fun K hK => ?_)); go_simp; first | ((with_reducible refine hK _ ?_); clear hK K) | (apply Exists.intro; (with_reducible refine ⟨fun w' hw' => ?_, hK _ ?_⟩); (first | exact rfl | exact ⟨rfl, rfl⟩); clear hK K))
        ((with_reducible refine wpRead_step (fun K hK => ?_)); go_simp; first | ((with_reducible refine hK _ ?_); clear hK K) | (apply Exists.intro; (with_reducible refine ⟨fun w' hw' => ?_, hK _ ?_⟩); (first | exact rfl | exact ⟨rfl, rfl⟩); clear hK K))
        ((with_reducible refine wpRead_step (fun K hK => ?_)); go_simp; first | ((with_reducible refine hK _ ?_); clear hK K) | (apply Exists.intro; (with_reducible refine ⟨fun w' hw' => ?_, hK _ ?_⟩); (first | exact rfl | exact ⟨rfl, rfl⟩); clear hK K))
        ((with_reducible refine wpRead_step (fun K hK => ?_)); go_simp; first | ((with_reducible refine hK _ ?_); clear hK K) | (apply Exists.intro; (with_reducible refine ⟨fun w' hw' => ?_, hK _ ?_⟩); (first | exact rfl | exact ⟨rfl, rfl⟩); clear hK K))
        ((with_reducible refine wpRead_step (fun K hK => ?_)); go_simp; first | ((with_reducible refine hK _ ?_); clear hK K) | (apply Exists.intro; (with_reducible refine ⟨fun w' hw' => ?_, hK _ ?_⟩); (first | exact rfl | exact ⟨rfl, rfl⟩); clear hK K))
        ((with_reducible refine wpRead_step (fun K hK => ?_)); go_simp; first | ((with_reducible refine hK _ ?_); clear hK K) | (apply Exists.intro; (with_reducible refine ⟨fun w' hw' => ?_, hK _ ?_⟩); (first | exact rfl | exact ⟨rfl, rfl⟩); clear hK K))
        ((with_reducible refine wpRead_step (fun K hK => ?_)); go_simp; first | ((with_reducible refine hK _ ?_); clear hK K) | (apply Exists.intro; (with_reducible refine ⟨fun w' hw' => ?_, hK _ ?_⟩); (obtain ⟨-, -, -, f0⟩ := hw'; go_simp; first | exact rfl | exact ⟨rfl, rfl⟩); clear hK K))
        ((with_reducible refine wpRead_step (fun K hK => ?_)); go_simp; first | ((with_reducible refine hK _ ?_); clear hK K) | (apply Exists.intro; (with_reducible refine ⟨fun w' hw' => ?_, hK _ ?_⟩); (first | exact rfl | exact ⟨rfl, rfl⟩); clear hK K))
        with_reducible refine wpRead_nil ?_
        refine held_one 24 (by kernel_rfl) ?_
        simp only [pick, List.getD_cons_zero, List.getD_cons_succ]
        go_wp2_with fail
        refine (tlen_any J15.out.1.tab).mono ?_
        rintro e W17 ⟨rfl, hw⟩
        subst hw
        rw [HN9.out]
        go_wp2_with fail
        refine ⟨J15.out.2, ?_⟩
        refine held_reads [30, 31] (g := 0) rfl (by kernel_rfl) J15.out.2 (fun _ _ d _ _ h => by cases d <;> exact h) ?_
        simp only [pick, List.getD_cons_zero, List.getD_cons_succ]
        ((with_reducible refine wpRead_step (fun K hK => ?_)); go_simp; first | ((with_reducible refine hK _ ?_); clear hK K) | (apply Exists.intro; (with_reducible refine ⟨fun w' hw' => ?_, hK _ ?_⟩); (first | exact rfl | exact ⟨rfl, rfl⟩); clear hK K))
        ((with_reducible refine wpRead_step (fun K hK => ?_)); go_simp; first | ((with_reducible refine hK _ ?_); clear hK K) | (apply Exists.intro; (with_reducible refine ⟨fun w' hw' => ?_, hK _ ?_⟩); (first | exact rfl | exact ⟨rfl, rfl⟩); clear hK K))
        with_reducible refine wpRead_nil ?_
        refine wpAnyH_done (by kernel_rfl) ?_ _
        go_wp2_with fail
        exact ⟨⟨i + 1, L9, hlt, hlt2, by first | rw [hw3] | rw [Int.natCast_succ], J15.out.1.tab, J15.out.1.ref, HLN.out, J15.out.1.bel⟩, by first | (rw [hw3]; exact mSucc hlt) | (rw [← Int.natCast_succ]; exact mSucc hlt)⟩
      have k1 : (y.kind == 1) = false := by simpa using hk1
      clear hk1
      by_cases hk2 : y.kind = 2
      · have k2 : (y.kind == 2) = true := by simp [hk2]
        clear hk2
        go_wp2_with fail
        clear y0 y1 y2 y3 y4 y5 y6 z0 z1 z2 z3 z4 z5 z6
        generalize w2.alloc (.cells #[.int .i64 y.kind, .int .i64 y.o.r, .int .u32 (y.o.ad : Int), .int .i64 y.o.ln, .int .i64 y.o.id, .int .i64 y.o.till, .int .i64 y.n] 64) = W4 at *
        generalize w2.heap.size = q at *
        refine wp_region_heldP (OpS q y) (by kernel_rfl) ?_
        have hd := (Below.refl W4.heap.size W4).drew
        have J2 := Lib.hid (J.out.keep hd)
        clear hd J
        generalize W4.drew = W5 at *
        refine held_reads [0, 1, 2, 3, 4, 6, 7, 8, 9, 10] (g := 4) rfl (by kernel_rfl) J2.out.op (fun _ _ d _ _ h => by cases d <;> exact h) ?_
        simp only [pick, List.getD_cons_zero, List.getD_cons_succ]
        ((with_reducible refine wpRead_step (fun K hK => ?_)); go_simp; first | ((with_reducible refine hK _ ?_); clear hK K) | (apply Exists.intro; (with_reducible refine ⟨fun w' hw' => ?_, hK _ ?_⟩); (first | exact rfl | exact ⟨rfl, rfl⟩); clear hK K))
        ((with_reducible refine wpRead_step (fun K hK => ?_)); go_simp; first | ((with_reducible refine hK _ ?_); clear hK K) | (apply Exists.intro; (with_reducible refine ⟨fun w' hw' => ?_, hK _ ?_⟩); (first | exact rfl | exact ⟨rfl, rfl⟩); clear hK K))
        ((with_reducible refine wpRead_step (fun K hK => ?_)); go_simp; first | ((with_reducible refine hK _ ?_); clear hK K) | (apply Exists.intro; (with_reducible refine ⟨fun w' hw' => ?_, hK _ ?_⟩); (first | exact rfl | exact ⟨rfl, rfl⟩); clear hK K))
        ((with_reducible refine wpRead_step (fun K hK => ?_)); go_simp; first | ((with_reducible refine hK _ ?_); clear hK K) | (apply Exists.intro; (with_reducible refine ⟨fun w' hw' => ?_, hK _ ?_⟩); (first | exact rfl | exact ⟨rfl, rfl⟩); clear hK K))
        with_reducible refine wpRead_yes ?_ ?_
        rotate_left
        rfl
        intro K hK
        refine read_load 58 _ rfl q 2 #[.int .u32 (y.o.ad : Int), .int .i64 y.o.ln] rfl (fun w' hw' => rangeAt_block hw' 2 _ rfl) Try.underlying58 rfl (by kernel_rfl) (hK _ ?_)
        clear hK K
        ((with_reducible refine wpRead_step (fun K hK => ?_)); go_simp; first | ((with_reducible refine hK _ ?_); clear hK K) | (apply Exists.intro; (with_reducible refine ⟨fun w' hw' => ?_, hK _ ?_⟩); (first | exact rfl | exact ⟨rfl, rfl⟩); clear hK K))
        ((with_reducible refine wpRead_step (fun K hK => ?_)); go_simp; first | ((with_reducible refine hK _ ?_); clear hK K) | (apply Exists.intro; (with_reducible refine ⟨fun w' hw' => ?_, hK _ ?_⟩); (first | exact rfl | exact ⟨rfl, rfl⟩); clear hK K))
        ((with_reducible refine wpRead_step (fun K hK => ?_)); go_simp; first | ((with_reducible refine hK _ ?_); clear hK K) | (apply Exists.intro; (with_reducible refine ⟨fun w' hw' => ?_, hK _ ?_⟩); (first | exact rfl | exact ⟨rfl, rfl⟩); clear hK K))
        ((with_reducible refine wpRead_step (fun K hK => ?_)); go_simp; first | ((with_reducible refine hK _ ?_); clear hK K) | (apply Exists.intro; (with_reducible refine ⟨fun w' hw' => ?_, hK _ ?_⟩); (first | exact rfl | exact ⟨rfl, rfl⟩); clear hK K))
        with_reducible refine wpRead_yes ?_ ?_
        rotate_left
        rfl
        intro K hK
        refine read_load 58 _ rfl q 2 #[.int .u32 (y.o.ad : Int), .int .i64 y.o.ln] rfl (fun w' hw' => rangeAt_block hw' 2 _ rfl) Try.underlying58 rfl (by kernel_rfl) (hK _ ?_)
        clear hK K
        with_reducible refine wpRead_nil ?_
        refine held_one 5 (by kernel_rfl) ?_
        simp only [pick, List.getD_cons_zero, List.getD_cons_succ]
        go_wp2_with fail
        refine (tdel_any J2.out.tab HOK.out.2).mono ?_
        rintro e W6 ⟨rfl, hs⟩
        obtain ⟨bs, hbs⟩ := J2.out.ref
        have J3 := Lib.hid (And.intro (Below.step J2.out.bel J2.out.bel.size hs.but (by simp; exact HS.out.wb)) (And.intro (J2.out.op.on (hs.but.block _ (lt_of_blk J2.out.op) (by simp; have := HS.out.bx; have := HS.out.qx; omega))) (And.intro hs.tab (hbs.far hs.but HS.out.bx))))
        have HR := Lib.hid (rtdel_any J3.out.2.2.2 HLB.out y.o.key)
        clear hs hbs J2
        generalize hasO L y.o.key = hd at *
        go_wp2_with fail
        refine ⟨J3.out.2.1, ?_⟩
        refine held_one 11 (by kernel_rfl) ?_
        simp only [pick, List.getD_cons_zero, List.getD_cons_succ]
        go_wp2_with fail
        refine HR.out.mono ?_
        rintro e W7 ⟨rfl, hs⟩
        have J9 := Lib.hid (show Both2 w W7 q t bm x y (L.filter fun z => decide (z.key ≠ y.o.key)) from ⟨Below.step J3.out.1 J3.out.1.size hs.but (by simp; exact HS.out.wx), J3.out.2.1.on (hs.but.block _ (lt_of_blk J3.out.2.1) (by simp; have := HS.out.qx; omega)), J3.out.2.2.1.far hs.but (by have := HS.out.tx; omega) (by have := HS.out.bx; omega), hs.tab⟩)
        clear hs J3 HR
        go_wp2_with fail
        refine ⟨J9.out.op, ?_⟩
        refine held_reads [12] (g := 1) rfl (by kernel_rfl) J9.out.op (fun _ _ d _ _ h => by cases d <;> exact h) ?_
        simp only [pick, List.getD_cons_zero, List.getD_cons_succ]
        ((with_reducible refine wpRead_step (fun K hK => ?_)); go_simp; first | ((with_reducible refine hK _ ?_); clear hK K) | (apply Exists.intro; (with_reducible refine ⟨fun w' hw' => ?_, hK _ ?_⟩); (first | exact rfl | exact ⟨rfl, rfl⟩); clear hK K))
        with_reducible refine wpRead_nil ?_
        refine held_one 13 (by kernel_rfl) ?_
        simp only [pick, List.getD_cons_zero, List.getD_cons_succ]
        go_wp2_with fail
        refine ⟨J9.out.op, ?_⟩
        refine wpAnyH_done (by kernel_rfl) ?_ _
        have HLN := Lib.hid (show (L.filter fun z => decide (z.key ≠ y.o.key)).length ≤ i + 1 from filt_len _ _ _ HLI.out)
        have HLB2 := Lib.hid (show (L.filter fun z => decide (z.key ≠ y.o.key)).length ≤ 4611686 from by have := HLN.out; omega)
        generalize (L.filter fun z => decide (z.key ≠ y.o.key)) = L9 at *
        obtain ⟨z0, z1, z2, z3, z4, z5, z6⟩ := J9.out.op.cells
        go_wp2_with fail
        refine (tget_any J9.out.tab HOK.out.2).mono ?_
        rintro e W10 ⟨rfl, hb⟩
        have J10 := Lib.hid (J9.out.keep hb)
        clear hb J9 z0 z1 z2 z3 z4 z5 z6
        have hgr := fun (w' : World) (base : Nat) (h : RefT w' base x L9) => rtget_any h y.o.key
        generalize getO L9 y.o.key = g at *
        generalize hasO L9 y.o.key = hh at *
        unfold Ov.v
        have hal := (Below.refl W10.heap.size W10).alloc (Nat.le_refl _) (.cells #[.int .i64 g.r, .int .u32 (g.ad : Int), .int .i64 g.ln, .int .i64 g.id, .int .i64 g.till] 62)
        have h9 : OvS W10.heap.size g (W10.alloc (.cells #[.int .i64 g.r, .int .u32 (g.ad : Int), .int .i64 g.ln, .int .i64 g.id, .int .i64 g.till] 62)) := hnew _ _
        have J11 := Lib.hid (And.intro (J10.out.keep hal) h9)
        obtain ⟨z0, z1, z2, z3, z4, z5, z6⟩ := J11.out.1.op.cells
        have HGR := Lib.hid hgr
        clear hal h9 J10 hgr
        go_wp2_with fail
        clear z0 z1 z2 z3 z4 z5 z6
        generalize W10.alloc (.cells #[.int .i64 g.r, .int .u32 (g.ad : Int), .int .i64 g.ln, .int .i64 g.id, .int .i64 g.till] 62) = W11 at *
        generalize W10.heap.size = q9 at *
        obtain ⟨bs, hbs⟩ := J11.out.1.ref
        refine (HGR.out _ _ hbs).mono ?_
        rintro e W12 ⟨rfl, hb⟩
        unfold Ov.v
        have hal := (Below.refl W12.heap.size W12).alloc (Nat.le_refl _) (.cells #[.int .i64 g.r, .int .u32 (g.ad : Int), .int .i64 g.ln, .int .i64 g.id, .int .i64 g.till] 62)
        have hbb := bcall hb (Nat.le_refl _) hal
        have h11 : OvS W12.heap.size g (W12.alloc (.cells #[.int .i64 g.r, .int .u32 (g.ad : Int), .int .i64 g.ln, .int .i64 g.id, .int .i64 g.till] 62)) := hnew _ _
        have J12 := Lib.hid (And.intro (J11.out.1.keep hbb) (And.intro (J11.out.2.on (hbb.block _ (lt_of_blk J11.out.2))) h11))
        clear hb hal hbb h11 hbs J11 HGR
        go_wp2_with fail
        generalize W12.alloc (.cells #[.int .i64 g.r, .int .u32 (g.ad : Int), .int .i64 g.ln, .int .i64 g.id, .int .i64 g.till] 62) = W13 at *
        generalize W12.heap.size = q11 at *
        have hd := (Below.refl W13.heap.size W13).drew
        obtain ⟨bs, hbs⟩ := (J12.out.1.keep hd).ref
        obtain ⟨a, c, hx0, hsl, -, -⟩ := hbs.sl
        have hx0' : W13.drew.cell? ⟨x, 0, none⟩ = some (.slice a L9.length c) := cell_of hx0 rfl
        have hlx := lt_of_blk hx0
        obtain ⟨n9, hn9⟩ : ∃ k, L9.length = k := ⟨_, rfl⟩
        rw [hn9] at hx0' hsl
        have HN9 := Lib.hid hn9
        have J13 := Lib.hid (And.intro (J12.out.1.keep hd) (And.intro hsl (show TdS q9 q11 x g (.slice a n9 c) W13.drew from ⟨J12.out.2.1.on (hd.block _ (lt_of_blk J12.out.2.1)), J12.out.2.2.on (hd.block _ (lt_of_blk J12.out.2.2)), hlx, hx0'⟩)))
        clear hd hbs hx0 hx0' hsl hlx hn9 J12
        refine wp_region_heldP (TdS q9 q11 x g (.slice a n9 c)) (by kernel_rfl) ?_
        generalize W13.drew = W14 at *
        refine held_reads [0, 1, 2, 3, 4, 5, 6, 7, 8, 9, 10, 11, 12, 13, 15, 16, 17, 18] (g := 14) rfl (by kernel_rfl) J13.out.2.2 (fun _ _ d _ _ h => by cases d <;> exact h) ?_
        simp only [pick, List.getD_cons_zero, List.getD_cons_succ]
        ((with_reducible refine wpRead_step (fun K hK => ?_)); go_simp; first | ((with_reducible refine hK _ ?_); clear hK K) | (apply Exists.intro; (with_reducible refine ⟨fun w' hw' => ?_, hK _ ?_⟩); (first | exact rfl | exact ⟨rfl, rfl⟩); clear hK K))
        ((with_reducible refine wpRead_step (fun K hK => ?_)); go_simp; first | ((with_reducible refine hK _ ?_); clear hK K) | (apply Exists.intro; (with_reducible refine ⟨fun w' hw' => ?_, hK _ ?_⟩); (first | exact rfl | exact ⟨rfl, rfl⟩); clear hK K))
        ((with_reducible refine wpRead_step (fun K hK => ?_)); go_simp; first | ((with_reducible refine hK _ ?_); clear hK K) | (apply Exists.intro; (with_reducible refine ⟨fun w' hw' => ?_, hK _ ?_⟩); (first | exact rfl | exact ⟨rfl, rfl⟩); clear hK K))
        with_reducible refine wpRead_yes ?_ ?_
        rotate_left
        rfl
        intro K hK
        refine read_load 62 _ rfl q9 0 #[.int .i64 g.r, .int .u32 (g.ad : Int), .int .i64 g.ln, .int .i64 g.id, .int .i64 g.till] rfl (fun w' hw' => rangeAt_block (hw'.1) 0 _ rfl) Try.underlying62 rfl (by kernel_rfl) (hK _ ?_)
        clear hK K
        with_reducible refine wpRead_yes ?_ ?_
        rotate_left
        rfl
        intro K hK
        refine read_load 62 _ rfl q11 0 #[.int .i64 g.r, .int .u32 (g.ad : Int), .int .i64 g.ln, .int .i64 g.id, .int .i64 g.till] rfl (fun w' hw' => rangeAt_block (hw'.2.1) 0 _ rfl) Try.underlying62 rfl (by kernel_rfl) (hK _ ?_)
        clear hK K
        ((with_reducible refine wpRead_step (fun K hK => ?_)); go_simp; first | ((with_reducible refine hK _ ?_); clear hK K) | (apply Exists.intro; (with_reducible refine ⟨fun w' hw' => ?_, hK _ ?_⟩); (first | exact rfl | exact ⟨rfl, rfl⟩); clear hK K))
        ((with_reducible refine wpRead_step (fun K hK => ?_)); go_simp; first | ((with_reducible refine hK _ ?_); clear hK K) | (apply Exists.intro; (with_reducible refine ⟨fun w' hw' => ?_, hK _ ?_⟩); (first | exact rfl | exact ⟨rfl, rfl⟩); clear hK K))
        ((with_reducible refine wpRead_step (fun K hK => ?_)); go_simp; first | ((with_reducible refine hK _ ?_); clear hK K) | (apply Exists.intro; (with_reducible refine ⟨fun w' hw' => ?_, hK _ ?_⟩); (first | exact rfl | exact ⟨rfl, rfl⟩); clear hK K))
        ((with_reducible refine wpRead_step (fun K hK => ?_)); go_simp; first | ((with_reducible refine hK _ ?_); clear hK K) | (apply Exists.intro; (with_reducible refine ⟨fun w' hw' => ?_, hK _ ?_⟩); (first | exact rfl | exact ⟨rfl, rfl⟩); clear hK K))
        ((with_reducible refine wpRead_step (fun K hK => ?_)); go_simp; first | ((with_reducible refine hK _ ?_); clear hK K) | (apply Exists.intro; (with_reducible refine ⟨fun w' hw' => ?_, hK _ ?_⟩); (first | exact rfl | exact ⟨rfl, rfl⟩); clear hK K))
        ((with_reducible refine wpRead_step (fun K hK => ?_)); go_simp; first | ((with_reducible refine hK _ ?_); clear hK K) | (apply Exists.intro; (with_reducible refine ⟨fun w' hw' => ?_, hK _ ?_⟩); (first | exact rfl | exact ⟨rfl, rfl⟩); clear hK K))
        ((with_reducible refine wpRead_step (fun K hK => ?_)); go_simp; first | ((with_reducible refine hK _ ?_); clear hK K) | (apply Exists.intro; (with_reducible refine ⟨fun w' hw' => ?_, hK _ ?_⟩); (first | exact rfl | exact ⟨rfl, rfl⟩); clear hK K))
        ((with_reducible refine wpRead_step (fun K hK => ?_)); go_simp; first | ((with_reducible refine hK _ ?_); clear hK K) | (apply Exists.intro; (with_reducible refine ⟨fun w' hw' => ?_, hK _ ?_⟩); (first | exact rfl | exact ⟨rfl, rfl⟩); clear hK K))
        ((with_reducible refine wpRead_step (fun K hK => ?_)); go_simp; first | ((with_reducible refine hK _ ?_); clear hK K) | (apply Exists.intro; (with_reducible refine ⟨fun w' hw' => ?_, hK _ ?_⟩); (first | exact rfl | exact ⟨rfl, rfl⟩); clear hK K))
        ((with_reducible refine wpRead_step (fun K hK => ?_)); go_simp; first | ((with_reducible refine hK _ ?_); clear hK K) | (apply Exists.intro; (with_reducible refine ⟨fun w' hw' => ?_, hK _ ?_⟩); (first | exact rfl | exact ⟨rfl, rfl⟩); clear hK K))
        ((with_reducible refine wpRead_step (fun K hK => ?_)); go_simp; first | ((with_reducible refine hK _ ?_); clear hK K) | (apply Exists.intro; (with_reducible refine ⟨fun w' hw' => ?_, hK _ ?_⟩); (first | exact rfl | exact ⟨rfl, rfl⟩); clear hK K))
        ((with_reducible refine wpRead_step (fun K hK => ?_)); go_simp; first | ((with_reducible refine hK _ ?_); clear hK K) | (apply Exists.intro; (with_reducible refine ⟨fun w' hw' => ?_, hK _ ?_⟩); (first | exact rfl | exact ⟨rfl, rfl⟩); clear hK K))
        ((with_reducible refine wpRead_step (fun K hK => ?_)); go_simp; first | ((with_reducible refine hK _ ?_); clear hK K) | (apply Exists.intro; (with_reducible refine ⟨fun w' hw' => ?_, hK _ ?_⟩); (obtain ⟨-, -, -, f0⟩ := hw'; go_simp; first | exact rfl | exact ⟨rfl, rfl⟩); clear hK K))
        with_reducible refine wpRead_nil ?_
        refine held_one 14 (by kernel_rfl) ?_
        simp only [pick, List.getD_cons_zero, List.getD_cons_succ]
        go_wp2_with fail
        refine (tall_any J13.out.1.tab HLB2.out).mono ?_
        rintro e W15 ⟨v, rfl, hown, hb⟩
        obtain ⟨a5, c5, rfl, hs5, -⟩ := hown.sl0
        rw [HN9.out] at hs5 ⊢
        have J14 := Lib.hid (And.intro (J13.out.1.keep hb) (And.intro (J13.out.2.1.keep hb) (And.intro (J13.out.2.2.on hb) hs5)))
        clear hown hb hs5 J13
        go_wp2_with fail
        refine ⟨J14.out.2.2.1, ?_⟩
        refine held_one 19 (by kernel_rfl) ?_
        simp only [pick, List.getD_cons_zero, List.getD_cons_succ]
        go_wp2_with fail
        refine (rtsame J14.out.2.2.2 J14.out.2.1).mono ?_
        rintro e W16 ⟨rfl, hb⟩
        have J15 := Lib.hid (And.intro (J14.out.1.keep hb) (J14.out.2.2.1.on hb))
        clear hb J14
        go_wp2_with fail
        refine ⟨J15.out.2, ?_⟩
        refine held_reads [20, 21, 22, 23, 25, 26, 27, 28, 29] (g := 3) rfl (by kernel_rfl) J15.out.2 (fun _ _ d _ _ h => by cases d <;> exact h) ?_
        simp only [pick, List.getD_cons_zero, List.getD_cons_succ]
        ((with_reducible refine wpRead_step (fun K hK => ?_)); go_simp; first | ((with_reducible refine hK _ ?_); clear hK K) | (apply Exists.intro; (with_reducible refine ⟨fun w' hw' => ?_, hK _ ?_⟩); (first | exact rfl | exact ⟨rfl, rfl⟩); clear hK K))
        ((with_reducible refine wpRead_step (fun K hK => ?_)); go_simp; first | ((with_reducible refine hK _ ?_); clear hK K) | (apply Exists.intro; (with_reducible refine ⟨fun w' hw' => ?_, hK _ ?_⟩); (first | exact rfl | exact ⟨rfl, rfl⟩); clear hK K))
        ((with_reducible refine wpRead_step (fun K hK => ?_)); go_simp; first | ((with_reducible refine hK _ ?_); clear hK K) | (apply Exists.intro; (with_reducible refine ⟨fun w' hw' => ?_, hK _ ?_⟩); (first | exact rfl | exact ⟨rfl, rfl⟩); clear hK K))
        ((with_reducible refine wpRead_step (fun K hK => ?_)); go_simp; first | ((with_reducible refine hK _ ?_); clear hK K) | (apply Exists.intro; (with_reducible refine ⟨fun w' hw' => ?_, hK _ ?_⟩); (first | exact rfl | exact ⟨rfl, rfl⟩); clear hK K))
        ((with_reducible refine wpRead_step (fun K hK => ?_)); go_simp; first | ((with_reducible refine hK _ ?_); clear hK K) | (apply Exists.intro; (with_reducible refine ⟨fun w' hw' => ?_, hK _ ?_⟩); (first | exact rfl | exact ⟨rfl, rfl⟩); clear hK K))
        ((with_reducible refine wpRead_step (fun K hK => ?_)); go_simp; first | ((with_reducible refine hK _ ?_); clear hK K) | (apply Exists.intro; (with_reducible refine ⟨fun w' hw' => ?_, hK _ ?_⟩); (first | exact rfl | exact ⟨rfl, rfl⟩); clear hK K))
        ((with_reducible refine wpRead_step (fun K hK => ?_)); go_simp; first | ((with_reducible refine hK _ ?_); clear hK K) | (apply Exists.intro; (with_reducible refine ⟨fun w' hw' => ?_, hK _ ?_⟩); (first | exact rfl | exact ⟨rfl, rfl⟩); clear hK K))
        ((with_reducible refine wpRead_step (fun K hK => ?_)); go_simp; first | ((with_reducible refine hK _ ?_); clear hK K) | (apply Exists.intro; (with_reducible refine ⟨fun w' hw' => ?_, hK _ ?_⟩); (obtain ⟨-, -, -, f0⟩ := hw'; go_simp; first | exact rfl | exact ⟨rfl, rfl⟩); clear hK K))
        ((with_reducible refine wpRead_step (fun K hK => ?_)); go_simp; first | ((with_reducible refine hK _ ?_); clear hK K) | (apply Exists.intro; (with_reducible refine ⟨fun w' hw' => ?_, hK _ ?_⟩); (first | exact rfl | exact ⟨rfl, rfl⟩); clear hK K))
        with_reducible refine wpRead_nil ?_
        refine held_one 24 (by kernel_rfl) ?_
        simp only [pick, List.getD_cons_zero, List.getD_cons_succ]
        go_wp2_with fail
        refine (tlen_any J15.out.1.tab).mono ?_
        rintro e W17 ⟨rfl, hw⟩
        subst hw
        rw [HN9.out]
        go_wp2_with fail
        refine ⟨J15.out.2, ?_⟩
        refine held_reads [30, 31] (g := 0) rfl (by kernel_rfl) J15.out.2 (fun _ _ d _ _ h => by cases d <;> exact h) ?_
        simp only [pick, List.getD_cons_zero, List.getD_cons_succ]
        ((with_reducible refine wpRead_step (fun K hK => ?_)); go_simp; first | ((with_reducible refine hK _ ?_); clear hK K) | (apply Exists.intro; (with_reducible refine ⟨fun w' hw' => ?_, hK _ ?_⟩); (first | exact rfl | exact ⟨rfl, rfl⟩); clear hK K))
        ((with_reducible refine wpRead_step (fun K hK => ?_)); go_simp; first | ((with_reducible refine hK _ ?_); clear hK K) | (apply Exists.intro; (with_reducible refine ⟨fun w' hw' => ?_, hK _ ?_⟩); (first | exact rfl | exact ⟨rfl, rfl⟩); clear hK K))
        with_reducible refine wpRead_nil ?_
        refine wpAnyH_done (by kernel_rfl) ?_ _
        go_wp2_with fail
        exact ⟨⟨i + 1, L9, hlt, hlt2, by first | rw [hw3] | rw [Int.natCast_succ], J15.out.1.tab, J15.out.1.ref, HLN.out, J15.out.1.bel⟩, by first | (rw [hw3]; exact mSucc hlt) | (rw [← Int.natCast_succ]; exact mSucc hlt)⟩
      have k2 : (y.kind == 2) = false := by simpa using hk2
      clear hk2
      by_cases hk3 : y.kind = 3
      · have k3 : (y.kind == 3) = true := by simp [hk3]
        clear hk3
        go_wp2_with fail
        clear y0 y1 y2 y3 y4 y5 y6 z0 z1 z2 z3 z4 z5 z6
        generalize w2.alloc (.cells #[.int .i64 y.kind, .int .i64 y.o.r, .int .u32 (y.o.ad : Int), .int .i64 y.o.ln, .int .i64 y.o.id, .int .i64 y.o.till, .int .i64 y.n] 64) = W4 at *
        generalize w2.heap.size = q at *
        refine wp_region_heldP (OpS q y) (by kernel_rfl) ?_
        have hd := (Below.refl W4.heap.size W4).drew
        have J2 := Lib.hid (J.out.keep hd)
        clear hd J
        generalize W4.drew = W5 at *
        refine held_reads [0, 1, 2, 4, 5, 6] (g := 4) rfl (by kernel_rfl) J2.out.op (fun _ _ d _ _ h => by cases d <;> exact h) ?_
        simp only [pick, List.getD_cons_zero, List.getD_cons_succ]
        ((with_reducible refine wpRead_step (fun K hK => ?_)); go_simp; first | ((with_reducible refine hK _ ?_); clear hK K) | (apply Exists.intro; (with_reducible refine ⟨fun w' hw' => ?_, hK _ ?_⟩); (first | exact rfl | exact ⟨rfl, rfl⟩); clear hK K))
        ((with_reducible refine wpRead_step (fun K hK => ?_)); go_simp; first | ((with_reducible refine hK _ ?_); clear hK K) | (apply Exists.intro; (with_reducible refine ⟨fun w' hw' => ?_, hK _ ?_⟩); (first | exact rfl | exact ⟨rfl, rfl⟩); clear hK K))
        ((with_reducible refine wpRead_step (fun K hK => ?_)); go_simp; first | ((with_reducible refine hK _ ?_); clear hK K) | (apply Exists.intro; (with_reducible refine ⟨fun w' hw' => ?_, hK _ ?_⟩); (obtain ⟨f0, f1, f2, f3, f4, f5, f6⟩ := OpS.cells hw'; go_simp; first | exact rfl | exact ⟨rfl, rfl⟩); clear hK K))
        ((with_reducible refine wpRead_step (fun K hK => ?_)); go_simp; first | ((with_reducible refine hK _ ?_); clear hK K) | (apply Exists.intro; (with_reducible refine ⟨fun w' hw' => ?_, hK _ ?_⟩); (first | exact rfl | exact ⟨rfl, rfl⟩); clear hK K))
        ((with_reducible refine wpRead_step (fun K hK => ?_)); go_simp; first | ((with_reducible refine hK _ ?_); clear hK K) | (apply Exists.intro; (with_reducible refine ⟨fun w' hw' => ?_, hK _ ?_⟩); (first | exact rfl | exact ⟨rfl, rfl⟩); clear hK K))
        ((with_reducible refine wpRead_step (fun K hK => ?_)); go_simp; first | ((with_reducible refine hK _ ?_); clear hK K) | (apply Exists.intro; (with_reducible refine ⟨fun w' hw' => ?_, hK _ ?_⟩); (obtain ⟨f0, f1, f2, f3, f4, f5, f6⟩ := OpS.cells hw'; go_simp; first | exact rfl | exact ⟨rfl, rfl⟩); clear hK K))
        with_reducible refine wpRead_nil ?_
        refine held_one 3 (by kernel_rfl) ?_
        simp only [pick, List.getD_cons_zero, List.getD_cons_succ]
        go_wp2_with fail
        refine (texp_any J2.out.tab HLB.out y.n).mono ?_
        rintro e W6 ⟨v, rfl, hs⟩
        obtain ⟨bs, hbs⟩ := J2.out.ref
        have hown := hs.own
        have J3 := Lib.hid (And.intro (Below.step J2.out.bel J2.out.bel.size hs.but (by simp; exact HS.out.wb)) (And.intro (J2.out.op.on (hs.but.block _ (lt_of_blk J2.out.op) (by simp; have := HS.out.bx; have := HS.out.qx; omega))) (And.intro hs.tab (And.intro (hbs.far hs.but HS.out.bx) (And.intro hown hbs.lx)))))
        have HR := Lib.hid (rtexp_any J3.out.2.2.2.1 HLB.out y.n)
        obtain ⟨a6, c6, rfl, -, -⟩ := hown.sl0
        obtain ⟨ng, hng⟩ : ∃ k, (L.filter (tillP y.n)).length = k := ⟨_, rfl⟩
        have HNG := Lib.hid hng
        rw [hng]
        clear hs hbs hown hng J2
        go_wp2_with fail
        refine ⟨J3.out.2.1, ?_⟩
        refine held_one 7 (by kernel_rfl) ?_
        simp only [pick, List.getD_cons_zero, List.getD_cons_succ]
        go_wp2_with fail
        refine HR.out.mono ?_
        rintro e W7 ⟨v, rfl, hs⟩
        obtain ⟨a7, c7, rfl, hs7, -⟩ := hs.own.sl0
        obtain ⟨a6', c6', e6, hs6, -⟩ := (Rep.Own.but J3.out.2.2.2.2.1 hs.but (by simp; exact J3.out.2.2.2.2.2)).sl0
        rw [HNG.out] at e6 hs6 hs7 ⊢
        injection e6 with e61 e62 e63
        subst e61 e63
        have J8 := Lib.hid (And.intro (show Both2 w W7 q t bm x y (L.filter fun z => !tillP y.n z) from ⟨Below.step J3.out.1 J3.out.1.size hs.but (by simp; exact HS.out.wx), J3.out.2.1.on (hs.but.block _ (lt_of_blk J3.out.2.1) (by simp; have := HS.out.qx; omega)), J3.out.2.2.1.far hs.but (by have := HS.out.tx; omega) (by have := HS.out.bx; omega), ⟨_, hs.tab⟩⟩) (And.intro hs6 hs7))
        clear hs hs6 hs7 e62 J3 HR
        go_wp2_with fail
        refine ⟨J8.out.1.op, ?_⟩
        refine held_one 8 (by kernel_rfl) ?_
        simp only [pick, List.getD_cons_zero, List.getD_cons_succ]
        go_wp2_with fail
        refine (rtsame J8.out.2.1 J8.out.2.2).mono ?_
        rintro e W8 ⟨rfl, hb⟩
        have J9 := Lib.hid (J8.out.1.keep hb)
        clear hb J8
        go_wp2_with fail
        refine ⟨J9.out.op, ?_⟩
        refine held_one 9 (by kernel_rfl) ?_
        simp only [pick, List.getD_cons_zero, List.getD_cons_succ]
        go_wp2_with fail
        refine ⟨J9.out.op, ?_⟩
        refine wpAnyH_done (by kernel_rfl) ?_ _
        have HLN := Lib.hid (show (L.filter fun z => !tillP y.n z).length ≤ i + 1 from filt_len _ _ _ HLI.out)
        have HLB2 := Lib.hid (show (L.filter fun z => !tillP y.n z).length ≤ 4611686 from by have := HLN.out; omega)
        generalize (L.filter fun z => !tillP y.n z) = L9 at *
        obtain ⟨z0, z1, z2, z3, z4, z5, z6⟩ := J9.out.op.cells
        go_wp2_with fail
        refine (tget_any J9.out.tab HOK.out.2).mono ?_
        rintro e W10 ⟨rfl, hb⟩
        have J10 := Lib.hid (J9.out.keep hb)
        clear hb J9 z0 z1 z2 z3 z4 z5 z6
        have hgr := fun (w' : World) (base : Nat) (h : RefT w' base x L9) => rtget_any h y.o.key
        generalize getO L9 y.o.key = g at *
        generalize hasO L9 y.o.key = hh at *
        unfold Ov.v
        have hal := (Below.refl W10.heap.size W10).alloc (Nat.le_refl _) (.cells #[.int .i64 g.r, .int .u32 (g.ad : Int), .int .i64 g.ln, .int .i64 g.id, .int .i64 g.till] 62)
        have h9 : OvS W10.heap.size g (W10.alloc (.cells #[.int .i64 g.r, .int .u32 (g.ad : Int), .int .i64 g.ln, .int .i64 g.id, .int .i64 g.till] 62)) := hnew _ _
        have J11 := Lib.hid (And.intro (J10.out.keep hal) h9)
        obtain ⟨z0, z1, z2, z3, z4, z5, z6⟩ := J11.out.1.op.cells
        have HGR := Lib.hid hgr
        clear hal h9 J10 hgr
        go_wp2_with fail
        clear z0 z1 z2 z3 z4 z5 z6
        generalize W10.alloc (.cells #[.int .i64 g.r, .int .u32 (g.ad : Int), .int .i64 g.ln, .int .i64 g.id, .int .i64 g.till] 62) = W11 at *
        generalize W10.heap.size = q9 at *
        obtain ⟨bs, hbs⟩ := J11.out.1.ref
        refine (HGR.out _ _ hbs).mono ?_
        rintro e W12 ⟨rfl, hb⟩
        unfold Ov.v
        have hal := (Below.refl W12.heap.size W12).alloc (Nat.le_refl _) (.cells #[.int .i64 g.r, .int .u32 (g.ad : Int), .int .i64 g.ln, .int .i64 g.id, .int .i64 g.till] 62)
        have hbb := bcall hb (Nat.le_refl _) hal
        have h11 : OvS W12.heap.size g (W12.alloc (.cells #[.int .i64 g.r, .int .u32 (g.ad : Int), .int .i64 g.ln, .int .i64 g.id, .int .i64 g.till] 62)) := hnew _ _
        have J12 := Lib.hid (And.intro (J11.out.1.keep hbb) (And.intro (J11.out.2.on (hbb.block _ (lt_of_blk J11.out.2))) h11))
        clear hb hal hbb h11 hbs J11 HGR
        go_wp2_with fail
        generalize W12.alloc (.cells #[.int .i64 g.r, .int .u32 (g.ad : Int), .int .i64 g.ln, .int .i64 g.id, .int .i64 g.till] 62) = W13 at *
        generalize W12.heap.size = q11 at *
        have hd := (Below.refl W13.heap.size W13).drew
        obtain ⟨bs, hbs⟩ := (J12.out.1.keep hd).ref
        obtain ⟨a, c, hx0, hsl, -, -⟩ := hbs.sl
        have hx0' : W13.drew.cell? ⟨x, 0, none⟩ = some (.slice a L9.length c) := cell_of hx0 rfl
        have hlx := lt_of_blk hx0
        obtain ⟨n9, hn9⟩ : ∃ k, L9.length = k := ⟨_, rfl⟩
        rw [hn9] at hx0' hsl
        have HN9 := Lib.hid hn9
        have J13 := Lib.hid (And.intro (J12.out.1.keep hd) (And.intro hsl (show TdS q9 q11 x g (.slice a n9 c) W13.drew from ⟨J12.out.2.1.on (hd.block _ (lt_of_blk J12.out.2.1)), J12.out.2.2.on (hd.block _ (lt_of_blk J12.out.2.2)), hlx, hx0'⟩)))
        clear hd hbs hx0 hx0' hsl hlx hn9 J12
        refine wp_region_heldP (TdS q9 q11 x g (.slice a n9 c)) (by kernel_rfl) ?_
        generalize W13.drew = W14 at *
        refine held_reads [0, 1, 2, 3, 4, 5, 6, 7, 8, 9, 10, 11, 12, 13, 15, 16, 17, 18] (g := 14) rfl (by kernel_rfl) J13.out.2.2 (fun _ _ d _ _ h => by cases d <;> exact h) ?_
        simp only [pick, List.getD_cons_zero, List.getD_cons_succ]
        ((with_reducible refine wpRead_step (fun K hK => ?_)); go_simp; first | ((with_reducible refine hK _ ?_); clear hK K) | (apply Exists.intro; (with_reducible refine ⟨fun w' hw' => ?_, hK _ ?_⟩); (first | exact rfl | exact ⟨rfl, rfl⟩); clear hK K))
        ((with_reducible refine wpRead_step (fun K hK => ?_)); go_simp; first | ((with_reducible refine hK _ ?_); clear hK K) | (apply Exists.intro; (with_reducible refine ⟨fun w' hw' => ?_, hK _ ?_⟩); (first | exact rfl | exact ⟨rfl, rfl⟩); clear hK K))
        ((with_reducible refine wpRead_step (fun K hK => ?_)); go_simp; first | ((with_reducible refine hK _ ?_); clear hK K) | (apply Exists.intro; (with_reducible refine ⟨fun w' hw' => ?_, hK _ ?_⟩); (first | exact rfl | exact ⟨rfl, rfl⟩); clear hK K))
        with_reducible refine wpRead_yes ?_ ?_
        rotate_left
        rfl
        intro K hK
        refine read_load 62 _ rfl q9 0 #[.int .i64 g.r, .int .u32 (g.ad : Int), .int .i64 g.ln, .int .i64 g.id, .int .i64 g.till] rfl (fun w' hw' => rangeAt_block (hw'.1) 0 _ rfl) Try.underlying62 rfl (by kernel_rfl) (hK _ ?_)
        clear hK K
        with_reducible refine wpRead_yes ?_ ?_
        rotate_left
        rfl
        intro K hK
        refine read_load 62 _ rfl q11 0 #[.int .i64 g.r, .int .u32 (g.ad : Int), .int .i64 g.ln, .int .i64 g.id, .int .i64 g.till] rfl (fun w' hw' => rangeAt_block (hw'.2.1) 0 _ rfl) Try.underlying62 rfl (by kernel_rfl) (hK _ ?_)
        clear hK K
        ((with_reducible refine wpRead_step (fun K hK => ?_)); go_simp; first | ((with_reducible refine hK _ ?_); clear hK K) | (apply Exists.intro; (with_reducible refine ⟨fun w' hw' => ?_, hK _ ?_⟩); (first | exact rfl | exact ⟨rfl, rfl⟩); clear hK K))
        ((with_reducible refine wpRead_step (fun K hK => ?_)); go_simp; first | ((with_reducible refine hK _ ?_); clear hK K) | (apply Exists.intro; (with_reducible refine ⟨fun w' hw' => ?_, hK _ ?_⟩); (first | exact rfl | exact ⟨rfl, rfl⟩); clear hK K))
        ((with_reducible refine wpRead_step (fun K hK => ?_)); go_simp; first | ((with_reducible refine hK _ ?_); clear hK K) | (apply Exists.intro; (with_reducible refine ⟨fun w' hw' => ?_, hK _ ?_⟩); (first | exact rfl | exact ⟨rfl, rfl⟩); clear hK K))
        ((with_reducible refine wpRead_step (fun K hK => ?_)); go_simp; first | ((with_reducible refine hK _ ?_); clear hK K) | (apply Exists.intro; (with_reducible refine ⟨fun w' hw' => ?_, hK _ ?_⟩); (first | exact rfl | exact ⟨rfl, rfl⟩); clear hK K))
        ((with_reducible refine wpRead_step (fun K hK => ?_)); go_simp; first | ((with_reducible refine hK _ ?_); clear hK K) | (apply Exists.intro; (with_reducible refine ⟨fun w' hw' => ?_, hK _ ?_⟩); (first | exact rfl | exact ⟨rfl, rfl⟩); clear hK K))
        ((with_reducible refine wpRead_step (fun K hK => ?_)); go_simp; first | ((with_reducible refine hK _ ?_); clear hK K) | (apply Exists.intro; (with_reducible refine ⟨fun w' hw' => ?_, hK _ ?_⟩); (first | exact rfl | exact ⟨rfl, rfl⟩); clear hK K))
        ((with_reducible refine wpRead_step (fun K hK => ?_)); go_simp; first | ((with_reducible refine hK _ ?_); clear hK K) | (apply Exists.intro; (with_reducible refine ⟨fun w' hw' => ?_, hK _ ?_⟩); (first | exact rfl | exact ⟨rfl, rfl⟩); clear hK K))
        ((with_reducible refine wpRead_step (fun K hK => ?_)); go_simp; first | ((with_reducible refine hK _ ?_); clear hK K) | (apply Exists.intro; (with_reducible refine ⟨fun w' hw' => ?_, hK _ ?_⟩); (first | exact rfl | exact ⟨rfl, rfl⟩); clear hK K))
        ((with_reducible refine wpRead_step (fun K hK => ?_)); go_simp; first | ((with_reducible refine hK _ ?_); clear hK K) | (apply Exists.intro; (with_reducible refine ⟨fun w' hw' => ?_, hK _ ?_⟩); (first | exact rfl | exact ⟨rfl, rfl⟩); clear hK K))
        ((with_reducible refine wpRead_step (fun K hK => ?_)); go_simp; first | ((with_reducible refine hK _ ?_); clear hK K) | (apply Exists.intro; (with_reducible refine ⟨fun w' hw' => ?_, hK _ ?_⟩); (first | exact rfl | exact ⟨rfl, rfl⟩); clear hK K))
        ((with_reducible refine wpRead_step (fun K hK => ?_)); go_simp; first | ((with_reducible refine hK _ ?_); clear hK K) | (apply Exists.intro; (with_reducible refine ⟨fun w' hw' => ?_, hK _ ?_⟩); (first | exact rfl | exact ⟨rfl, rfl⟩); clear hK K))
        ((with_reducible refine wpRead_step (fun K hK => ?_)); go_simp; first | ((with_reducible refine hK _ ?_); clear hK K) | (apply Exists.intro; (with_reducible refine ⟨fun w' hw' => ?_, hK _ ?_⟩); (first | exact rfl | exact ⟨rfl, rfl⟩); clear hK K))
        ((with_reducible refine wpRead_step (fun K hK => ?_)); go_simp; first | ((with_reducible refine hK _ ?_); clear hK K) | (apply Exists.intro; (with_reducible refine ⟨fun w' hw' => ?_, hK _ ?_⟩); (obtain ⟨-, -, -, f0⟩ := hw'; go_simp; first | exact rfl | exact ⟨rfl, rfl⟩); clear hK K))
        with_reducible refine wpRead_nil ?_
        refine held_one 14 (by kernel_rfl) ?_
        simp only [pick, List.getD_cons_zero, List.getD_cons_succ]
        go_wp2_with fail
        refine (tall_any J13.out.1.tab HLB2.out).mono ?_
        rintro e W15 ⟨v, rfl, hown, hb⟩
        obtain ⟨a5, c5, rfl, hs5, -⟩ := hown.sl0
        rw [HN9.out] at hs5 ⊢
        have J14 := Lib.hid (And.intro (J13.out.1.keep hb) (And.intro (J13.out.2.1.keep hb) (And.intro (J13.out.2.2.on hb) hs5)))
        clear hown hb hs5 J13
        go_wp2_with fail
        refine ⟨J14.out.2.2.1, ?_⟩
        refine held_one 19 (by kernel_rfl) ?_
        simp only [pick, List.getD_cons_zero, List.getD_cons_succ]
        go_wp2_with fail
        refine (rtsame J14.out.2.2.2 J14.out.2.1).mono ?_
        rintro e W16 ⟨rfl, hb⟩
        have J15 := Lib.hid (And.intro (J14.out.1.keep hb) (J14.out.2.2.1.on hb))
        clear hb J14
        go_wp2_with fail
        refine ⟨J15.out.2, ?_⟩
        refine held_reads [20, 21, 22, 23, 25, 26, 27, 28, 29] (g := 3) rfl (by kernel_rfl) J15.out.2 (fun _ _ d _ _ h => by cases d <;> exact h) ?_
        simp only [pick, List.getD_cons_zero, List.getD_cons_succ]
        ((with_reducible refine wpRead_step (fun K hK => ?_)); go_simp; first | ((with_reducible refine hK _ ?_); clear hK K) | (apply Exists.intro; (with_reducible refine ⟨fun w' hw' => ?_, hK _ ?_⟩); (first | exact rfl | exact ⟨rfl, rfl⟩); clear hK K))
        ((with_reducible refine wpRead_step (fun K hK => ?_)); go_simp; first | ((with_reducible refine hK _ ?_); clear hK K) | (apply Exists.intro; (with_reducible refine ⟨fun w' hw' => ?_, hK _ ?_⟩); (first | exact rfl | exact ⟨rfl, rfl⟩); clear hK K))
        ((with_reducible refine wpRead_step (fun K hK => ?_)); go_simp; first | ((with_reducible refine hK _ ?_); clear hK K) | (apply Exists.intro; (with_reducible refine ⟨fun w' hw' => ?_, hK _ ?_⟩); (first | exact rfl | exact ⟨rfl, rfl⟩); clear hK K))
        ((with_reducible refine wpRead_step (fun K hK => ?_)); go_simp; first | ((with_reducible refine hK _ ?_); clear hK K) | (apply Exists.intro; (with_reducible refine ⟨fun w' hw' => ?_, hK _ ?_⟩); (first | exact rfl | exact ⟨rfl, rfl⟩); clear hK K))
        ((with_reducible refine wpRead_step (fun K hK => ?_)); go_simp; first | ((with_reducible refine hK _ ?_); clear hK K) | (apply Exists.intro; (with_reducible refine ⟨fun w' hw' => ?_, hK _ ?_⟩); (first | exact rfl | exact ⟨rfl, rfl⟩); clear hK K))
        ((with_reducible refine wpRead_step (fun K hK => ?_)); go_simp; first | ((with_reducible refine hK _ ?_); clear hK K) | (apply Exists.intro; (with_reducible refine ⟨fun w' hw' => ?_, hK _ ?_⟩); (first | exact rfl | exact ⟨rfl, rfl⟩); clear hK K))
        ((with_reducible refine wpRead_step (fun K hK => ?_)); go_simp; first | ((with_reducible refine hK _ ?_); clear hK K) | (apply Exists.intro; (with_reducible refine ⟨fun w' hw' => ?_, hK _ ?_⟩); (first | exact rfl | exact ⟨rfl, rfl⟩); clear hK K))
        ((with_reducible refine wpRead_step (fun K hK => ?_)); go_simp; first | ((with_reducible refine hK _ ?_); clear hK K) | (apply Exists.intro; (with_reducible refine ⟨fun w' hw' => ?_, hK _ ?_⟩); (obtain ⟨-, -, -, f0⟩ := hw'; go_simp; first | exact rfl | exact ⟨rfl, rfl⟩); clear hK K))
        ((with_reducible refine wpRead_step (fun K hK => ?_)); go_simp; first | ((with_reducible refine hK _ ?_); clear hK K) | (apply Exists.intro; (with_reducible refine ⟨fun w' hw' => ?_, hK _ ?_⟩); (first | exact rfl | exact ⟨rfl, rfl⟩); clear hK K))
        with_reducible refine wpRead_nil ?_
        refine held_one 24 (by kernel_rfl) ?_
        simp only [pick, List.getD_cons_zero, List.getD_cons_succ]
        go_wp2_with fail
        refine (tlen_any J15.out.1.tab).mono ?_
        rintro e W17 ⟨rfl, hw⟩
        subst hw
        rw [HN9.out]
        go_wp2_with fail
        refine ⟨J15.out.2, ?_⟩
        refine held_reads [30, 31] (g := 0) rfl (by kernel_rfl) J15.out.2 (fun _ _ d _ _ h => by cases d <;> exact h) ?_
        simp only [pick, List.getD_cons_zero, List.getD_cons_succ]
        ((with_reducible refine wpRead_step (fun K hK => ?_)); go_simp; first | ((with_reducible refine hK _ ?_); clear hK K) | (apply Exists.intro; (with_reducible refine ⟨fun w' hw' => ?_, hK _ ?_⟩); (first | exact rfl | exact ⟨rfl, rfl⟩); clear hK K))
        ((with_reducible refine wpRead_step (fun K hK => ?_)); go_simp; first | ((with_reducible refine hK _ ?_); clear hK K) | (apply Exists.intro; (with_reducible refine ⟨fun w' hw' => ?_, hK _ ?_⟩); (first | exact rfl | exact ⟨rfl, rfl⟩); clear hK K))
        with_reducible refine wpRead_nil ?_
        refine wpAnyH_done (by kernel_rfl) ?_ _
        go_wp2_with fail
        exact ⟨⟨i + 1, L9, hlt, hlt2, by first | rw [hw3] | rw [Int.natCast_succ], J15.out.1.tab, J15.out.1.ref, HLN.out, J15.out.1.bel⟩, by first | (rw [hw3]; exact mSucc hlt) | (rw [← Int.natCast_succ]; exact mSucc hlt)⟩
      have k3 : (y.kind == 3) = false := by simpa using hk3
      clear hk3
      by_cases hk4 : y.kind = 4
      · have k4 : (y.kind == 4) = true := by simp [hk4]
        clear hk4
        obtain ⟨bs, hbs⟩ := J.out.ref
        obtain ⟨a, c, hx0, -, -, hown⟩ := hbs.sl
        obtain ⟨nL, hnL⟩ : ∃ k, L.length = k := ⟨_, rfl⟩
        rw [hnL] at hx0 hown
        have HNL := Lib.hid hnL
        have c0 : (w2.alloc (.cells #[.int .i64 y.kind, .int .i64 y.o.r, .int .u32 (y.o.ad : Int), .int .i64 y.o.ln, .int .i64 y.o.id, .int .i64 y.o.till, .int .i64 y.n] 64)).cell? ⟨x, 0, none⟩ = some (.slice a nL c) := cell_of hx0 rfl
        have f0 : (w2.alloc (.cells #[.int .i64 y.kind, .int .i64 y.o.r, .int .u32 (y.o.ad : Int), .int .i64 y.o.ln, .int .i64 y.o.id, .int .i64 y.o.till, .int .i64 y.n] 64)).frozen? ⟨x, 0, none⟩ = false := free_of hx0
        obtain ⟨hR, hbt⟩ := RefT.put (v := .slice none 0 0) hx0 hbs.lt (Rep.Own.nil _ _) Ord.nil rfl
        have hbl := hbs.lt
        have J2 := Lib.hid (And.intro (Below.step J.out.bel J.out.bel.size hbt (by simp; exact HS.out.wx)) (And.intro (J.out.op.on (hbt.block _ (lt_of_blk J.out.op) (by simp; have := HS.out.qx; omega))) (And.intro (J.out.tab.far hbt (by have := HS.out.tx; omega) (by have := HS.out.bx; omega)) (And.intro hR (And.intro (Rep.Own.but hown hbt (by simp; exact hbs.lt)) hbl)))))
        clear hbs hx0 hown hnL hR hbt hbl J
        go_wp2_with fail
        clear c0 f0
        clear y0 y1 y2 y3 y4 y5 y6 z0 z1 z2 z3 z4 z5 z6
        generalize (w2.alloc (.cells #[.int .i64 y.kind, .int .i64 y.o.r, .int .u32 (y.o.ad : Int), .int .i64 y.o.ln, .int .i64 y.o.id, .int .i64 y.o.till, .int .i64 y.n] 64)).setCell ⟨x, 0, none⟩ (.slice none 0 0) = W4 at *
        generalize w2.heap.size = q at *
        refine (tclr_any J2.out.2.2.1 HLB.out).mono ?_
        rintro e W5 ⟨v, rfl, hs⟩
        obtain ⟨a5, c5, rfl, hs5, -⟩ := hs.own.sl0
        obtain ⟨a', c', e6, hs6, -⟩ := (Rep.Own.but J2.out.2.2.2.2.1 hs.but (by simp; have := HS.out.bx; have := J2.out.2.2.2.2.2; omega)).sl0
        rw [HNL.out] at e6 hs6 hs5 ⊢
        injection e6 with e61 e62 e63
        subst e61 e63
        have J8 := Lib.hid (And.intro (show Both2 w W5 q t bm x y [] from ⟨Below.step J2.out.1 J2.out.1.size hs.but (by simp; exact HS.out.wb), J2.out.2.1.on (hs.but.block _ (lt_of_blk J2.out.2.1) (by simp; have := HS.out.bx; have := HS.out.qx; omega)), hs.tab, ⟨_, J2.out.2.2.2.1.far hs.but HS.out.bx⟩⟩) (And.intro hs5 hs6))
        clear hs hs5 hs6 e62 J2
        go_wp2_with fail
        refine (rtsame J8.out.2.1 J8.out.2.2).mono ?_
        rintro e W8 ⟨rfl, hb⟩
        have J9 := Lib.hid (J8.out.1.keep hb)
        clear hb J8
        have HLN := Lib.hid (show (([] : List Ov)).length ≤ i + 1 from by simp)
        have HLB2 := Lib.hid (show (([] : List Ov)).length ≤ 4611686 from by have := HLN.out; omega)
        generalize (([] : List Ov)) = L9 at *
        obtain ⟨z0, z1, z2, z3, z4, z5, z6⟩ := J9.out.op.cells
        go_wp2_with fail
        refine (tget_any J9.out.tab HOK.out.2).mono ?_
        rintro e W10 ⟨rfl, hb⟩
        have J10 := Lib.hid (J9.out.keep hb)
        clear hb J9 z0 z1 z2 z3 z4 z5 z6
        have hgr := fun (w' : World) (base : Nat) (h : RefT w' base x L9) => rtget_any h y.o.key
        generalize getO L9 y.o.key = g at *
        generalize hasO L9 y.o.key = hh at *
        unfold Ov.v
        have hal := (Below.refl W10.heap.size W10).alloc (Nat.le_refl _) (.cells #[.int .i64 g.r, .int .u32 (g.ad : Int), .int .i64 g.ln, .int .i64 g.id, .int .i64 g.till] 62)
        have h9 : OvS W10.heap.size g (W10.alloc (.cells #[.int .i64 g.r, .int .u32 (g.ad : Int), .int .i64 g.ln, .int .i64 g.id, .int .i64 g.till] 62)) := hnew _ _
        have J11 := Lib.hid (And.intro (J10.out.keep hal) h9)
        obtain ⟨z0, z1, z2, z3, z4, z5, z6⟩ := J11.out.1.op.cells
        have HGR := Lib.hid hgr
        clear hal h9 J10 hgr
        go_wp2_with fail
        clear z0 z1 z2 z3 z4 z5 z6
        generalize W10.alloc (.cells #[.int .i64 g.r, .int .u32 (g.ad : Int), .int .i64 g.ln, .int .i64 g.id, .int .i64 g.till] 62) = W11 at *
        generalize W10.heap.size = q9 at *
        obtain ⟨bs, hbs⟩ := J11.out.1.ref
        refine (HGR.out _ _ hbs).mono ?_
        rintro e W12 ⟨rfl, hb⟩
        unfold Ov.v
        have hal := (Below.refl W12.heap.size W12).alloc (Nat.le_refl _) (.cells #[.int .i64 g.r, .int .u32 (g.ad : Int), .int .i64 g.ln, .int .i64 g.id, .int .i64 g.till] 62)
        have hbb := bcall hb (Nat.le_refl _) hal
        have h11 : OvS W12.heap.size g (W12.alloc (.cells #[.int .i64 g.r, .int .u32 (g.ad : Int), .int .i64 g.ln, .int .i64 g.id, .int .i64 g.till] 62)) := hnew _ _
        have J12 := Lib.hid (And.intro (J11.out.1.keep hbb) (And.intro (J11.out.2.on (hbb.block _ (lt_of_blk J11.out.2))) h11))
        clear hb hal hbb h11 hbs J11 HGR
        go_wp2_with fail
        generalize W12.alloc (.cells #[.int .i64 g.r, .int .u32 (g.ad : Int), .int .i64 g.ln, .int .i64 g.id, .int .i64 g.till] 62) = W13 at *
        generalize W12.heap.size = q11 at *
        have hd := (Below.refl W13.heap.size W13).drew
        obtain ⟨bs, hbs⟩ := (J12.out.1.keep hd).ref
        obtain ⟨a, c, hx0, hsl, -, -⟩ := hbs.sl
        have hx0' : W13.drew.cell? ⟨x, 0, none⟩ = some (.slice a L9.length c) := cell_of hx0 rfl
        have hlx := lt_of_blk hx0
        obtain ⟨n9, hn9⟩ : ∃ k, L9.length = k := ⟨_, rfl⟩
        rw [hn9] at hx0' hsl
        have HN9 := Lib.hid hn9
        have J13 := Lib.hid (And.intro (J12.out.1.keep hd) (And.intro hsl (show TdS q9 q11 x g (.slice a n9 c) W13.drew from ⟨J12.out.2.1.on (hd.block _ (lt_of_blk J12.out.2.1)), J12.out.2.2.on (hd.block _ (lt_of_blk J12.out.2.2)), hlx, hx0'⟩)))
        clear hd hbs hx0 hx0' hsl hlx hn9 J12
        refine wp_region_heldP (TdS q9 q11 x g (.slice a n9 c)) (by kernel_rfl) ?_
        generalize W13.drew = W14 at *
        refine held_reads [0, 1, 2, 3, 4, 5, 6, 7, 8, 9, 10, 11, 12, 13, 15, 16, 17, 18] (g := 14) rfl (by kernel_rfl) J13.out.2.2 (fun _ _ d _ _ h => by cases d <;> exact h) ?_
        simp only [pick, List.getD_cons_zero, List.getD_cons_succ]
        ((with_reducible refine wpRead_step (fun K hK => ?_)); go_simp; first | ((with_reducible refine hK _ ?_); clear hK K) | (apply Exists.intro; (with_reducible refine ⟨fun w' hw' => ?_, hK _ ?_⟩); (first | exact rfl | exact ⟨rfl, rfl⟩); clear hK K))
        ((with_reducible refine wpRead_step (fun K hK => ?_)); go_simp; first | ((with_reducible refine hK _ ?_); clear hK K) | (apply Exists.intro; (with_reducible refine ⟨fun w' hw' => ?_, hK _ ?_⟩); (first | exact rfl | exact ⟨rfl, rfl⟩); clear hK K))
        ((with_reducible refine wpRead_step (fun K hK => ?_)); go_simp; first | ((with_reducible refine hK _ ?_); clear hK K) | (apply Exists.intro; (with_reducible refine ⟨fun w' hw' => ?_, hK _ ?_⟩); (first | exact rfl | exact ⟨rfl, rfl⟩); clear hK K))
        with_reducible refine wpRead_yes ?_ ?_
        rotate_left
        rfl
        intro K hK
        refine read_load 62 _ rfl q9 0 #[.int .i64 g.r, .int .u32 (g.ad : Int), .int .i64 g.ln, .int .i64 g.id, .int .i64 g.till] rfl (fun w' hw' => rangeAt_block (hw'.1) 0 _ rfl) Try.underlying62 rfl (by kernel_rfl) (hK _ ?_)
        clear hK K
        with_reducible refine wpRead_yes ?_ ?_
        rotate_left
        rfl
        intro K hK
        refine read_load 62 _ rfl q11 0 #[.int .i64 g.r, .int .u32 (g.ad : Int), .int .i64 g.ln, .int .i64 g.id, .int .i64 g.till] rfl (fun w' hw' => rangeAt_block (hw'.2.1) 0 _ rfl) Try.underlying62 rfl (by kernel_rfl) (hK _ ?_)
        clear hK K
        ((with_reducible refine wpRead_step (fun K hK => ?_)); go_simp; first | ((with_reducible refine hK _ ?_); clear hK K) | (apply Exists.intro; (with_reducible refine ⟨fun w' hw' => ?_, hK _ ?_⟩); (first | exact rfl | exact ⟨rfl, rfl⟩); clear hK K))
        ((with_reducible refine wpRead_step (fun K hK => ?_)); go_simp; first | ((with_reducible refine hK _ ?_); clear hK K) | (apply Exists.intro; (with_reducible refine ⟨fun w' hw' => ?_, hK _ ?_⟩); (first | exact rfl | exact ⟨rfl, rfl⟩); clear hK K))
        ((with_reducible refine wpRead_step (fun K hK => ?_)); go_simp; first | ((with_reducible refine hK _ ?_); clear hK K) | (apply Exists.intro; (with_reducible refine ⟨fun w' hw' => ?_, hK _ ?_⟩); (first | exact rfl | exact ⟨rfl, rfl⟩); clear hK K))
        ((with_reducible refine wpRead_step (fun K hK => ?_)); go_simp; first | ((with_reducible refine hK _ ?_); clear hK K) | (apply Exists.intro; (with_reducible refine ⟨fun w' hw' => ?_, hK _ ?_⟩); (first | exact rfl | exact ⟨rfl, rfl⟩); clear hK K))
        ((with_reducible refine wpRead_step (fun K hK => ?_)); go_simp; first | ((with_reducible refine hK _ ?_); clear hK K) | (apply Exists.intro; (with_reducible refine ⟨fun w' hw' => ?_, hK _ ?_⟩); (first | exact rfl | exact ⟨rfl, rfl⟩); clear hK K))
        ((with_reducible refine wpRead_step (fun K hK => ?_)); go_simp; first | ((with_reducible refine hK _ ?_); clear hK K) | (apply Exists.intro; (with_reducible refine ⟨fun w' hw' => ?_, hK _ ?_⟩); (first | exact rfl | exact ⟨rfl, rfl⟩); clear hK K))
        ((with_reducible refine wpRead_step (fun K hK => ?_)); go_simp; first | ((with_reducible refine hK _ ?_); clear hK K) | (apply Exists.intro; (with_reducible refine ⟨fun w' hw' => ?_, hK _ ?_⟩); (first | exact rfl | exact ⟨rfl, rfl⟩); clear hK K))
        ((with_reducible refine wpRead_step (fun K hK => ?_)); go_simp; first | ((with_reducible refine hK _ ?_); clear hK K) | (apply Exists.intro; (with_reducible refine ⟨fun w' hw' => ?_, hK _ ?_⟩); (first | exact rfl | exact ⟨rfl, rfl⟩); clear hK K))
        ((with_reducible refine wpRead_step (fun K hK => ?_)); go_simp; first | ((with_reducible refine hK _ ?_); clear hK K) | (apply Exists.intro; (with_reducible refine ⟨fun w' hw' => ?_, hK _ ?_⟩); (first | exact rfl | exact ⟨rfl, rfl⟩); clear hK K))
        ((with_reducible refine wpRead_step (fun K hK => ?_)); go_simp; first | ((with_reducible refine hK _ ?_); clear hK K) | (apply Exists.intro; (with_reducible refine ⟨fun w' hw' => ?_, hK _ ?_⟩); (first | exact rfl | exact ⟨rfl, rfl⟩); clear hK K))
        ((with_reducible refine wpRead_step (fun K hK => ?_)); go_simp; first | ((with_reducible refine hK _ ?_); clear hK K) | (apply Exists.intro; (with_reducible refine ⟨fun w' hw' => ?_, hK _ ?_⟩); (first | exact rfl | exact ⟨rfl, rfl⟩); clear hK K))
        ((with_reducible refine wpRead_step (fun K hK => ?_)); go_simp; first | ((with_reducible refine hK _ ?_); clear hK K) | (apply Exists.intro; (with_reducible refine ⟨fun w' hw' => ?_, hK _ ?_⟩); (first | exact rfl | exact ⟨rfl, rfl⟩); clear hK K))
        ((with_reducible refine wpRead_step (fun K hK => ?_)); go_simp; first | ((with_reducible refine hK _ ?_); clear hK K) | (apply Exists.intro; (with_reducible refine ⟨fun w' hw' => ?_, hK _ ?_⟩); (obtain ⟨-, -, -, f0⟩ := hw'; go_simp; first | exact rfl | exact ⟨rfl, rfl⟩); clear hK K))
        with_reducible refine wpRead_nil ?_
        refine held_one 14 (by kernel_rfl) ?_
        simp only [pick, List.getD_cons_zero, List.getD_cons_succ]
        go_wp2_with fail
        refine (tall_any J13.out.1.tab HLB2.out).mono ?_
        rintro e W15 ⟨v, rfl, hown, hb⟩
        obtain ⟨a5, c5, rfl, hs5, -⟩ := hown.sl0
        rw [HN9.out] at hs5 ⊢
        have J14 := Lib.hid (And.intro (J13.out.1.keep hb) (And.intro (J13.out.2.1.keep hb) (And.intro (J13.out.2.2.on hb) hs5)))
        clear hown hb hs5 J13
        go_wp2_with fail
        refine ⟨J14.out.2.2.1, ?_⟩
        refine held_one 19 (by kernel_rfl) ?_
        simp only [pick, List.getD_cons_zero, List.getD_cons_succ]
        go_wp2_with fail
        refine (rtsame J14.out.2.2.2 J14.out.2.1).mono ?_
        rintro e W16 ⟨rfl, hb⟩
        have J15 := Lib.hid (And.intro (J14.out.1.keep hb) (J14.out.2.2.1.on hb))
        clear hb J14
        go_wp2_with fail
        refine ⟨J15.out.2, ?_⟩
        refine held_reads [20, 21, 22, 23, 25, 26, 27, 28, 29] (g := 3) rfl (by kernel_rfl) J15.out.2 (fun _ _ d _ _ h => by cases d <;> exact h) ?_
        simp only [pick, List.getD_cons_zero, List.getD_cons_succ]
        ((with_reducible refine wpRead_step (fun K hK => ?_)); go_simp; first | ((with_reducible refine hK _ ?_); clear hK K) | (apply Exists.intro; (with_reducible refine ⟨fun w' hw' => ?_, hK _ ?_⟩); (first | exact rfl | exact ⟨rfl, rfl⟩); clear hK K))
        ((with_reducible refine wpRead_step (fun K hK => ?_)); go_simp; first | ((with_reducible refine hK _ ?_); clear hK K) | (apply Exists.intro; (with_reducible refine ⟨fun w' hw' => ?_, hK _ ?_⟩); (first | exact rfl | exact ⟨rfl, rfl⟩); clear hK K))
        ((with_reducible refine wpRead_step (fun K hK => ?_)); go_simp; first | ((with_reducible refine hK _ ?_); clear hK K) | (apply Exists.intro; (with_reducible refine ⟨fun w' hw' => ?_, hK _ ?_⟩); (first | exact rfl | exact ⟨rfl, rfl⟩); clear hK K))
        ((with_reducible refine wpRead_step (fun K hK => ?_)); go_simp; first | ((with_reducible refine hK _ ?_); clear hK K) | (apply Exists.intro; (with_reducible refine ⟨fun w' hw' => ?_, hK _ ?_⟩); (first | exact rfl | exact ⟨rfl, rfl⟩); clear hK K))
        ((with_reducible refine wpRead_step (fun K hK => ?_)); go_simp; first | ((with_reducible refine hK _ ?_); clear hK K) | (apply Exists.intro; (with_reducible refine ⟨fun w' hw' => ?_, hK _ ?_⟩); (first | exact rfl | exact ⟨rfl, rfl⟩); clear hK K))
        ((with_reducible refine wpRead_step (fun K hK => ?_)); go_simp; first | ((with_reducible refine hK _ ?_); clear hK K) | (apply Exists.intro; (with_reducible refine ⟨fun w' hw' => ?_, hK _ ?_⟩); (first | exact rfl | exact ⟨rfl, rfl⟩); clear hK K))
        ((with_reducible refine wpRead_step (fun K hK => ?_)); go_simp; first | ((with_reducible refine hK _ ?_); clear hK K) | (apply Exists.intro; (with_reducible refine ⟨fun w' hw' => ?_, hK _ ?_⟩); (first | exact rfl | exact ⟨rfl, rfl⟩); clear hK K))
        ((with_reducible refine wpRead_step (fun K hK => ?_)); go_simp; first | ((with_reducible refine hK _ ?_); clear hK K) | (apply Exists.intro; (with_reducible refine ⟨fun w' hw' => ?_, hK _ ?_⟩); (obtain ⟨-, -, -, f0⟩ := hw'; go_simp; first | exact rfl | exact ⟨rfl, rfl⟩); clear hK K))
        ((with_reducible refine wpRead_step (fun K hK => ?_)); go_simp; first | ((with_reducible refine hK _ ?_); clear hK K) | (apply Exists.intro; (with_reducible refine ⟨fun w' hw' => ?_, hK _ ?_⟩); (first | exact rfl | exact ⟨rfl, rfl⟩); clear hK K))
        with_reducible refine wpRead_nil ?_
        refine held_one 24 (by kernel_rfl) ?_
        simp only [pick, List.getD_cons_zero, List.getD_cons_succ]
        go_wp2_with fail
        refine (tlen_any J15.out.1.tab).mono ?_
        rintro e W17 ⟨rfl, hw⟩
        subst hw
        rw [HN9.out]
        go_wp2_with fail
        refine ⟨J15.out.2, ?_⟩
        refine held_reads [30, 31] (g := 0) rfl (by kernel_rfl) J15.out.2 (fun _ _ d _ _ h => by cases d <;> exact h) ?_
        simp only [pick, List.getD_cons_zero, List.getD_cons_succ]
        ((with_reducible refine wpRead_step (fun K hK => ?_)); go_simp; first | ((with_reducible refine hK _ ?_); clear hK K) | (apply Exists.intro; (with_reducible refine ⟨fun w' hw' => ?_, hK _ ?_⟩); (first | exact rfl | exact ⟨rfl, rfl⟩); clear hK K))
        ((with_reducible refine wpRead_step (fun K hK => ?_)); go_simp; first | ((with_reducible refine hK _ ?_); clear hK K) | (apply Exists.intro; (with_reducible refine ⟨fun w' hw' => ?_, hK _ ?_⟩); (first | exact rfl | exact ⟨rfl, rfl⟩); clear hK K))
        with_reducible refine wpRead_nil ?_
        refine wpAnyH_done (by kernel_rfl) ?_ _
        go_wp2_with fail
        exact ⟨⟨i + 1, L9, hlt, hlt2, by first | rw [hw3] | rw [Int.natCast_succ], J15.out.1.tab, J15.out.1.ref, HLN.out, J15.out.1.bel⟩, by first | (rw [hw3]; exact mSucc hlt) | (rw [← Int.natCast_succ]; exact mSucc hlt)⟩
      · have k4 : (y.kind == 4) = false := by simpa using hk4
        clear hk4
        have J9 := J
        clear J z0 z1 z2 z3 z4 z5 z6
        have HLN := Lib.hid (show (L).length ≤ i + 1 from by have := HLI.out; omega)
        have HLB2 := Lib.hid (show (L).length ≤ 4611686 from by have := HLN.out; omega)
        generalize (L) = L9 at *
        obtain ⟨z0, z1, z2, z3, z4, z5, z6⟩ := J9.out.op.cells
        go_wp2_with fail
        refine (tget_any J9.out.tab HOK.out.2).mono ?_
        rintro e W10 ⟨rfl, hb⟩
        have J10 := Lib.hid (J9.out.keep hb)
        clear hb J9 z0 z1 z2 z3 z4 z5 z6
        have hgr := fun (w' : World) (base : Nat) (h : RefT w' base x L9) => rtget_any h y.o.key
        generalize getO L9 y.o.key = g at *
        generalize hasO L9 y.o.key = hh at *
        unfold Ov.v
        have hal := (Below.refl W10.heap.size W10).alloc (Nat.le_refl _) (.cells #[.int .i64 g.r, .int .u32 (g.ad : Int), .int .i64 g.ln, .int .i64 g.id, .int .i64 g.till] 62)
        have h9 : OvS W10.heap.size g (W10.alloc (.cells #[.int .i64 g.r, .int .u32 (g.ad : Int), .int .i64 g.ln, .int .i64 g.id, .int .i64 g.till] 62)) := hnew _ _
        have J11 := Lib.hid (And.intro (J10.out.keep hal) h9)
        obtain ⟨z0, z1, z2, z3, z4, z5, z6⟩ := J11.out.1.op.cells
        have HGR := Lib.hid hgr
        clear hal h9 J10 hgr
        go_wp2_with fail
        clear z0 z1 z2 z3 z4 z5 z6
        generalize W10.alloc (.cells #[.int .i64 g.r, .int .u32 (g.ad : Int), .int .i64 g.ln, .int .i64 g.id, .int .i64 g.till] 62) = W11 at *
        generalize W10.heap.size = q9 at *
        obtain ⟨bs, hbs⟩ := J11.out.1.ref
        refine (HGR.out _ _ hbs).mono ?_
        rintro e W12 ⟨rfl, hb⟩
        unfold Ov.v
        have hal := (Below.refl W12.heap.size W12).alloc (Nat.le_refl _) (.cells #[.int .i64 g.r, .int .u32 (g.ad : Int), .int .i64 g.ln, .int .i64 g.id, .int .i64 g.till] 62)
        have hbb := bcall hb (Nat.le_refl _) hal
        have h11 : OvS W12.heap.size g (W12.alloc (.cells #[.int .i64 g.r, .int .u32 (g.ad : Int), .int .i64 g.ln, .int .i64 g.id, .int .i64 g.till] 62)) := hnew _ _
        have J12 := Lib.hid (And.intro (J11.out.1.keep hbb) (And.intro (J11.out.2.on (hbb.block _ (lt_of_blk J11.out.2))) h11))
        clear hb hal hbb h11 hbs J11 HGR
        go_wp2_with fail
        generalize W12.alloc (.cells #[.int .i64 g.r, .int .u32 (g.ad : Int), .int .i64 g.ln, .int .i64 g.id, .int .i64 g.till] 62) = W13 at *
        generalize W12.heap.size = q11 at *
        have hd := (Below.refl W13.heap.size W13).drew
        obtain ⟨bs, hbs⟩ := (J12.out.1.keep hd).ref
        obtain ⟨a, c, hx0, hsl, -, -⟩ := hbs.sl
        have hx0' : W13.drew.cell? ⟨x, 0, none⟩ = some (.slice a L9.length c) := cell_of hx0 rfl
        have hlx := lt_of_blk hx0
        obtain ⟨n9, hn9⟩ : ∃ k, L9.length = k := ⟨_, rfl⟩
        rw [hn9] at hx0' hsl
        have HN9 := Lib.hid hn9
        have J13 := Lib.hid (And.intro (J12.out.1.keep hd) (And.intro hsl (show TdS q9 q11 x g (.slice a n9 c) W13.drew from ⟨J12.out.2.1.on (hd.block _ (lt_of_blk J12.out.2.1)), J12.out.2.2.on (hd.block _ (lt_of_blk J12.out.2.2)), hlx, hx0'⟩)))
        clear hd hbs hx0 hx0' hsl hlx hn9 J12
        refine wp_region_heldP (TdS q9 q11 x g (.slice a n9 c)) (by kernel_rfl) ?_
        generalize W13.drew = W14 at *
        refine held_reads [0, 1, 2, 3, 4, 5, 6, 7, 8, 9, 10, 11, 12, 13, 15, 16, 17, 18] (g := 14) rfl (by kernel_rfl) J13.out.2.2 (fun _ _ d _ _ h => by cases d <;> exact h) ?_
        simp only [pick, List.getD_cons_zero, List.getD_cons_succ]
        ((with_reducible refine wpRead_step (fun K hK => ?_)); go_simp; first | ((with_reducible refine hK _ ?_); clear hK K) | (apply Exists.intro; (with_reducible refine ⟨fun w' hw' => ?_, hK _ ?_⟩); (first | exact rfl | exact ⟨rfl, rfl⟩); clear hK K))
        ((with_reducible refine wpRead_step (fun K hK => ?_)); go_simp; first | ((with_reducible refine hK _ ?_); clear hK K) | (apply Exists.intro; (with_reducible refine ⟨fun w' hw' => ?_, hK _ ?_⟩); (first | exact rfl | exact ⟨rfl, rfl⟩); clear hK K))
        ((with_reducible refine wpRead_step (fun K hK => ?_)); go_simp; first | ((with_reducible refine hK _ ?_); clear hK K) | (apply Exists.intro; (with_reducible refine ⟨fun w' hw' => ?_, hK _ ?_⟩); (first | exact rfl | exact ⟨rfl, rfl⟩); clear hK K))
        with_reducible refine wpRead_yes ?_ ?_
        rotate_left
        rfl
        intro K hK
        refine read_load 62 _ rfl q9 0 #[.int .i64 g.r, .int .u32 (g.ad : Int), .int .i64 g.ln, .int .i64 g.id, .int .i64 g.till] rfl (fun w' hw' => rangeAt_block (hw'.1) 0 _ rfl) Try.underlying62 rfl (by kernel_rfl) (hK _ ?_)
        clear hK K
        with_reducible refine wpRead_yes ?_ ?_
        rotate_left
        rfl
        intro K hK
        refine read_load 62 _ rfl q11 0 #[.int .i64 g.r, .int .u32 (g.ad : Int), .int .i64 g.ln, .int .i64 g.id, .int .i64 g.till] rfl (fun w' hw' => rangeAt_block (hw'.2.1) 0 _ rfl) Try.underlying62 rfl (by kernel_rfl) (hK _ ?_)
        clear hK K
        ((with_reducible refine wpRead_step (fun K hK => ?_)); go_simp; first | ((with_reducible refine hK _ ?_); clear hK K) | (apply Exists.intro; (with_reducible refine ⟨fun w' hw' => ?_, hK _ ?_⟩); (first | exact rfl | exact ⟨rfl, rfl⟩); clear hK K))
        ((with_reducible refine wpRead_step (fun K hK => ?_)); go_simp; first | ((with_reducible refine hK _ ?_); clear hK K) | (apply Exists.intro; (with_reducible refine ⟨fun w' hw' => ?_, hK _ ?_⟩); (first | exact rfl | exact ⟨rfl, rfl⟩); clear hK K))
        ((with_reducible refine wpRead_step (fun K hK => ?_)); go_simp; first | ((with_reducible refine hK _ ?_); clear hK K) | (apply Exists.intro; (with_reducible refine ⟨fun w' hw' => ?_, hK _ ?_⟩); (first | exact rfl | exact ⟨rfl, rfl⟩); clear hK K))
        ((with_reducible refine wpRead_step (fun K hK => ?_)); go_simp; first | ((with_reducible refine hK _ ?_); clear hK K) | (apply Exists.intro; (with_reducible refine ⟨fun w' hw' => ?_, hK _ ?_⟩); (first | exact rfl | exact ⟨rfl, rfl⟩); clear hK K))
        ((with_reducible refine wpRead_step (fun K hK => ?_)); go_simp; first | ((with_reducible refine hK _ ?_); clear hK K) | (apply Exists.intro; (with_reducible refine ⟨fun w' hw' => ?_, hK _ ?_⟩); (first | exact rfl | exact ⟨rfl, rfl⟩); clear hK K))
        ((with_reducible refine wpRead_step (fun K hK => ?_)); go_simp; first | ((with_reducible refine hK _ ?_); clear hK K) | (apply Exists.intro; (with_reducible refine ⟨fun w' hw' => ?_, hK _ ?_⟩); (first | exact rfl | exact ⟨rfl, rfl⟩); clear hK K))
        ((with_reducible refine wpRead_step (fun K hK => ?_)); go_simp; first | ((with_reducible refine hK _ ?_); clear hK K) | (apply Exists.intro; (with_reducible refine ⟨fun w' hw' => ?_, hK _ ?_⟩); (first | exact rfl | exact ⟨rfl, rfl⟩); clear hK K))
        ((with_reducible refine wpRead_step (fun K hK => ?_)); go_simp; first | ((with_reducible refine hK _ ?_); clear hK K) | (apply Exists.intro; (with_reducible refine ⟨fun w' hw' => ?_, hK _ ?_⟩); (first | exact rfl | exact ⟨rfl, rfl⟩); clear hK K))
        ((with_reducible refine wpRead_step (fun K hK => ?_)); go_simp; first | ((with_reducible refine hK _ ?_); clear hK K) | (apply Exists.intro; (with_reducible refine ⟨fun w' hw' => ?_, hK _ ?_⟩); (first | exact rfl | exact ⟨rfl, rfl⟩); clear hK K))
        ((with_reducible refine wpRead_step (fun K hK => ?_)); go_simp; first | ((with_reducible refine hK _ ?_); clear hK K) | (apply Exists.intro; (with_reducible refine ⟨fun w' hw' => ?_, hK _ ?_⟩); (first | exact rfl | exact ⟨rfl, rfl⟩); clear hK K))
        ((with_reducible refine wpRead_step (fun K hK => ?_)); go_simp; first | ((with_reducible refine hK _ ?_); clear hK K) | (apply Exists.intro; (with_reducible refine ⟨fun w' hw' => ?_, hK _ ?_⟩); (first | exact rfl | exact ⟨rfl, rfl⟩); clear hK K))
        ((with_reducible refine wpRead_step (fun K hK => ?_)); go_simp; first | ((with_reducible refine hK _ ?_); clear hK K) | (apply Exists.intro; (with_reducible refine ⟨fun w' hw' => ?_, hK _ ?_⟩); (first | exact rfl | exact ⟨rfl, rfl⟩); clear hK K))
        ((with_reducible refine wpRead_step (fun K hK => ?_)); go_simp; first | ((with_reducible refine hK _ ?_); clear hK K) | (apply Exists.intro; (with_reducible refine ⟨fun w' hw' => ?_, hK _ ?_⟩); (obtain ⟨-, -, -, f0⟩ := hw'; go_simp; first | exact rfl | exact ⟨rfl, rfl⟩); clear hK K))
        with_reducible refine wpRead_nil ?_
        refine held_one 14 (by kernel_rfl) ?_
        simp only [pick, List.getD_cons_zero, List.getD_cons_succ]
        go_wp2_with fail
        refine (tall_any J13.out.1.tab HLB2.out).mono ?_
        rintro e W15 ⟨v, rfl, hown, hb⟩
        obtain ⟨a5, c5, rfl, hs5, -⟩ := hown.sl0
        rw [HN9.out] at hs5 ⊢
        have J14 := Lib.hid (And.intro (J13.out.1.keep hb) (And.intro (J13.out.2.1.keep hb) (And.intro (J13.out.2.2.on hb) hs5)))
        clear hown hb hs5 J13
        go_wp2_with fail
        refine ⟨J14.out.2.2.1, ?_⟩
        refine held_one 19 (by kernel_rfl) ?_
        simp only [pick, List.getD_cons_zero, List.getD_cons_succ]
        go_wp2_with fail
        refine (rtsame J14.out.2.2.2 J14.out.2.1).mono ?_
        rintro e W16 ⟨rfl, hb⟩
        have J15 := Lib.hid (And.intro (J14.out.1.keep hb) (J14.out.2.2.1.on hb))
        clear hb J14
        go_wp2_with fail
        refine ⟨J15.out.2, ?_⟩
        refine held_reads [20, 21, 22, 23, 25, 26, 27, 28, 29] (g := 3) rfl (by kernel_rfl) J15.out.2 (fun _ _ d _ _ h => by cases d <;> exact h) ?_
        simp only [pick, List.getD_cons_zero, List.getD_cons_succ]
        ((with_reducible refine wpRead_step (fun K hK => ?_)); go_simp; first | ((with_reducible refine hK _ ?_); clear hK K) | (apply Exists.intro; (with_reducible refine ⟨fun w' hw' => ?_, hK _ ?_⟩); (first | exact rfl | exact ⟨rfl, rfl⟩); clear hK K))
        ((with_reducible refine wpRead_step (fun K hK => ?_)); go_simp; first | ((with_reducible refine hK _ ?_); clear hK K) | (apply Exists.intro; (with_reducible refine ⟨fun w' hw' => ?_, hK _ ?_⟩); (first | exact rfl | exact ⟨rfl, rfl⟩); clear hK K))
        ((with_reducible refine wpRead_step (fun K hK => ?_)); go_simp; first | ((with_reducible refine hK _ ?_); clear hK K) | (apply Exists.intro; (with_reducible refine ⟨fun w' hw' => ?_, hK _ ?_⟩); (first | exact rfl | exact ⟨rfl, rfl⟩); clear hK K))
        ((with_reducible refine wpRead_step (fun K hK => ?_)); go_simp; first | ((with_reducible refine hK _ ?_); clear hK K) | (apply Exists.intro; (with_reducible refine ⟨fun w' hw' => ?_, hK _ ?_⟩); (first | exact rfl | exact ⟨rfl, rfl⟩); clear hK K))
        ((with_reducible refine wpRead_step (fun K hK => ?_)); go_simp; first | ((with_reducible refine hK _ ?_); clear hK K) | (apply Exists.intro; (with_reducible refine ⟨fun w' hw' => ?_, hK _ ?_⟩); (first | exact rfl | exact ⟨rfl, rfl⟩); clear hK K))
        ((with_reducible refine wpRead_step (fun K hK => ?_)); go_simp; first | ((with_reducible refine hK _ ?_); clear hK K) | (apply Exists.intro; (with_reducible refine ⟨fun w' hw' => ?_, hK _ ?_⟩); (first | exact rfl | exact ⟨rfl, rfl⟩); clear hK K))
        ((with_reducible refine wpRead_step (fun K hK => ?_)); go_simp; first | ((with_reducible refine hK _ ?_); clear hK K) | (apply Exists.intro; (with_reducible refine ⟨fun w' hw' => ?_, hK _ ?_⟩); (first | exact rfl | exact ⟨rfl, rfl⟩); clear hK K))
        ((with_reducible refine wpRead_step (fun K hK => ?_)); go_simp; first | ((with_reducible refine hK _ ?_); clear hK K) | (apply Exists.intro; (with_reducible refine ⟨fun w' hw' => ?_, hK _ ?_⟩); (obtain ⟨-, -, -, f0⟩ := hw'; go_simp; first | exact rfl | exact ⟨rfl, rfl⟩); clear hK K))
        ((with_reducible refine wpRead_step (fun K hK => ?_)); go_simp; first | ((with_reducible refine hK _ ?_); clear hK K) | (apply Exists.intro; (with_reducible refine ⟨fun w' hw' => ?_, hK _ ?_⟩); (first | exact rfl | exact ⟨rfl, rfl⟩); clear hK K))
        with_reducible refine wpRead_nil ?_
        refine held_one 24 (by kernel_rfl) ?_
        simp only [pick, List.getD_cons_zero, List.getD_cons_succ]
        go_wp2_with fail
        refine (tlen_any J15.out.1.tab).mono ?_
        rintro e W17 ⟨rfl, hw⟩
        subst hw
        rw [HN9.out]
        go_wp2_with fail
        refine ⟨J15.out.2, ?_⟩
        refine held_reads [30, 31] (g := 0) rfl (by kernel_rfl) J15.out.2 (fun _ _ d _ _ h => by cases d <;> exact h) ?_
        simp only [pick, List.getD_cons_zero, List.getD_cons_succ]
        ((with_reducible refine wpRead_step (fun K hK => ?_)); go_simp; first | ((with_reducible refine hK _ ?_); clear hK K) | (apply Exists.intro; (with_reducible refine ⟨fun w' hw' => ?_, hK _ ?_⟩); (first | exact rfl | exact ⟨rfl, rfl⟩); clear hK K))
        ((with_reducible refine wpRead_step (fun K hK => ?_)); go_simp; first | ((with_reducible refine hK _ ?_); clear hK K) | (apply Exists.intro; (with_reducible refine ⟨fun w' hw' => ?_, hK _ ?_⟩); (first | exact rfl | exact ⟨rfl, rfl⟩); clear hK K))
        with_reducible refine wpRead_nil ?_
        refine wpAnyH_done (by kernel_rfl) ?_ _
        go_wp2_with fail
        exact ⟨⟨i + 1, L9, hlt, hlt2, by first | rw [hw3] | rw [Int.natCast_succ], J15.out.1.tab, J15.out.1.ref, HLN.out, J15.out.1.bel⟩, by first | (rw [hw3]; exact mSucc hlt) | (rw [← Int.natCast_succ]; exact mSucc hlt)⟩
    · have hil : (((i : Int) < (n : Int)) = True ∧ ((i : Int) < 150) = False) ∨ ((i : Int) < (n : Int)) = False := by
        by_cases h : i < n
        · left; simp; omega
        · right; simp; omega
      rcases hil with ⟨hil, hil2⟩ | hil
      · go_wp2_with fail
        go_ret
        exact ⟨rfl, G.out.1⟩
      · go_wp2_with fail
        go_ret
        exact ⟨rfl, G.out.1⟩
end Go.Proofs.Ytfmehahjjgalfaa
