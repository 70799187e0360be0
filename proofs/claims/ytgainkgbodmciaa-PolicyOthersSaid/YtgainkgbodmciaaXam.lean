/- hop.New of good ones. -/
import Derived.Test.YtgainkgbodmciaaXal
import Derived.Test.YtgainkgbodmciaaXaa
namespace Go.Proofs.Ytgainkgbodmciaa
open Go.RowKit
open Go.ChangeMaps (setBlock)

set_option maxRecDepth 100000 in
set_option maxHeartbeats 2000000 in
theorem hnew_ok {w : World} {oa : Option Addr} {n c : Nat} {l : List If} (h : Ifs w oa n c l) (hg : Good l) : Calls Try.prog 22 #[.slice oa n c] w fun e w' => ∃ hb, e = .returned (.tuple #[.pointer (some ⟨hb, 0, none⟩), .int .i64 0]) ∧ HopsAt w' hb (hdOf l) ∧ Below w.heap.size w w' := by
  have HL := Lib.hid h.sl.len
  have HK := Lib.hid (hcheck_ok h hg)
  have F := Lib.hid h
  have HG := Lib.hid hg
  have hmax := h.sl.max
  have h256 : n ≤ 256 := by have h1 := hg.len; have h2 := h.sl.len; omega
  clear h hg
  have hmm := @run_makeMap Try.prog
  go_enter Try.func22, Try.ntmps22
  go_wp2_with fail
  refine (HK.out).mono ?_
  rintro e W ⟨rfl, hbW⟩
  have F0 := Lib.hid (And.intro hbW (F.out.keep hbW))
  have m3 : MR.MapAt IN ((W.alloc (.map #[] 0)).alloc (.cells (partCells W.heap.size (fun _ => 0) 0) 103)) W.heap.size [] 0 := MR.mapAt_made IN (hold (hnew _ _))
  have H0 : HopsN w.heap.size ((W.alloc (.map #[] 0)).alloc (.cells (partCells W.heap.size (fun _ => 0) 0) 103)) (W.heap.size + 1) W.heap.size 0 0 hd0 0 [] (fun _ => 0) (fun _ _ _ => none) (fun _ => 0) :=
    ⟨by have := hbW.size; omega, hbW.size, by omega, hnewAt (by simp), m3, fun _ => rfl, fun i hi => by omega, fun _ => Nat.le_refl _, fun i j hi => by omega, fun i hi => by omega, fun i a d v e => by cases e⟩
  have hbb : Below w.heap.size w ((W.alloc (.map #[] 0)).alloc (.cells (partCells W.heap.size (fun _ => 0) 0) 103)) := (hbW.alloc hbW.size _).alloc (by have := hbW.size; simp; omega) _
  have G := Lib.hid (And.intro H0 hbb)
  clear m3 H0 hbb hbW HK
  go_wp2_with fail
  have l0 := hmm
  clear l0 hmm
  go_loopw [17] (fun iv wr => ∃ (i : Nat) (b : Nat → Nat) (N : Nat → Nat → Nat → Option Nat) (m : Nat → Nat), i ≤ 16 ∧ iv = .int .i64 i ∧ HopsN w.heap.size wr (W.heap.size + 1) W.heap.size i 0 hd0 0 [] b N m ∧ Below w.heap.size w wr) (fun iv _ => 16 - (intOf iv).toNat)
  case atStart => exact ⟨0, _, _, _, Nat.zero_le _, rfl, G.out.1, G.out.2⟩
  case round =>
    obtain ⟨i, b, N, m, hi, rfl, hH, hb⟩ := hrel
    obtain ⟨w2, rfl⟩ : ∃ w2 : World, w2 = wr := ⟨_, rfl⟩
    by_cases hlt : i < 16
    · have hil : ((i : Int) < 16) = True := by simp; omega
      have hiz : ((i : Int) < 0) = False := by simp
      have hw3 := wrapS hlt (by decide)
      have H2 := Lib.hid (And.intro hH hb)
      clear hH hb
      go_wp2_with fail
      refine wp_region_heldP (fun _ => True) (by kernel_rfl) ?_
      refine held_reads [0, 1] (g := 5) rfl (by kernel_rfl) trivial (fun _ _ d _ _ h => by cases d <;> exact h) ?_
      simp only [pick, List.getD_cons_zero, List.getD_cons_succ]
      iterate 2 ((with_reducible refine wpRead_step (fun K hK => ?_)); go_simp; first | ((with_reducible refine hK _ ?_); clear hK K) | (apply Exists.intro; (with_reducible refine ⟨fun w' hw' => ?_, hK _ ?_⟩); (skip; go_simp; first | exact rfl | exact ⟨rfl, rfl⟩); clear hK K))
      with_reducible refine wpRead_nil ?_
      have hd := (Below.refl w2.heap.size w2).drew
      have H2 := Lib.hid (And.intro (H2.out.1.keep hd) (bcall H2.out.2 (Nat.le_refl _) hd))
      clear hd
      generalize w2.drew = w3 at *
      refine held_two 2 3 (by kernel_rfl) ?_ ?_
      · simp only [pick, List.getD_cons_zero, List.getD_cons_succ]
        go_wp2_with fail
        refine (newI_any w3).mono ?_
        rintro e W2 ⟨rfl, hT, hb2⟩
        have c0 : W2.cell? ⟨W.heap.size + 1, 1 + i, none⟩ = some (.pointer none) := cell_of (H2.out.1.keep hb2).cell (by rw [HopsN.part_nth _ _ _ hlt, if_neg (Nat.lt_irrefl _)])
        have f0 : W2.frozen? ⟨W.heap.size + 1, 1 + i, none⟩ = false := free_of (H2.out.1.keep hb2).cell
        have hs := (SetB.self (H2.out.1.keep hb2).cell).store (o := 1 + i) (lt_of_blk (H2.out.1.keep hb2).cell) (.pointer (some ⟨w3.heap.size + 1, 0, none⟩))
        have hB2 : w.heap.size ≤ w3.heap.size := H2.out.2.size
        have H3 := Lib.hid (And.intro (H2.out.1.grow hlt hb2 hB2 hT rfl hs) (Below.trans (bcall H2.out.2 (Nat.le_refl _) hb2) (hs.below H2.out.1.hB)))
        clear hs hB2 hT hb2
        go_wp2_with fail
        refine ⟨trivial, ?_⟩
        refine held_reads [3, 4, 5] (g := 1) rfl (by kernel_rfl) trivial (fun _ _ d _ _ h => by cases d <;> exact h) ?_
        simp only [pick, List.getD_cons_zero, List.getD_cons_succ]
        iterate 3 ((with_reducible refine wpRead_step (fun K hK => ?_)); go_simp; first | ((with_reducible refine hK _ ?_); clear hK K) | (apply Exists.intro; (with_reducible refine ⟨fun w' hw' => ?_, hK _ ?_⟩); (skip; go_simp; first | exact rfl | exact ⟨rfl, rfl⟩); clear hK K))
        with_reducible refine wpRead_nil ?_
        refine held_one 6 (by kernel_rfl) ?_
        simp only [pick, List.getD_cons_zero, List.getD_cons_succ]
        go_wp2_with fail
        refine ⟨trivial, ?_⟩
        refine wpAnyH_done (by kernel_rfl) ?_ _
        go_wp2_with fail
        exact ⟨⟨i + 1, _, _, _, hlt, by first | rw [hw3] | rw [Int.natCast_succ], H3.out.1, H3.out.2⟩, by first | (rw [hw3]; exact mSucc hlt) | (rw [← Int.natCast_succ]; exact mSucc hlt)⟩
      · simp only [pick, List.getD_cons_zero, List.getD_cons_succ]
        go_wp2_with fail
        refine ⟨trivial, ?_⟩
        refine held_reads [4] (g := 3) rfl (by kernel_rfl) trivial (fun _ _ d _ _ h => by cases d <;> exact h) ?_
        simp only [pick, List.getD_cons_zero, List.getD_cons_succ]
        iterate 1 ((with_reducible refine wpRead_step (fun K hK => ?_)); go_simp; first | ((with_reducible refine hK _ ?_); clear hK K) | (apply Exists.intro; (with_reducible refine ⟨fun w' hw' => ?_, hK _ ?_⟩); (skip; go_simp; first | exact rfl | exact ⟨rfl, rfl⟩); clear hK K))
        with_reducible refine wpRead_nil ?_
        refine held_one 2 (by kernel_rfl) ?_
        simp only [pick, List.getD_cons_zero, List.getD_cons_succ]
        go_wp2_with fail
        refine (newI_any w3).mono ?_
        rintro e W2 ⟨rfl, hT, hb2⟩
        have c0 : W2.cell? ⟨W.heap.size + 1, 1 + i, none⟩ = some (.pointer none) := cell_of (H2.out.1.keep hb2).cell (by rw [HopsN.part_nth _ _ _ hlt, if_neg (Nat.lt_irrefl _)])
        have f0 : W2.frozen? ⟨W.heap.size + 1, 1 + i, none⟩ = false := free_of (H2.out.1.keep hb2).cell
        have hs := (SetB.self (H2.out.1.keep hb2).cell).store (o := 1 + i) (lt_of_blk (H2.out.1.keep hb2).cell) (.pointer (some ⟨w3.heap.size + 1, 0, none⟩))
        have hB2 : w.heap.size ≤ w3.heap.size := H2.out.2.size
        have H3 := Lib.hid (And.intro (H2.out.1.grow hlt hb2 hB2 hT rfl hs) (Below.trans (bcall H2.out.2 (Nat.le_refl _) hb2) (hs.below H2.out.1.hB)))
        clear hs hB2 hT hb2
        go_wp2_with fail
        refine ⟨trivial, ?_⟩
        refine held_reads [5] (g := 1) rfl (by kernel_rfl) trivial (fun _ _ d _ _ h => by cases d <;> exact h) ?_
        simp only [pick, List.getD_cons_zero, List.getD_cons_succ]
        iterate 1 ((with_reducible refine wpRead_step (fun K hK => ?_)); go_simp; first | ((with_reducible refine hK _ ?_); clear hK K) | (apply Exists.intro; (with_reducible refine ⟨fun w' hw' => ?_, hK _ ?_⟩); (skip; go_simp; first | exact rfl | exact ⟨rfl, rfl⟩); clear hK K))
        with_reducible refine wpRead_nil ?_
        refine held_one 6 (by kernel_rfl) ?_
        simp only [pick, List.getD_cons_zero, List.getD_cons_succ]
        go_wp2_with fail
        refine ⟨trivial, ?_⟩
        refine wpAnyH_done (by kernel_rfl) ?_ _
        go_wp2_with fail
        exact ⟨⟨i + 1, _, _, _, hlt, by first | rw [hw3] | rw [Int.natCast_succ], H3.out.1, H3.out.2⟩, by first | (rw [hw3]; exact mSucc hlt) | (rw [← Int.natCast_succ]; exact mSucc hlt)⟩
    · obtain rfl : i = 16 := by omega
      rw [show ((16 : Nat) : Int) = 16 from rfl]
      have H2 := Lib.hid (And.intro hH hb)
      clear hH hb G
      go_wp2_with fail
      have hK := H2.out.2.size
      go_loopw [29] (fun iv wr => ∃ (i clk : Nat) (es : List (MR.Ent Int)) (b : Nat → Nat) (N : Nat → Nat → Nat → Option Nat) (m : Nat → Nat), i ≤ n ∧ iv = .int .i64 i ∧ HopsN w.heap.size wr (W.heap.size + 1) W.heap.size 16 i (hdOf (l.take i)) clk es b N m ∧ Below w.heap.size w wr) (fun iv _ => n - (intOf iv).toNat)
      case atStart => exact ⟨0, 0, _, _, _, _, Nat.zero_le _, rfl, H2.out.1, H2.out.2⟩
      case round =>
        clear H2 b N m
        obtain ⟨i, clk, es, b, N, m, hi, rfl, hH, hb⟩ := hrel
        obtain ⟨w2, rfl⟩ : ∃ w2 : World, w2 = wr := ⟨_, rfl⟩
        by_cases hlt : i < n
        · have hil : ((i : Int) < (n : Int)) = True := by simp; omega
          have hw3 := wrapS hlt hmax
          have hlen : l.length = n := HL.out.symm
          obtain ⟨b0, o0, rfl, hbb, hat⟩ := (F.out.keep hb).sl.at hlt
          have c0 := hat 0 (by decide)
          have c1 := hat 1 (by decide)
          have c2 := hat 2 (by decide)
          have c3' := hat 3 (by decide)
          have c4' := hat 4 (by decide)
          simp only [RIf, Nat.add_zero, List.getElem?_cons_zero, List.getElem?_cons_succ] at c0 c1 c2 c3' c4'
          obtain ⟨hx1, hx2, hx3, hx4, hx5, hx6, hx7⟩ := okI_iff.1 (HG.out.ok _ (getD_mem (i := i) (by omega)))
          have hbd := (okI_bd (HG.out.ok _ (getD_mem (i := i) (by omega)))).1
          obtain ⟨hx8, hx9, -⟩ := okP_iff.1 hx5
          have hadx := F.out.ad _ (getD_mem (i := i) (by omega))
          have t1 := hdOf_succ (l := l) (i := i) (by omega)
          generalize l.getD i default = x at *
          obtain ⟨id, r, ad, ln, cp⟩ := x
          dsimp only at *
          obtain ⟨ρ, rfl⟩ : ∃ ρ : Nat, r = ρ := ⟨r.toNat, by omega⟩
          obtain ⟨d, rfl⟩ : ∃ d : Nat, ln = d := ⟨ln.toNat, by omega⟩
          have hρ : ρ < 16 := by omega
          have hr1 : ((ρ : Int) < 16) = True := by simp; omega
          have hr0 : ((0 : Int) ≤ (ρ : Int)) = True := by simp
          have hal := ((Below.refl w2.heap.size w2).alloc (Nat.le_refl _) (.cells #[.int .i64 id, .int .i64 (ρ : Nat), .int .u32 (ad : Nat), .int .i64 (d : Nat), .int .i64 cp] 83)).drew
          have hxs : IfS w2.heap.size ⟨id, ρ, ad, d, cp⟩ (w2.alloc (.cells #[.int .i64 id, .int .i64 (ρ : Nat), .int .u32 (ad : Nat), .int .i64 (d : Nat), .int .i64 cp] 83)).drew := hnew _ _
          have H1 := hH.keep hal
          have lm := lt_of_blk hH.map.blk
          have lh := lt_of_blk hH.cell
          obtain ⟨O1, hO1⟩ : ∃ O, O = Obj.map (MR.ents IN.enc (MR.put es id (If.v ⟨id, ρ, ad, d, cp⟩) clk)).toArray (MR.clock' es id clk) := ⟨_, rfl⟩
          have hu1 : (Instr.mapUpdate 99 (.map (some W.heap.size)) (.int .i64 id) (.agg #[.int .i64 id, .int .i64 (ρ : Nat), .int .u32 (ad : Nat), .int .i64 (d : Nat), .int .i64 cp])).run Try.prog (w2.alloc (.cells #[.int .i64 id, .int .i64 (ρ : Nat), .int .u32 (ad : Nat), .int .i64 (d : Nat), .int .i64 cp] 83)).drew = .ok () (setBlock (w2.alloc (.cells #[.int .i64 id, .int .i64 (ρ : Nat), .int .u32 (ad : Nat), .int .i64 (d : Nat), .int .i64 cp] 83)).drew W.heap.size O1) := by rw [hO1]; exact (MR.run_update IN H1.map hbd Try.underlying99 (If.v ⟨id, ρ, ad, d, cp⟩)).1
          have hm1 : MR.MapAt IN (setBlock (w2.alloc (.cells #[.int .i64 id, .int .i64 (ρ : Nat), .int .u32 (ad : Nat), .int .i64 (d : Nat), .int .i64 cp] 83)).drew W.heap.size O1).drew W.heap.size (MR.put es id (If.v ⟨id, ρ, ad, d, cp⟩) clk) (MR.clock' es id clk) := by rw [hO1]; exact (MR.run_update IN H1.map hbd Try.underlying99 (If.v ⟨id, ρ, ad, d, cp⟩)).2.blk_iff IN rfl
          have hxs2 : IfS w2.heap.size ⟨id, ρ, ad, d, cp⟩ (setBlock (w2.alloc (.cells #[.int .i64 id, .int .i64 (ρ : Nat), .int .u32 (ad : Nat), .int .i64 (d : Nat), .int .i64 cp] 83)).drew W.heap.size O1).drew := (setBlock_other (by omega)).trans hxs
          have hT : TrieI (setBlock (w2.alloc (.cells #[.int .i64 id, .int .i64 (ρ : Nat), .int .u32 (ad : Nat), .int .i64 (d : Nat), .int .i64 cp] 83)).drew W.heap.size O1).drew (b ρ) (N ρ) (m ρ) ((hdOf (l.take i)).M ρ) := (H1.tr ρ hρ).keep fun y hy => setBlock_other (H1.free ρ hρ y hy).2.1
          have HS := Lib.hid (setI_any hT ad d hadx hx5 (by have := H1.nn ρ; omega) id)
          have k0 : (w2.alloc (.cells #[.int .i64 id, .int .i64 (ρ : Nat), .int .u32 (ad : Nat), .int .i64 (d : Nat), .int .i64 cp] 83)).drew.cell? ⟨W.heap.size + 1, 0, none⟩ = some (.map (some W.heap.size)) := cell_of H1.cell rfl
          have k1 : (setBlock (w2.alloc (.cells #[.int .i64 id, .int .i64 (ρ : Nat), .int .u32 (ad : Nat), .int .i64 (d : Nat), .int .i64 cp] 83)).drew W.heap.size O1).drew.cell? ⟨W.heap.size + 1, 1 + ρ, none⟩ = some (.pointer (some ⟨b ρ, 0, none⟩)) := cell_of ((setBlock_other H1.ne).trans H1.cell) (by rw [HopsN.part_nth _ _ _ hρ, if_pos hρ])
          have hbc : Below w.heap.size w (setBlock (w2.alloc (.cells #[.int .i64 id, .int .i64 (ρ : Nat), .int .u32 (ad : Nat), .int .i64 (d : Nat), .int .i64 cp] 83)).drew W.heap.size O1).drew := (below_setBlock (bcall hb (Nat.le_refl _) hal) H1.mB).drew
          have H := Lib.hid (And.intro H1 (And.intro hm1 (And.intro hbc (And.intro hbd (And.intro hρ t1)))))
          have hsz : (setBlock (w2.alloc (.cells #[.int .i64 id, .int .i64 (ρ : Nat), .int .u32 (ad : Nat), .int .i64 (d : Nat), .int .i64 cp] 83)).drew W.heap.size O1).drew.heap.size = (w2.alloc (.cells #[.int .i64 id, .int .i64 (ρ : Nat), .int .u32 (ad : Nat), .int .i64 (d : Nat), .int .i64 cp] 83)).drew.heap.size := by simp [setBlock]
          have HZ := Lib.hid hsz
          obtain ⟨z0, z1, z2, z3, z4⟩ := hxs.cells
          obtain ⟨y0, y1, y2, y3, y4⟩ := hxs2.cells
          clear hO1 hm1 hbc hT H1 hH hb hal hxs hxs2 hbd t1 hat hlen hadx hx1 hx2 hx3 hx4 hx5 hx6 hx7 hx8 hx9 hsz
          unfold pfx at HS
          dsimp only at *
          go_wp2_with fail
          refine wp_region_pieces (by kernel_rfl) ?_
          refine wpAny_seg (fun w' => w' = (w2.alloc (.cells #[.int .i64 id, .int .i64 (ρ : Nat), .int .u32 (ad : Nat), .int .i64 (d : Nat), .int .i64 cp] 83)).drew) [0, 1, 2, 3, 4, 5, 6] (g := 1) rfl (by kernel_rfl) rfl ?_
          simp only [pick, List.getD_cons_zero, List.getD_cons_succ]
          iterate 7 ((with_reducible refine wpQuiet_step (fun K hK => ?_)); go_simp; first | ((with_reducible refine hK _ ?_); clear hK K) | (apply Exists.intro; (with_reducible refine ⟨fun w' hw' => ?_, hK _ ?_⟩); (subst hw'; go_simp; first | exact rfl | exact ⟨rfl, rfl⟩); clear hK K))
          refine wpQuiet_nil ?_
          rintro _ rfl
          refine wpAny_one 7 (by kernel_rfl) ?_
          simp only [pick, List.getD_cons_zero, List.getD_cons_succ]
          go_wp2_with fail
          refine wpAny_done (by kernel_rfl) ?_ _
          go_wp2_with fail
          refine wp_region_pieces (by kernel_rfl) ?_
          refine wpAny_seg (fun w' => w' = (setBlock (w2.alloc (.cells #[.int .i64 id, .int .i64 (ρ : Nat), .int .u32 (ad : Nat), .int .i64 (d : Nat), .int .i64 cp] 83)).drew W.heap.size O1).drew) [0, 1, 2, 3, 4, 5, 6, 7, 8, 9, 10] (g := 1) rfl (by kernel_rfl) rfl ?_
          simp only [pick, List.getD_cons_zero, List.getD_cons_succ]
          iterate 11 ((with_reducible refine wpQuiet_step (fun K hK => ?_)); go_simp; first | ((with_reducible refine hK _ ?_); clear hK K) | (apply Exists.intro; (with_reducible refine ⟨fun w' hw' => ?_, hK _ ?_⟩); (subst hw'; go_simp; first | exact rfl | exact ⟨rfl, rfl⟩); clear hK K))
          refine wpQuiet_nil ?_
          rintro _ rfl
          refine wpAny_one 11 (by kernel_rfl) ?_
          simp only [pick, List.getD_cons_zero, List.getD_cons_succ]
          go_wp2_with fail
          refine (HS.out).mono ?_
          rintro e W2 ⟨rfl, N', hT', hmv⟩
          have H5 := H.out.1.put (x := ⟨id, ρ, ad, d, cp⟩) (Nat.le_trans H.out.1.hB (Nat.le_of_lt (lt_of_blk H.out.1.cell))) H.out.2.2.2.2.1 H.out.2.2.2.1 H.out.2.1 (fun j hj => setBlock_other hj) hT' HZ.out hmv
          rw [← H.out.2.2.2.2.2] at H5
          have H6 := Lib.hid (And.intro H5 (Below.trans H.out.2.2.1 (hmv.below H.out.2.2.1.size fun k hk => (H.out.1.free _ H.out.2.2.2.2.1 k hk).2.2)))
          clear H5 hT' hmv H HS HZ
          go_wp2_with fail
          refine wpAny_done (by kernel_rfl) ?_ _
          go_wp2_with fail
          go_roundw
          case rel => exact ⟨i + 1, _, _, _, _, _, hlt, by first | rw [hw3] | rw [Int.natCast_succ], H6.out.1, H6.out.2⟩
          case measure => first | (rw [hw3]; exact mSucc hlt) | (rw [← Int.natCast_succ]; exact mSucc hlt)
        · obtain rfl : n = i := by omega
          have hil : ((n : Int) < (n : Int)) = False := by simp
          have hH2 := hH.hops
          rw [List.take_of_length_le (by rw [HL.out]; exact Nat.le_refl _)] at hH2
          have H6 := Lib.hid (And.intro hH2 hb)
          clear hH hb hH2
          go_wp2_with fail
          go_ret2
          exact ⟨_, rfl, H6.out.1, H6.out.2⟩
end Go.Proofs.Ytgainkgbodmciaa
/- Capa in memory; capa.New, made, Get. -/
namespace Go.Proofs.Ytgainkgbodmciaa
open Go.RowKit

/-- what an interface carries -/
structure Cy where
  id : Int
  cp : Int
  dr : Bool
deriving Inhabited
def Cy.v (x : Cy) : Value := .agg #[.int .i64 x.id, .int .i64 x.cp, .bool x.dr]
def CGet (D : HD) (S : Int → Option Cy) (id : Int) : Option Cy := match D.get id with
  | none => none
  | some x => some ((S id).getD ⟨id, x.cp, false⟩)
structure CapAt (w0 w : World) (c bm h : Nat) (D : HD) (S : Int → Option Cy) : Prop where
  hop : HopsAt w0 h D
  bel : Below w0.heap.size w0 w
  hc : w0.heap.size ≤ c
  hm : w0.heap.size ≤ bm
  ne : c ≠ bm
  out : ∃ (clk : Nat) (es : List (MR.Ent Int)) (cs : Array Value), w.heap[c]? = some (.cells cs 90) ∧ cs[0]? = some (.pointer (some ⟨h, 0, none⟩)) ∧ cs[1]? = some (.map (some bm)) ∧ (∀ i, i < 16 → ∃ s a b, cs[2 + 3 * i]? = some (.int .i64 s) ∧ cs[2 + 3 * i + 1]? = some (.int .i64 a) ∧ cs[2 + 3 * i + 2]? = some (.bool b)) ∧ MR.MapAt IN w bm es clk ∧ ∀ id, MR.get? es id = (S id).map Cy.v
theorem CapAt.keep {w0 w w' : World} {c bm h : Nat} {D : HD} {S : Int → Option Cy} (H : CapAt w0 w c bm h D S) (hb : Below w.heap.size w w') : CapAt w0 w' c bm h D S := by
  obtain ⟨clk, es, cs, h1, h2, h3, h4, h5, h6⟩ := H.out
  exact ⟨H.hop, bcall H.bel (Nat.le_refl _) hb, H.hc, H.hm, H.ne, clk, es, cs, (hb.block _ (lt_of_blk h1)).trans h1, h2, h3, h4, h5.blk_iff IN (hb.block _ (lt_of_blk h5.blk)), h6⟩
theorem CapAt.hops {w0 w : World} {c bm h : Nat} {D : HD} {S : Int → Option Cy} (H : CapAt w0 w c bm h D S) : HopsAt w h D := H.hop.keep H.bel
theorem zero52 (w : World) : (zeroValue 52).run Try.prog w = .ok (.agg #[.int .i64 0, .int .i64 0, .bool false]) w := by kernel_rfl
set_option maxRecDepth 100000 in
theorem cnew_ok {w : World} {h : Nat} {D : HD} (H : HopsAt w h D) : Calls Try.prog 23 #[.pointer (some ⟨h, 0, none⟩)] w fun e w' => ∃ c bm, e = .returned (.tuple #[.pointer (some ⟨c, 0, none⟩), .int .i64 0]) ∧ CapAt w w' c bm h D (fun _ => none) := by
  have G := Lib.hid H
  clear H
  have hmm := @run_makeMap Try.prog
  go_enter Try.func23, Try.ntmps23
  go_wp2_with fail
  go_ret2
  refine ⟨w.heap.size + 1, w.heap.size, rfl, G.out, ((Below.refl _ _).alloc (Nat.le_refl _) _).alloc (by simp) _, by omega, Nat.le_refl _, by omega, 0, [], _, hnewAt (by simp), rfl, rfl, fun i hi => ?_, MR.mapAt_made IN (hold (hnew _ _)), fun _ => rfl⟩
  have : i = 0 ∨ i = 1 ∨ i = 2 ∨ i = 3 ∨ i = 4 ∨ i = 5 ∨ i = 6 ∨ i = 7 ∨ i = 8 ∨ i = 9 ∨ i = 10 ∨ i = 11 ∨ i = 12 ∨ i = 13 ∨ i = 14 ∨ i = 15 := by omega
  rcases this with rfl | rfl | rfl | rfl | rfl | rfl | rfl | rfl | rfl | rfl | rfl | rfl | rfl | rfl | rfl | rfl <;> exact ⟨_, _, _, rfl, rfl, rfl⟩
set_option maxRecDepth 100000 in
theorem cnew_nil (w : World) : Calls Try.prog 23 #[.pointer none] w fun e w' => e = .returned (.tuple #[.pointer none, .int .i64 1]) ∧ w' = w := by
  go_enter Try.func23, Try.ntmps23
  go_wp2_with fail
  go_ret2
  exact ⟨rfl, rfl⟩
set_option maxRecDepth 100000 in
theorem made_nil (w : World) : Calls Try.prog 30 #[.pointer none] w fun e w' => e = .returned (.bool false) ∧ w' = w := by
  go_enter Try.func30, Try.ntmps30
  go_wp2_with fail
  go_ret
  exact ⟨rfl, rfl⟩
set_option maxRecDepth 100000 in
theorem made_any {w0 w : World} {c bm h : Nat} {D : HD} {S : Int → Option Cy} (H : CapAt w0 w c bm h D S) : Calls Try.prog 30 #[.pointer (some ⟨c, 0, none⟩)] w fun e w' => e = .returned (.bool true) ∧ w' = w := by
  obtain ⟨clk, es, cs, h1, h2, h3, h4, h5, h6⟩ := H.out
  have c1 : w.cell? ⟨c, 1, none⟩ = some (.map (some bm)) := cell_of h1 h3
  clear h1 h2 h3 h4 h5 h6 H
  have hne : (binOp BinOp.neq 85 (.map (some bm)) (.map none)).run Try.prog w = .ok (.bool true) w := by kernel_rfl
  go_enter Try.func30, Try.ntmps30
  go_wp2_with fail
  go_ret
  exact ⟨rfl, rfl⟩
set_option maxRecDepth 100000 in
theorem get_nil (id : Int) (w : World) : Calls Try.prog 11 #[.pointer none, .int .i64 id] w fun e w' => e = .returned (.tuple #[.agg #[.int .i64 0, .int .i64 0, .bool false], .bool false]) ∧ Below w.heap.size w w' := by
  go_enter Try.func11, Try.ntmps11
  go_wp2_with fail
  refine (made_nil _).mono ?_
  rintro e W ⟨rfl, hW⟩
  subst W
  go_wp2_with (with_reducible refine halt_store 52 (x := .tmp 4) rfl ?_)
  refine Halted.go ?_
  refine store_whole rfl 52 _ _ rfl w.heap.size #[.int .i64 0, .int .i64 0, .bool false] rfl rfl (hnew _ _) rfl (by kernel_rfl) (by simp [Value.oneCell']) ?_
  intro Wz hwz hsz
  have HZ := Lib.hid (And.intro hwz (Below.trans ((Below.refl w.heap.size w).alloc (Nat.le_refl _) _) (hsz.below (Nat.le_refl _))))
  clear hwz hsz
  go_wp2_with fail
  refine ret_cell2 rfl rfl rfl HZ.out.1 Try.underlying52 rfl (by kernel_rfl) ?_
  exact ⟨rfl, HZ.out.2⟩
set_option maxRecDepth 100000 in
set_option maxHeartbeats 1000000 in
theorem get_any {w0 w : World} {c bm h : Nat} {D : HD} {S : Int → Option Cy} (H : CapAt w0 w c bm h D S) {id : Int} (hid : IN.ok id) (r : Cy) (is : Bool) (hr : CGet D S id = if is then some r else none) (hz : is = false → r = ⟨0, 0, false⟩) : Calls Try.prog 11 #[.pointer (some ⟨c, 0, none⟩), .int .i64 id] w fun e w' => e = .returned (.tuple #[r.v, .bool is]) ∧ Below w.heap.size w w' := by
  have hal := (Below.refl w.heap.size w).alloc (Nat.le_refl _) (.cells #[.int .i64 0, .int .i64 0, .bool false] 52)
  have H1 := H.keep hal
  have hzero : (w.alloc (.cells #[.int .i64 0, .int .i64 0, .bool false] 52)).heap[w.heap.size]? = some (.cells #[.int .i64 0, .int .i64 0, .bool false] 52 (0, 0)) := hnew _ _
  obtain ⟨clk, es, cs, h1, h2, h3, h4, h5, h6⟩ := H1.out
  have c0 : (w.alloc (.cells #[.int .i64 0, .int .i64 0, .bool false] 52)).cell? ⟨c, 0, none⟩ = some (.pointer (some ⟨h, 0, none⟩)) := cell_of h1 h2
  have HM := Lib.hid (made_any H1)
  have F := Lib.hid (And.intro hal (And.intro H1 (And.intro hzero (And.intro hid (And.intro hr hz)))))
  have HP := Lib.hid H1.hops
  clear h1 h2 h3 h4 h5 h6 H hal H1 hzero hr hz hid
  go_enter Try.func11, Try.ntmps11
  go_wp2_with fail
  refine (HM.out).mono ?_
  rintro e W ⟨rfl, hW⟩
  generalize w.alloc (.cells #[.int .i64 0, .int .i64 0, .bool false] 52) = W1 at *
  subst W
  go_wp2_with fail
  rcases hG : D.get id with _ | x
  · have hI := iface_any HP.out F.out.2.2.2.1 ⟨0, 0, 0, 0, 0⟩ false (by rw [hG]; rfl) (fun _ => rfl)
    obtain rfl : is = false := by
      have := F.out.2.2.2.2.1
      unfold CGet at this; rw [hG] at this
      cases is with
      | false => rfl
      | true => cases this
    have hr0 := F.out.2.2.2.2.2 rfl
    subst hr0
    refine hI.mono ?_
    rintro e W2 ⟨rfl, hb2⟩
    have F2 := Lib.hid (And.intro (bcall F.out.1 (Nat.le_refl _) hb2) ((hb2.block _ (lt_of_blk F.out.2.2.1)).trans F.out.2.2.1))
    clear hb2 hI HM HP F c0
    unfold If.v
    go_wp2_with (with_reducible refine halt_store 52 (x := .tmp 4) rfl ?_)
    refine Halted.go ?_
    have hal3 := (Below.refl W2.heap.size W2).alloc (Nat.le_refl _) (.cells #[.int .i64 0, .int .i64 0, .int .u32 ((0 : Nat) : Int), .int .i64 0, .int .i64 0] 83)
    refine store_whole rfl 52 _ _ rfl w.heap.size #[.int .i64 0, .int .i64 0, .bool false] rfl rfl (hold F2.out.2) rfl (by kernel_rfl) (by simp [Value.oneCell']) ?_
    intro Wz hwz hsz
    have HZ := Lib.hid (And.intro hwz (Below.trans (bcall F2.out.1 (Nat.le_refl _) hal3) (hsz.below (Nat.le_refl _))))
    clear hwz hsz hal3
    go_wp2_with fail
    refine ret_cell2 rfl rfl rfl HZ.out.1 Try.underlying52 rfl (by kernel_rfl) ?_
    exact ⟨rfl, HZ.out.2⟩
  · have hI := iface_any HP.out F.out.2.2.2.1 x true hG (fun h => by cases h)
    have hcg : CGet D S id = some ((S id).getD ⟨id, x.cp, false⟩) := by unfold CGet; rw [hG]
    rw [hcg] at F
    obtain ⟨rfl, hry⟩ : is = true ∧ (S id).getD ⟨id, x.cp, false⟩ = r := by
      have := F.out.2.2.2.2.1
      cases is with
      | false => cases this
      | true => exact ⟨rfl, by injection this⟩
    refine hI.mono ?_
    rintro e W2 ⟨rfl, hb2⟩
    have hal3 := (Below.refl W2.heap.size W2).alloc (Nat.le_refl _) (.cells #[.int .i64 x.id, .int .i64 x.r, .int .u32 (x.ad : Nat), .int .i64 x.ln, .int .i64 x.cp] 83)
    have H3 := (F.out.2.1.keep hb2).keep hal3
    have hxs : IfS W2.heap.size x (W2.alloc (.cells #[.int .i64 x.id, .int .i64 x.r, .int .u32 (x.ad : Nat), .int .i64 x.ln, .int .i64 x.cp] 83)) := hnew _ _
    have h0 : (W2.alloc (.cells #[.int .i64 x.id, .int .i64 x.r, .int .u32 (x.ad : Nat), .int .i64 x.ln, .int .i64 x.cp] 83)).heap[w.heap.size]? = some (.cells #[.int .i64 0, .int .i64 0, .bool false] 52 (0, 0)) := hold ((hb2.block _ (lt_of_blk F.out.2.2.1)).trans F.out.2.2.1)
    have F2 := Lib.hid (And.intro (bcall (bcall F.out.1 (Nat.le_refl _) hb2) (Nat.le_refl _) hal3) (And.intro h0 hxs))
    obtain ⟨clk, es, cs, h1, h2, h3, h4, h5, h6⟩ := H3.out
    have c1 : (W2.alloc (.cells #[.int .i64 x.id, .int .i64 x.r, .int .u32 (x.ad : Nat), .int .i64 x.ln, .int .i64 x.cp] 83)).cell? ⟨c, 1, none⟩ = some (.map (some bm)) := cell_of h1 h3
    have hlk := MR.run_lookup IN h5 F.out.2.2.2.1 Try.underlying85 zero52 true
    rw [h6, if_pos rfl] at hlk
    obtain ⟨z0, z1, z2, z3, z4⟩ := hxs.cells
    clear hb2 hI HM HP F c0 h1 h2 h3 h4 h5 h6 h0 hxs hal3 H3 hcg
    unfold If.v
    generalize hS : S id = s at *
    cases s with
    | some y =>
      obtain rfl : y = r := hry
      have hlk' : (Instr.lookup 85 (.map (some bm)) (.int .i64 id) true).run Try.prog (W2.alloc (.cells #[.int .i64 x.id, .int .i64 x.r, .int .u32 (x.ad : Nat), .int .i64 x.ln, .int .i64 x.cp] 83)) = .ok (.tuple #[.agg #[.int .i64 y.id, .int .i64 y.cp, .bool y.dr], .bool true]) (W2.alloc (.cells #[.int .i64 x.id, .int .i64 x.r, .int .u32 (x.ad : Nat), .int .i64 x.ln, .int .i64 x.cp] 83)) := hlk
      clear hlk hS
      go_wp2_with (with_reducible refine halt_store 52 (x := .tmp 4) rfl ?_)
      refine Halted.go ?_
      generalize W2.alloc (.cells #[.int .i64 x.id, .int .i64 x.r, .int .u32 (x.ad : Nat), .int .i64 x.ln, .int .i64 x.cp] 83) = W3 at *
      have hal3 := (Below.refl W3.heap.size W3).alloc (Nat.le_refl _) (.cells #[.int .i64 y.id, .int .i64 y.cp, .bool y.dr] 52)
      refine store_whole rfl 52 _ _ rfl w.heap.size #[.int .i64 y.id, .int .i64 y.cp, .bool y.dr] rfl rfl (hold F2.out.2.1) rfl (by kernel_rfl) (by simp [Value.oneCell']) ?_
      intro Wz hwz hsz
      have HZ := Lib.hid (And.intro hwz (Below.trans (bcall F2.out.1 (Nat.le_refl _) hal3) (hsz.below (Nat.le_refl _))))
      clear hwz hsz hal3
      go_wp2_with fail
      refine ret_cell2 rfl rfl rfl HZ.out.1 Try.underlying52 rfl (by kernel_rfl) ?_
      exact ⟨rfl, HZ.out.2⟩
    | none =>
      obtain rfl : (⟨id, x.cp, false⟩ : Cy) = r := hry
      have hlk' : (Instr.lookup 85 (.map (some bm)) (.int .i64 id) true).run Try.prog (W2.alloc (.cells #[.int .i64 x.id, .int .i64 x.r, .int .u32 (x.ad : Nat), .int .i64 x.ln, .int .i64 x.cp] 83)) = .ok (.tuple #[.agg #[.int .i64 0, .int .i64 0, .bool false], .bool false]) (W2.alloc (.cells #[.int .i64 x.id, .int .i64 x.r, .int .u32 (x.ad : Nat), .int .i64 x.ln, .int .i64 x.cp] 83)) := hlk
      clear hlk hS
      go_wp2_with (with_reducible refine halt_store 52 (x := .tmp 4) rfl ?_)
      refine Halted.go ?_
      generalize W2.alloc (.cells #[.int .i64 x.id, .int .i64 x.r, .int .u32 (x.ad : Nat), .int .i64 x.ln, .int .i64 x.cp] 83) = W3 at *
      have hal3 := (Below.refl W3.heap.size W3).alloc (Nat.le_refl _) (.cells #[.int .i64 0, .int .i64 0, .bool false] 52)
      refine store_whole rfl 52 _ _ rfl w.heap.size #[.int .i64 id, .int .i64 x.cp, .bool false] rfl rfl (hold F2.out.2.1) rfl (by kernel_rfl) (by simp [Value.oneCell']) ?_
      intro Wz hwz hsz
      have HZ := Lib.hid (And.intro hwz (Below.trans (bcall F2.out.1 (Nat.le_refl _) hal3) (hsz.below (Nat.le_refl _))))
      clear hwz hsz hal3
      go_wp2_with fail
      refine ret_cell2 rfl rfl rfl HZ.out.1 Try.underlying52 rfl (by kernel_rfl) ?_
      exact ⟨rfl, HZ.out.2⟩
end Go.Proofs.Ytgainkgbodmciaa
/- append onto a slice that is full: what it gives lies in a new block. -/
namespace Go.Proofs.Ytgainkgbodmciaa
open Go Go.RowKit
namespace Rep
variable {α : Type} [Inhabited α] {R : Rep α} {P : Program} {ops : Array Oper} {rest : List Oper} {o : Oper} {a : Act} {Q : Exit → Act → World → Prop} {w : World}
theorem run_append_cut {t ty : TypeId} {bytes : Nat} (hT : Ty P t R bytes) {sa : Option Addr} {k : Nat} {L : List α} (hL : R.Sl w sa k k L) {sb : Option Addr} {m c : Nat} {M : List α} (hM : R.Sl w sb m c M) (h0 : 0 < m)
    (hmax : k + m ≤ maxLen) (hbytes : (k + m) * bytes ≤ 140737488355328) :
    ∃ v' w', (Builtin.append_ #[t, t] ty #[.slice sa k k, .slice sb m c]).run P w = .ok v' w' ∧ R.Own w' w.heap.size v' (L ++ M) ∧ Below w.heap.size w w' := by
  obtain ⟨b, off, rfl, hr⟩ := hM.row h0
  cases sa with
  | none =>
    have hk : k = 0 := by
      rcases Nat.eq_zero_or_pos k with h | h
      · exact h
      · obtain ⟨_, _, e, _⟩ := hL.row h; cases e
    subst hk
    obtain rfl : L = [] := List.length_eq_zero_iff.1 hL.len.symm
    obtain ⟨v', w', e1, e2, e3, _⟩ := run_append_list (ty := ty) hT (Own.nil (R := R) w w.heap.size) hM (fun h => by cases h) (by simpa using hmax) (by simpa using hbytes) (Nat.le_refl _)
    exact ⟨v', w', e1, e2, e3⟩
  | some ad =>
    obtain ⟨i, z, h1, h2, h3, h4, h5⟩ := hT.hi
    have holds : ∀ j u, (R.flat L)[j]? = some u → w.cell? (ad.add j) = some u := by
      rcases Nat.eq_zero_or_pos k with hk | hk
      · obtain rfl : L = [] := List.length_eq_zero_iff.1 (hL.len.symm.trans hk)
        intro j u hu; simp [flat] at hu
      · obtain ⟨b', o', e, hr'⟩ := hL.row hk
        cases e
        exact news_of_row hr'
    have hsmall : k + m ≤ 9223372036854775807 := by simp only [maxLen] at hmax; omega
    have hlo : (R.flat L).length = k * i.size := by rw [R.flat_length, ← hL.len, h3]
    have hln : (R.flat M).length = m * i.size := by rw [R.flat_length, ← hM.len, h3]
    have hrun := run_append_grow (P := P) w t ty R.T i z hT.ht h1 h2 ad k k (R.flat L) hlo holds ⟨b, off, none⟩ m c (R.flat M) hln (news_of_row hr) (by omega) (by omega) (growslice_fits (by omega) (by rw [h4]; exact hbytes))
    have hge := grownCap_ge w (k + m) k R.T
    have hcm : grownCap w (k + m) k R.T ≤ maxLen := grownCap_le_maxLen w (k + m) k R.T hmax
    refine ⟨_, _, hrun, ?_, ((Below.refl w.heap.size w).drew).alloc (Nat.le_refl _) _⟩
    show World.ownsRow _ _ R.T R.k _ (L ++ M).length (R.flat (L ++ M))
    rw [R.flat_append, List.length_append, ← hL.len, ← hM.len]
    refine ⟨by rw [List.length_append, hlo, hln, h3, Nat.add_mul], .inr ⟨w.heap.size, _, _, rfl, Nat.le_refl _, hnew w.drew _, hge, hcm, ?_, ?_⟩⟩
    · simp only [Array.size_append, List.size_toArray, size_zeroCells, h5, hlo, hln, h3, ← Nat.add_mul]
      congr 1
      omega
    · simp only [Array.toList_append, List.append_assoc]
      rw [← List.append_assoc]
      have e : (k + m) * R.k = (R.flat L ++ R.flat M).length := by rw [List.length_append, hlo, hln, h3, Nat.add_mul]
      rw [e]
      exact List.take_left
theorem sl_one {b c : Nat} {y : α} {T : TypeId} {fr : Nat × Nat} (h : w.heap[b]? = some (.cells (R.cells y).toArray T fr)) : R.Sl w (some ⟨b, 0, none⟩) 1 c [y] :=
  ⟨rfl, by unfold maxLen; omega, fun _ => ⟨b, 0, rfl, lt_of_blk h, fun i hi j hj => by
    obtain rfl : i = 0 := by simp at hi; exact hi
    rw [Nat.zero_mul, Nat.zero_add]
    have hs : j < (R.cells y).toArray.size := by simp [R.len, hj]
    rw [cell_of h (Array.getElem?_eq_getElem hs)]
    simp [List.getElem?_eq_getElem (show j < (R.cells y).length by rw [R.len]; exact hj)]⟩⟩
theorem sl_nil {a : Option Addr} {c : Nat} : R.Sl w a 0 c [] := ⟨rfl, by unfold maxLen; omega, fun h => absurd h (Nat.lt_irrefl _)⟩
theorem own_empty {b base : Nat} (h : w.heap[b]? = some (.cells #[] R.T (0, 0))) (hb : base ≤ b) : R.Own w base (.slice (some ⟨b, 0, none⟩) 0 0) [] :=
  ⟨by simp [flat], .inr ⟨b, 0, #[], rfl, hb, h, Nat.le_refl _, by unfold maxLen; omega, by simp, by simp [flat]⟩⟩
theorem Own.sl0 {base : Nat} {v : Value} {L : List α} (h : R.Own w base v L) : ∃ a c, v = .slice a L.length c ∧ R.Sl w a L.length c L ∧ (a = none → c = 0) := by
  rcases h.cases with ⟨rfl, rfl⟩ | ⟨g, cap, rfl, hg, hl, h1, h2, hr, -⟩
  · exact ⟨none, 0, rfl, sl_nil, fun _ => rfl⟩
  · exact ⟨some ⟨g, 0, none⟩, cap, rfl, ⟨rfl, by omega, fun _ => ⟨g, 0, rfl, hr⟩⟩, fun e => by cases e⟩
theorem append_cut {t : TypeId} {bytes : Nat} (hT : Ty P t R bytes) (hgd : o.guard = none) (s x : Operand) (ho : o.op = .call { callee := .builtin .append, args := #[s, x], argTypes := #[t, t] })
    {sa : Option Addr} {k : Nat} {L : List α} (hs : a.eval s = .slice sa k k) (hL : R.Sl w sa k k L) {sb : Option Addr} {m c : Nat} {M : List α} (hx : a.eval x = .slice sb m c) (hM : R.Sl w sb m c M) (h0 : 0 < m)
    (hmax : k + m ≤ maxLen) (hbytes : (k + m) * bytes ≤ 140737488355328)
    (h : ∀ v' w', R.Own w' w.heap.size v' (L ++ M) → Below w.heap.size w w' → wpList P ops Q rest (a.put o.dst v') w') : wpList P ops Q (o :: rest) a w :=
  wpList_plain hgd fun K hK => by
    obtain ⟨v', w', e1, e2, e3⟩ := run_append_cut hT hL hM h0 hmax hbytes (ty := o.type)
    have hk := hK _ _ (h v' w' e2 e3)
    unfold Oper.wp execOp
    simp only [ho, resolve, invoke, builtin, Sem.run_bind, Sem.run_pure, Result.andThen_ok, List.map_toArray, List.map_cons, List.map_nil, hs, hx, e1]
    exact hk
end Rep
end Go.Proofs.Ytgainkgbodmciaa
