/- hop.New of good ones. -/
import Derived.Test.YtlkbaplfffbmkaaHg
import Derived.Test.YtlkbaplfffbmkaaPy
namespace Go.Proofs.Ytlkbaplfffbmkaa
open Go.RowKit
open Go.ChangeMaps (setBlock)

set_option maxRecDepth 100000 in
set_option maxHeartbeats 2000000 in
theorem hnew_ok {w : World} {oa : Option Addr} {n c : Nat} {l : List If} (h : Ifs w oa n c l) (hg : Good l) : Calls Try.prog 11 #[.slice oa n c] w fun e w' => ∃ hb, e = .returned (.tuple #[.pointer (some ⟨hb, 0, none⟩), .int .i64 0]) ∧ HopsAt w' hb (hdOf l) ∧ Below w.heap.size w w' := by
  have HL := Lib.hid h.sl.len
  have HK := Lib.hid (hcheck_ok h hg)
  have F := Lib.hid h
  have HG := Lib.hid hg
  have hmax := h.sl.max
  have h256 : n ≤ 256 := by have h1 := hg.len; have h2 := h.sl.len; omega
  clear h hg
  have hmm := @run_makeMap Try.prog
  go_enter Try.func11, Try.ntmps11
  go_wp2_with fail
  refine (HK.out).mono ?_
  rintro e W ⟨rfl, hbW⟩
  have F0 := Lib.hid (And.intro hbW (F.out.keep hbW))
  have m3 : MR.MapAt IN ((W.alloc (.map #[] 0)).alloc (.cells (partCells W.heap.size (fun _ => 0) 0) 80)) W.heap.size [] 0 := MR.mapAt_made IN (hold (hnew _ _))
  have H0 : HopsN w.heap.size ((W.alloc (.map #[] 0)).alloc (.cells (partCells W.heap.size (fun _ => 0) 0) 80)) (W.heap.size + 1) W.heap.size 0 0 hd0 0 [] (fun _ => 0) (fun _ _ _ => none) (fun _ => 0) :=
    ⟨by have := hbW.size; omega, hbW.size, by omega, hnewAt (by simp), m3, fun _ => rfl, fun i hi => by omega, fun _ => Nat.le_refl _, fun i j hi => by omega, fun i hi => by omega, fun i a d v e => by cases e⟩
  have hbb : Below w.heap.size w ((W.alloc (.map #[] 0)).alloc (.cells (partCells W.heap.size (fun _ => 0) 0) 80)) := (hbW.alloc hbW.size _).alloc (by have := hbW.size; simp; omega) _
  have G := Lib.hid (And.intro H0 hbb)
  clear m3 H0 hbb hbW HK
  go_wp2_with fail
  have l0 := hmm
  clear l0 hmm
  go_loopw [17] (fun iv wr => ∃ (i : Nat) (b : Nat → Nat) (N : Nat → Nat → Nat → Option Nat) (m : Nat → Nat), i ≤ 16 ∧ iv = .int .i64 i ∧ HopsN w.heap.size wr (W.heap.size + 1) W.heap.size i 0 hd0 0 [] b N m ∧ Below w.heap.size w wr) (fun iv _ => 16 - (intOf iv).toNat)
  case atStart => exact ⟨0, _, _, _, Nat.zero_le _, rfl, G.out.1, G.out.2⟩
  case round =>
    obtain ⟨i, b, N, m, hi, rfl, hH, hb⟩ := hrel
    obtain ⟨w2, rfl⟩ : ∃ w2 : World, w2 = wr := ⟨_, rfl⟩
    by_cases hlt : i < 16
    · have hil : ((i : Int) < 16) = True := by simp; omega
      have hiz : ((i : Int) < 0) = False := by simp
      have hw3 := wrapS hlt (by decide)
      have H2 := Lib.hid (And.intro hH hb)
      clear hH hb
      go_wp2_with fail
      refine wp_region_heldP (fun _ => True) (by kernel_rfl) ?_
      refine held_reads [0, 1] (g := 5) rfl (by kernel_rfl) trivial (fun _ _ d _ _ h => by cases d <;> exact h) ?_
      simp only [pick, List.getD_cons_zero, List.getD_cons_succ]
      iterate 2 ((with_reducible refine wpRead_step (fun K hK => ?_)); go_simp; first | ((with_reducible refine hK _ ?_); clear hK K) | (apply Exists.intro; (with_reducible refine ⟨fun w' hw' => ?_, hK _ ?_⟩); (skip; go_simp; first | exact rfl | exact ⟨rfl, rfl⟩); clear hK K))
      with_reducible refine wpRead_nil ?_
      have hd := (Below.refl w2.heap.size w2).drew
      have H2 := Lib.hid (And.intro (H2.out.1.keep hd) (bcall H2.out.2 (Nat.le_refl _) hd))
      clear hd
      generalize w2.drew = w3 at *
      refine held_two 2 3 (by kernel_rfl) ?_ ?_
      · simp only [pick, List.getD_cons_zero, List.getD_cons_succ]
        go_wp2_with fail
        refine (newI_any w3).mono ?_
        rintro e W2 ⟨rfl, hT, hb2⟩
        have c0 : W2.cell? ⟨W.heap.size + 1, 1 + i, none⟩ = some (.pointer none) := cell_of (H2.out.1.keep hb2).cell (by rw [HopsN.part_nth _ _ _ hlt, if_neg (Nat.lt_irrefl _)])
        have f0 : W2.frozen? ⟨W.heap.size + 1, 1 + i, none⟩ = false := free_of (H2.out.1.keep hb2).cell
        have hs := (SetB.self (H2.out.1.keep hb2).cell).store (o := 1 + i) (lt_of_blk (H2.out.1.keep hb2).cell) (.pointer (some ⟨w3.heap.size + 1, 0, none⟩))
        have hB2 : w.heap.size ≤ w3.heap.size := H2.out.2.size
        have H3 := Lib.hid (And.intro (H2.out.1.grow hlt hb2 hB2 hT rfl hs) (Below.trans (bcall H2.out.2 (Nat.le_refl _) hb2) (hs.below H2.out.1.hB)))
        clear hs hB2 hT hb2
        go_wp2_with fail
        refine ⟨trivial, ?_⟩
        refine held_reads [3, 4, 5] (g := 1) rfl (by kernel_rfl) trivial (fun _ _ d _ _ h => by cases d <;> exact h) ?_
        simp only [pick, List.getD_cons_zero, List.getD_cons_succ]
        iterate 3 ((with_reducible refine wpRead_step (fun K hK => ?_)); go_simp; first | ((with_reducible refine hK _ ?_); clear hK K) | (apply Exists.intro; (with_reducible refine ⟨fun w' hw' => ?_, hK _ ?_⟩); (skip; go_simp; first | exact rfl | exact ⟨rfl, rfl⟩); clear hK K))
        with_reducible refine wpRead_nil ?_
        refine held_one 6 (by kernel_rfl) ?_
        simp only [pick, List.getD_cons_zero, List.getD_cons_succ]
        go_wp2_with fail
        refine ⟨trivial, ?_⟩
        refine wpAnyH_done (by kernel_rfl) ?_ _
        go_wp2_with fail
        exact ⟨⟨i + 1, _, _, _, hlt, by first | rw [hw3] | rw [Int.natCast_succ], H3.out.1, H3.out.2⟩, by first | (rw [hw3]; exact mSucc hlt) | (rw [← Int.natCast_succ]; exact mSucc hlt)⟩
      · simp only [pick, List.getD_cons_zero, List.getD_cons_succ]
        go_wp2_with fail
        refine ⟨trivial, ?_⟩
        refine held_reads [4] (g := 3) rfl (by kernel_rfl) trivial (fun _ _ d _ _ h => by cases d <;> exact h) ?_
        simp only [pick, List.getD_cons_zero, List.getD_cons_succ]
        iterate 1 ((with_reducible refine wpRead_step (fun K hK => ?_)); go_simp; first | ((with_reducible refine hK _ ?_); clear hK K) | (apply Exists.intro; (with_reducible refine ⟨fun w' hw' => ?_, hK _ ?_⟩); (skip; go_simp; first | exact rfl | exact ⟨rfl, rfl⟩); clear hK K))
        with_reducible refine wpRead_nil ?_
        refine held_one 2 (by kernel_rfl) ?_
        simp only [pick, List.getD_cons_zero, List.getD_cons_succ]
        go_wp2_with fail
        refine (newI_any w3).mono ?_
        rintro e W2 ⟨rfl, hT, hb2⟩
        have c0 : W2.cell? ⟨W.heap.size + 1, 1 + i, none⟩ = some (.pointer none) := cell_of (H2.out.1.keep hb2).cell (by rw [HopsN.part_nth _ _ _ hlt, if_neg (Nat.lt_irrefl _)])
        have f0 : W2.frozen? ⟨W.heap.size + 1, 1 + i, none⟩ = false := free_of (H2.out.1.keep hb2).cell
        have hs := (SetB.self (H2.out.1.keep hb2).cell).store (o := 1 + i) (lt_of_blk (H2.out.1.keep hb2).cell) (.pointer (some ⟨w3.heap.size + 1, 0, none⟩))
        have hB2 : w.heap.size ≤ w3.heap.size := H2.out.2.size
        have H3 := Lib.hid (And.intro (H2.out.1.grow hlt hb2 hB2 hT rfl hs) (Below.trans (bcall H2.out.2 (Nat.le_refl _) hb2) (hs.below H2.out.1.hB)))
        clear hs hB2 hT hb2
        go_wp2_with fail
        refine ⟨trivial, ?_⟩
        refine held_reads [5] (g := 1) rfl (by kernel_rfl) trivial (fun _ _ d _ _ h => by cases d <;> exact h) ?_
        simp only [pick, List.getD_cons_zero, List.getD_cons_succ]
        iterate 1 ((with_reducible refine wpRead_step (fun K hK => ?_)); go_simp; first | ((with_reducible refine hK _ ?_); clear hK K) | (apply Exists.intro; (with_reducible refine ⟨fun w' hw' => ?_, hK _ ?_⟩); (skip; go_simp; first | exact rfl | exact ⟨rfl, rfl⟩); clear hK K))
        with_reducible refine wpRead_nil ?_
        refine held_one 6 (by kernel_rfl) ?_
        simp only [pick, List.getD_cons_zero, List.getD_cons_succ]
        go_wp2_with fail
        refine ⟨trivial, ?_⟩
        refine wpAnyH_done (by kernel_rfl) ?_ _
        go_wp2_with fail
        exact ⟨⟨i + 1, _, _, _, hlt, by first | rw [hw3] | rw [Int.natCast_succ], H3.out.1, H3.out.2⟩, by first | (rw [hw3]; exact mSucc hlt) | (rw [← Int.natCast_succ]; exact mSucc hlt)⟩
    · obtain rfl : i = 16 := by omega
      rw [show ((16 : Nat) : Int) = 16 from rfl]
      have H2 := Lib.hid (And.intro hH hb)
      clear hH hb G
      go_wp2_with fail
      have hK := H2.out.2.size
      go_loopw [29] (fun iv wr => ∃ (i clk : Nat) (es : List (MR.Ent Int)) (b : Nat → Nat) (N : Nat → Nat → Nat → Option Nat) (m : Nat → Nat), i ≤ n ∧ iv = .int .i64 i ∧ HopsN w.heap.size wr (W.heap.size + 1) W.heap.size 16 i (hdOf (l.take i)) clk es b N m ∧ Below w.heap.size w wr) (fun iv _ => n - (intOf iv).toNat)
      case atStart => exact ⟨0, 0, _, _, _, _, Nat.zero_le _, rfl, H2.out.1, H2.out.2⟩
      case round =>
        clear H2 b N m
        obtain ⟨i, clk, es, b, N, m, hi, rfl, hH, hb⟩ := hrel
        obtain ⟨w2, rfl⟩ : ∃ w2 : World, w2 = wr := ⟨_, rfl⟩
        by_cases hlt : i < n
        · have hil : ((i : Int) < (n : Int)) = True := by simp; omega
          have hw3 := wrapS hlt hmax
          have hlen : l.length = n := HL.out.symm
          obtain ⟨b0, o0, rfl, hbb, hat⟩ := (F.out.keep hb).sl.at hlt
          have c0 := hat 0 (by decide)
          have c1 := hat 1 (by decide)
          have c2 := hat 2 (by decide)
          have c3' := hat 3 (by decide)
          have c4' := hat 4 (by decide)
          simp only [RIf, Nat.add_zero, List.getElem?_cons_zero, List.getElem?_cons_succ] at c0 c1 c2 c3' c4'
          obtain ⟨hx1, hx2, hx3, hx4, hx5, hx6, hx7⟩ := okI_iff.1 (HG.out.ok _ (getD_mem (i := i) (by omega)))
          have hbd := (okI_bd (HG.out.ok _ (getD_mem (i := i) (by omega)))).1
          obtain ⟨hx8, hx9, -⟩ := okP_iff.1 hx5
          have hadx := F.out.ad _ (getD_mem (i := i) (by omega))
          have t1 := hdOf_succ (l := l) (i := i) (by omega)
          generalize l.getD i default = x at *
          obtain ⟨id, r, ad, ln, cp⟩ := x
          dsimp only at *
          obtain ⟨ρ, rfl⟩ : ∃ ρ : Nat, r = ρ := ⟨r.toNat, by omega⟩
          obtain ⟨d, rfl⟩ : ∃ d : Nat, ln = d := ⟨ln.toNat, by omega⟩
          have hρ : ρ < 16 := by omega
          have hr1 : ((ρ : Int) < 16) = True := by simp; omega
          have hr0 : ((0 : Int) ≤ (ρ : Int)) = True := by simp
          have hal := ((Below.refl w2.heap.size w2).alloc (Nat.le_refl _) (.cells #[.int .i64 id, .int .i64 (ρ : Nat), .int .u32 (ad : Nat), .int .i64 (d : Nat), .int .i64 cp] 34)).drew
          have hxs : IfS w2.heap.size ⟨id, ρ, ad, d, cp⟩ (w2.alloc (.cells #[.int .i64 id, .int .i64 (ρ : Nat), .int .u32 (ad : Nat), .int .i64 (d : Nat), .int .i64 cp] 34)).drew := hnew _ _
          have H1 := hH.keep hal
          have lm := lt_of_blk hH.map.blk
          have lh := lt_of_blk hH.cell
          obtain ⟨O1, hO1⟩ : ∃ O, O = Obj.map (MR.ents IN.enc (MR.put es id (If.v ⟨id, ρ, ad, d, cp⟩) clk)).toArray (MR.clock' es id clk) := ⟨_, rfl⟩
          have hu1 : (Instr.mapUpdate 76 (.map (some W.heap.size)) (.int .i64 id) (.agg #[.int .i64 id, .int .i64 (ρ : Nat), .int .u32 (ad : Nat), .int .i64 (d : Nat), .int .i64 cp])).run Try.prog (w2.alloc (.cells #[.int .i64 id, .int .i64 (ρ : Nat), .int .u32 (ad : Nat), .int .i64 (d : Nat), .int .i64 cp] 34)).drew = .ok () (setBlock (w2.alloc (.cells #[.int .i64 id, .int .i64 (ρ : Nat), .int .u32 (ad : Nat), .int .i64 (d : Nat), .int .i64 cp] 34)).drew W.heap.size O1) := by rw [hO1]; exact (MR.run_update IN H1.map hbd Try.underlying76 (If.v ⟨id, ρ, ad, d, cp⟩)).1
          have hm1 : MR.MapAt IN (setBlock (w2.alloc (.cells #[.int .i64 id, .int .i64 (ρ : Nat), .int .u32 (ad : Nat), .int .i64 (d : Nat), .int .i64 cp] 34)).drew W.heap.size O1).drew W.heap.size (MR.put es id (If.v ⟨id, ρ, ad, d, cp⟩) clk) (MR.clock' es id clk) := by rw [hO1]; exact (MR.run_update IN H1.map hbd Try.underlying76 (If.v ⟨id, ρ, ad, d, cp⟩)).2.blk_iff IN rfl
          have hxs2 : IfS w2.heap.size ⟨id, ρ, ad, d, cp⟩ (setBlock (w2.alloc (.cells #[.int .i64 id, .int .i64 (ρ : Nat), .int .u32 (ad : Nat), .int .i64 (d : Nat), .int .i64 cp] 34)).drew W.heap.size O1).drew := (setBlock_other (by omega)).trans hxs
          have hT : TrieI (setBlock (w2.alloc (.cells #[.int .i64 id, .int .i64 (ρ : Nat), .int .u32 (ad : Nat), .int .i64 (d : Nat), .int .i64 cp] 34)).drew W.heap.size O1).drew (b ρ) (N ρ) (m ρ) ((hdOf (l.take i)).M ρ) := (H1.tr ρ hρ).keep fun y hy => setBlock_other (H1.free ρ hρ y hy).2.1
          have HS := Lib.hid (setI_any hT ad d hadx hx5 (by have := H1.nn ρ; omega) id)
          have k0 : (w2.alloc (.cells #[.int .i64 id, .int .i64 (ρ : Nat), .int .u32 (ad : Nat), .int .i64 (d : Nat), .int .i64 cp] 34)).drew.cell? ⟨W.heap.size + 1, 0, none⟩ = some (.map (some W.heap.size)) := cell_of H1.cell rfl
          have k1 : (setBlock (w2.alloc (.cells #[.int .i64 id, .int .i64 (ρ : Nat), .int .u32 (ad : Nat), .int .i64 (d : Nat), .int .i64 cp] 34)).drew W.heap.size O1).drew.cell? ⟨W.heap.size + 1, 1 + ρ, none⟩ = some (.pointer (some ⟨b ρ, 0, none⟩)) := cell_of ((setBlock_other H1.ne).trans H1.cell) (by rw [HopsN.part_nth _ _ _ hρ, if_pos hρ])
          have hbc : Below w.heap.size w (setBlock (w2.alloc (.cells #[.int .i64 id, .int .i64 (ρ : Nat), .int .u32 (ad : Nat), .int .i64 (d : Nat), .int .i64 cp] 34)).drew W.heap.size O1).drew := (below_setBlock (bcall hb (Nat.le_refl _) hal) H1.mB).drew
          have H := Lib.hid (And.intro H1 (And.intro hm1 (And.intro hbc (And.intro hbd (And.intro hρ t1)))))
          have hsz : (setBlock (w2.alloc (.cells #[.int .i64 id, .int .i64 (ρ : Nat), .int .u32 (ad : Nat), .int .i64 (d : Nat), .int .i64 cp] 34)).drew W.heap.size O1).drew.heap.size = (w2.alloc (.cells #[.int .i64 id, .int .i64 (ρ : Nat), .int .u32 (ad : Nat), .int .i64 (d : Nat), .int .i64 cp] 34)).drew.heap.size := by simp [setBlock]
          have HZ := Lib.hid hsz
          obtain ⟨z0, z1, z2, z3, z4⟩ := hxs.cells
          obtain ⟨y0, y1, y2, y3, y4⟩ := hxs2.cells
          clear hO1 hm1 hbc hT H1 hH hb hal hxs hxs2 hbd t1 hat hlen hadx hx1 hx2 hx3 hx4 hx5 hx6 hx7 hx8 hx9 hsz
          unfold pfx at HS
          dsimp only at *
          go_wp2_with fail
          refine wp_region_pieces (by kernel_rfl) ?_
          refine wpAny_seg (fun w' => w' = (w2.alloc (.cells #[.int .i64 id, .int .i64 (ρ : Nat), .int .u32 (ad : Nat), .int .i64 (d : Nat), .int .i64 cp] 34)).drew) [0, 1, 2, 3, 4, 5, 6] (g := 1) rfl (by kernel_rfl) rfl ?_
          simp only [pick, List.getD_cons_zero, List.getD_cons_succ]
          iterate 7 ((with_reducible refine wpQuiet_step (fun K hK => ?_)); go_simp; first | ((with_reducible refine hK _ ?_); clear hK K) | (apply Exists.intro; (with_reducible refine ⟨fun w' hw' => ?_, hK _ ?_⟩); (subst hw'; go_simp; first | exact rfl | exact ⟨rfl, rfl⟩); clear hK K))
          refine wpQuiet_nil ?_
          rintro _ rfl
          refine wpAny_one 7 (by kernel_rfl) ?_
          simp only [pick, List.getD_cons_zero, List.getD_cons_succ]
          go_wp2_with fail
          refine wpAny_done (by kernel_rfl) ?_ _
          go_wp2_with fail
          refine wp_region_pieces (by kernel_rfl) ?_
          refine wpAny_seg (fun w' => w' = (setBlock (w2.alloc (.cells #[.int .i64 id, .int .i64 (ρ : Nat), .int .u32 (ad : Nat), .int .i64 (d : Nat), .int .i64 cp] 34)).drew W.heap.size O1).drew) [0, 1, 2, 3, 4, 5, 6, 7, 8, 9, 10] (g := 1) rfl (by kernel_rfl) rfl ?_
          simp only [pick, List.getD_cons_zero, List.getD_cons_succ]
          iterate 11 ((with_reducible refine wpQuiet_step (fun K hK => ?_)); go_simp; first | ((with_reducible refine hK _ ?_); clear hK K) | (apply Exists.intro; (with_reducible refine ⟨fun w' hw' => ?_, hK _ ?_⟩); (subst hw'; go_simp; first | exact rfl | exact ⟨rfl, rfl⟩); clear hK K))
          refine wpQuiet_nil ?_
          rintro _ rfl
          refine wpAny_one 11 (by kernel_rfl) ?_
          simp only [pick, List.getD_cons_zero, List.getD_cons_succ]
          go_wp2_with fail
          refine (HS.out).mono ?_
          rintro e W2 ⟨rfl, N', hT', hmv⟩
          have H5 := H.out.1.put (x := ⟨id, ρ, ad, d, cp⟩) (Nat.le_trans H.out.1.hB (Nat.le_of_lt (lt_of_blk H.out.1.cell))) H.out.2.2.2.2.1 H.out.2.2.2.1 H.out.2.1 (fun j hj => setBlock_other hj) hT' HZ.out hmv
          rw [← H.out.2.2.2.2.2] at H5
          have H6 := Lib.hid (And.intro H5 (Below.trans H.out.2.2.1 (hmv.below H.out.2.2.1.size fun k hk => (H.out.1.free _ H.out.2.2.2.2.1 k hk).2.2)))
          clear H5 hT' hmv H HS HZ
          go_wp2_with fail
          refine wpAny_done (by kernel_rfl) ?_ _
          go_wp2_with fail
          go_roundw
          case rel => exact ⟨i + 1, _, _, _, _, _, hlt, by first | rw [hw3] | rw [Int.natCast_succ], H6.out.1, H6.out.2⟩
          case measure => first | (rw [hw3]; exact mSucc hlt) | (rw [← Int.natCast_succ]; exact mSucc hlt)
        · obtain rfl : n = i := by omega
          have hil : ((n : Int) < (n : Int)) = False := by simp
          have hH2 := hH.hops
          rw [List.take_of_length_le (by rw [HL.out]; exact Nat.le_refl _)] at hH2
          have H6 := Lib.hid (And.intro hH2 hb)
          clear hH hb hH2
          go_wp2_with fail
          go_ret2
          exact ⟨_, rfl, H6.out.1, H6.out.2⟩
end Go.Proofs.Ytlkbaplfffbmkaa
