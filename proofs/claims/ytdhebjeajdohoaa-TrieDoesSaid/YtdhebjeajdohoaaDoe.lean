/-
  Proved: 'bypathlaw13.TrieDoes' returns true for every input and leaves its arguments as they were. No conditions.
-/
import Derived.Test.YtdhebjeajdohoaaAl
namespace Go.Proofs.Ytdhebjeajdohoaa
open Go.ChangeShapes Go.WideShapes Go.ChangeAt Go.RowKit Go.Deep

/-- a call that comes in -/
def RD : Rep (Int × (Nat × Int) × Int) := ⟨34, 4, by decide, fun x => [.int .i64 x.1, .int .u32 x.2.1.1, .int .i64 x.2.1.2, .int .i64 x.2.2], fun _ => rfl, fun _ => rfl⟩
def okD (x : Int × (Nat × Int) × Int) : Prop := I3 x.1 ∧ okQ x.2.1 ∧ I3 x.2.2
theorem reads32' : Reads Try.prog 32 (fun x : Nat × Int => [.int .u32 x.1, .int .i64 x.2]) (fun _ x => okQ x) := reads32
set_option maxRecDepth 100000 in
theorem reads34 : Reads Try.prog 34 (RD.cells) (fun _ x => okD x) :=
  ⟨fun {H enc w spare held fuel cs x} h => by
    obtain ⟨hl, hf⟩ := Reads.fields Try.underlying34 h
    rw [show Try.prog.cellsOf 34 = 4 by kernel_rfl] at hl
    obtain ⟨c0, c1, c2, c3, rfl⟩ : ∃ c0 c1 c2 c3, cs = [c0, c1, c2, c3] := by
      match cs, hl with
      | [c0, c1, c2, c3], _ => exact ⟨c0, c1, c2, c3, rfl⟩
    obtain ⟨n0, y0, h0⟩ := hf 0 _ rfl
    have h0 : DataW.trod enc Try.prog w 0 spare held n0 3 [c0] = some y0 := by
      have q : Try.prog.cellsOf 3 = 1 := by kernel_rfl
      have z : DataW.trod enc Try.prog w 0 spare held n0 3 (([c0, c1, c2, c3].drop 0).take (Try.prog.cellsOf 3)) = some y0 := h0
      rw [q] at z; exact z
    obtain ⟨a0, e0, k0⟩ := (reads3).read h0
    obtain ⟨n1, y1, h1⟩ := hf 1 _ rfl
    have h1 : DataW.trod enc Try.prog w 0 spare held n1 32 [c1, c2] = some y1 := by
      have q : Try.prog.cellsOf 32 = 2 := by kernel_rfl
      have z : DataW.trod enc Try.prog w 0 spare held n1 32 (([c0, c1, c2, c3].drop 1).take (Try.prog.cellsOf 32)) = some y1 := h1
      rw [q] at z; exact z
    obtain ⟨a1, e1, k1⟩ := (reads32').read h1
    obtain ⟨n2, y2, h2⟩ := hf 2 _ rfl
    have h2 : DataW.trod enc Try.prog w 0 spare held n2 3 [c3] = some y2 := by
      have q : Try.prog.cellsOf 3 = 1 := by kernel_rfl
      have z : DataW.trod enc Try.prog w 0 spare held n2 3 (([c0, c1, c2, c3].drop 3).take (Try.prog.cellsOf 3)) = some y2 := h2
      rw [q] at z; exact z
    obtain ⟨a2, e2, k2⟩ := (reads3).read h2
    simp only [List.cons.injEq, and_true] at e0 e1 e2
    subst e0
    obtain ⟨rfl, rfl⟩ := e1
    subst e2
    exact ⟨(a0, a1, a2), rfl, ⟨k0, k1, k2⟩⟩⟩
theorem reads22 : Reads Try.prog 22 (fun s : SlV (Int × (Nat × Int) × Int) => [.slice s.a s.n s.c]) (SlOk RD fun _ x => okD x) := Reads.slice (R := RD) Try.underlying22 (by kernel_rfl) reads34
theorem rd_cells {w : World} {b o : Nat} {x : Int × (Nat × Int) × Int} (h : RD.At w b o x) : w.cell? ⟨b, o, none⟩ = some (.int .i64 x.1) ∧ w.cell? ⟨b, o + 1, none⟩ = some (.int .u32 x.2.1.1) ∧ w.cell? ⟨b, o + 2, none⟩ = some (.int .i64 x.2.1.2) ∧ w.cell? ⟨b, o + 3, none⟩ = some (.int .i64 x.2.2) := ⟨h 0 (by decide), h 1 (by decide), h 2 (by decide), h 3 (by decide)⟩
theorem getD_mem4 {α : Type} [Inhabited α] {M : List α} {i : Nat} (h : i < M.length) : M.getD i default ∈ M := by
  rw [List.getD_eq_getElem?_getD, List.getElem?_eq_getElem h]; exact List.getElem_mem _
/-- the call's own copy -/
def OpS (q : Nat) (x : Int × (Nat × Int) × Int) (w : World) : Prop := w.heap[q]? = some (.cells #[.int .i64 x.1, .int .u32 x.2.1.1, .int .i64 x.2.1.2, .int .i64 x.2.2] 34)
theorem OpS.cells {q : Nat} {x : Int × (Nat × Int) × Int} {w : World} (h : OpS q x w) : w.cell? ⟨q, 0, none⟩ = some (.int .i64 x.1) ∧ w.cell? ⟨q, 1, none⟩ = some (.int .u32 x.2.1.1) ∧ w.cell? ⟨q, 2, none⟩ = some (.int .i64 x.2.1.2) ∧ w.cell? ⟨q, 3, none⟩ = some (.int .i64 x.2.2) := ⟨cell_of h rfl, cell_of h rfl, cell_of h rfl, cell_of h rfl⟩
theorem OpS.on {q : Nat} {x : Int × (Nat × Int) × Int} {w w' : World} (h : OpS q x w) (hb : Below w.heap.size w w') : OpS q x w' := (hb.block _ (lt_of_blk h)).trans h
set_option maxRecDepth 100000 in
set_option maxHeartbeats 1000000 in
theorem does_law (oa : Option Addr) (n ca : Nat) (L : List (Int × (Nat × Int) × Int)) (a : Nat) (w : World) (hl : SlOk RD (fun _ x => okD x) w ⟨oa, n, ca, L⟩) (ha : a < 4294967296) : Calls Try.prog 3 #[.slice oa n ca, .int .u32 a] w fun e w' => e = .returned (.bool true) ∧ Below w.heap.size w w' := by
  have HA := Lib.hid (And.intro hl ha)
  clear hl ha
  go_enter Try.func3, Try.ntmps3
  go_wp2_with fail
  refine (newEI _).mono ?_
  rintro e w1 ⟨rfl, N0, ht1, hf1, hb1⟩
  have hGI : GI w (w.heap.size + 1) w1.heap.size (w1.alloc (.cells #[.slice none 0 0] 29)) N0 [] [] := by
    have hal := (Below.refl w1.heap.size w1).alloc (Nat.le_refl _) (.cells #[.slice none 0 0] 29)
    exact ⟨ht1.below hal, ⟨_, hnew _ _, Rep.Own.nil _ _, fun g h => by cases h⟩, fun hf => by have := ht1.lt hf; omega, hb1.size, hb1.trans (hal.mono hb1.size), hf1⟩
  generalize w.heap.size + 1 = b at *
  clear ht1 hf1 hb1
  go_wp2_with fail
  have hs2 : (w1.alloc (.cells #[.slice none 0 0] 29)).heap.size = w1.heap.size + 1 := by simp
  refine (lives_any _).mono ?_
  rintro e w2 ⟨rfl, hb2⟩
  have H2 := Lib.hid (hGI.on hb2)
  generalize w1.heap.size = c at *
  clear hGI hb2 hs2
  go_wp2_with fail
  go_loopw [7] (fun iv wr => ∃ (i : Nat) (N : Nat → Nat → Option Nat) (E : List ((Nat × Nat) × Int)), i ≤ n ∧ i ≤ 150 ∧ iv = .int .i64 i ∧ GI w b c wr N E E ∧ E.length ≤ i) (fun iv _ => 151 - (intOf iv).toNat)
  case atStart => exact ⟨0, N0, [], Nat.zero_le _, Nat.zero_le _, rfl, H2.out, Nat.le_refl _⟩
  case round =>
    obtain ⟨i, N, E, hi, hi2, rfl, hg, hE⟩ := hrel
    by_cases hlt : i < n ∧ i < 150
    · obtain ⟨hlt, hlt2⟩ := hlt
      obtain ⟨bb, oo, rfl, hbb, hat⟩ := HA.out.1.sl.at hlt
      have hok := HA.out.1.all (L.getD i default) (getD_mem4 (by rw [← HA.out.1.sl.len]; exact hlt))
      obtain ⟨c0, c1, c2, c3⟩ := rd_cells (hat.keep (hg.arg hbb))
      simp only [RD] at c0 c1 c2 c3
      generalize L.getD i default = x at *
      have hil : ((i : Int) < (n : Int)) = True := by simp; omega
      have hil2 : ((i : Int) < 150) = True := by simp; omega
      have hal := (Below.refl wr.heap.size wr).alloc (Nat.le_refl _) (.cells #[.int .i64 x.1, .int .u32 x.2.1.1, .int .i64 x.2.1.2, .int .i64 x.2.2] 34)
      have hop : OpS wr.heap.size x (wr.alloc (.cells #[.int .i64 x.1, .int .u32 x.2.1.1, .int .i64 x.2.1.2, .int .i64 x.2.2] 34)) := hnew _ _
      have hqf : ¬ foot b N wr.heap.size := fun hf => by have := hg.trie.lt hf; omega
      have hqc : wr.heap.size ≠ c := by obtain ⟨v, h1, -, -⟩ := hg.ref; have := lt_of_blk h1; omega
      have HG := Lib.hid (And.intro (hg.on hal) (And.intro hok (And.intro hop (And.intro hqf (And.intro hqc hE)))))
      clear hg hok hal hop hqf hqc hat hE
      have hcase : ((x.1 = 1) = True ∧ (x.1 == 1) = true) ∨ ((x.1 = 1) = False ∧ (x.1 = 2) = True ∧ (x.1 == 1) = false ∧ (x.1 == 2) = true) ∨ ((x.1 = 1) = False ∧ (x.1 = 2) = False ∧ (x.1 == 1) = false ∧ (x.1 == 2) = false) := by
        by_cases h1 : x.1 = 1
        · exact .inl ⟨by simp [h1], by simp [h1]⟩
        · by_cases h2 : x.1 = 2
          · exact .inr (.inl ⟨by simp [h1], by simp [h2], by simp [h1], by simp [h2]⟩)
          · exact .inr (.inr ⟨by simp [h1], by simp [h2], by simp [h1], by simp [h2]⟩)
      rcases hcase with ⟨hk1, hk2⟩ | ⟨hk1, hk2, hk3, hk4⟩ | ⟨hk1, hk2, hk3, hk4⟩
      · go_wp2_with fail
        refine wp_region_heldP (OpS wr.heap.size x) (by kernel_rfl) ?_
        have HQ := Lib.hid (And.intro (HG.out.1.on (Below.drew (Below.refl _ _))) (HG.out.2.2.1.on (Below.drew (Below.refl _ _))))
        generalize (wr.alloc (.cells #[.int .i64 x.1, .int .u32 x.2.1.1, .int .i64 x.2.1.2, .int .i64 x.2.2] 34)).drew = wq at *
        refine held_reads [0, 1, 2, 3, 4, 7, 8, 9, 10, 11] (g := 4) rfl (by kernel_rfl) HQ.out.2 (fun _ _ d _ _ h => by cases d <;> exact h) ?_
        simp only [pick, List.getD_cons_zero, List.getD_cons_succ]
        iterate 10 ((with_reducible refine wpRead_step (fun K hK => ?_)); go_simp; first | ((with_reducible refine hK _ ?_); clear hK K) | (apply Exists.intro; (with_reducible refine ⟨fun w' hw' => ?_, hK _ ?_⟩); (obtain ⟨f1, f2, f3, f4⟩ := hw'.cells; go_simp; first | exact rfl | exact ⟨rfl, rfl⟩); clear hK K))
        with_reducible refine wpRead_nil ?_
        refine held_one 5 (by kernel_rfl) ?_
        simp only [pick, List.getD_cons_zero, List.getD_cons_succ]
        have hset := setEI HQ.out.1.trie (by have := HG.out.2.2.2.2.2; omega) x.2.1.1 x.2.1.2 HG.out.2.1.2.1.1 x.2.2
        unfold pfx at hset
        obtain ⟨okv, hokv⟩ : ∃ okv, okv = okP x.2.1.1 x.2.1.2 := ⟨_, rfl⟩
        obtain ⟨rv, hrv⟩ : ∃ rv : Int, rv = if okP x.2.1.1 x.2.1.2 then 0 else 20 := ⟨_, rfl⟩
        rw [← hrv] at hset
        have hr1 : (rv == 0) = okv := by rw [hrv, hokv]; cases okP x.2.1.1 x.2.1.2 <;> rfl
        have hr2 : decide (rv = 0) = okv := by rw [hrv, hokv]; cases okP x.2.1.1 x.2.1.2 <;> rfl
        have HS := Lib.hid hset
        have HV := Lib.hid hokv
        clear hset hrv hokv
        go_wp2_with fail
        refine (HS.out).mono ?_
        rintro e w3 ⟨rfl, N3, ht3, hm3⟩
        have hg3 := HQ.out.1.tmove hm3 ht3
        have hq3 : OpS wr.heap.size x w3 := (hm3.same _ (lt_of_blk HQ.out.2) HG.out.2.2.2.1).trans HQ.out.2
        have hrs := rsetL_any hg3.refT (by have := HG.out.2.2.2.2.2; omega) x.2.1.1 x.2.1.2 HG.out.2.1.2.1.1 x.2.2
        unfold pfx at hrs
        rw [← HV.out] at hrs
        have HR := Lib.hid hrs
        have H3 := Lib.hid (And.intro hg3 hq3)
        clear HS HQ ht3 hm3 hg3 hq3 hrs
        go_wp2_with fail
        refine ⟨H3.out.2, ?_⟩
        refine held_reads [6] (g := 2) rfl (by kernel_rfl) H3.out.2 (fun _ _ d _ _ h => by cases d <;> exact h) ?_
        simp only [pick, List.getD_cons_zero, List.getD_cons_succ]
        iterate 1 ((with_reducible refine wpRead_step (fun K hK => ?_)); go_simp; first | ((with_reducible refine hK _ ?_); clear hK K) | (apply Exists.intro; (with_reducible refine ⟨fun w' hw' => ?_, hK _ ?_⟩); (obtain ⟨f1, f2, f3, f4⟩ := hw'.cells; go_simp; first | exact rfl | exact ⟨rfl, rfl⟩); clear hK K))
        with_reducible refine wpRead_nil ?_
        refine held_one 12 (by kernel_rfl) ?_
        simp only [pick, List.getD_cons_zero, List.getD_cons_succ]
        go_wp2_with fail
        refine (HR.out).mono ?_
        rintro e w4 ⟨rfl, hor⟩
        have hg4 : GI w b c w4 N3 (setL E x.2.1.1 x.2.1.2 x.2.2) (setL E x.2.1.1 x.2.1.2 x.2.2) ∧ OpS wr.heap.size x w4 := by
          rcases hor with ⟨-, h1, h2⟩ | ⟨h1, h2⟩
          · exact ⟨H3.out.1.rmove h1 h2, (h2.block _ (lt_of_blk H3.out.2) (by simpa using HG.out.2.2.2.2.1)).trans H3.out.2⟩
          · have he : setL E x.2.1.1 x.2.1.2 x.2.2 = E := by unfold setL; rw [← HV.out, h1]; rfl
            have h3 := H3.out.1.on h2
            rw [he] at h3 ⊢
            exact ⟨h3, H3.out.2.on h2⟩
        have hlen := setL_length E HG.out.1.trie.sorted x.2.1.1 x.2.1.2 x.2.2
        have H5 := Lib.hid (And.intro hg4.1 (And.intro hg4.2 (show (setL E x.2.1.1 x.2.1.2 x.2.2).length ≤ i + 1 by have := HG.out.2.2.2.2.2; omega)))
        clear HR H3 hor hg4 hlen
        go_wp2_with fail
        refine ⟨H5.out.2.1, ?_⟩
        refine held_reads [13] (g := 0) rfl (by kernel_rfl) H5.out.2.1 (fun _ _ d _ _ h => by cases d <;> exact h) ?_
        simp only [pick, List.getD_cons_zero, List.getD_cons_succ]
        iterate 1 ((with_reducible refine wpRead_step (fun K hK => ?_)); go_simp; first | ((with_reducible refine hK _ ?_); clear hK K) | (apply Exists.intro; (with_reducible refine ⟨fun w' hw' => ?_, hK _ ?_⟩); (obtain ⟨f1, f2, f3, f4⟩ := hw'.cells; go_simp; first | exact rfl | exact ⟨rfl, rfl⟩); clear hK K))
        with_reducible refine wpRead_nil ?_
        refine wpAnyH_done (by kernel_rfl) ?_ _
        have hA1 := Lib.hid (alike_any H5.out.1 (by have := H5.out.2.2; omega) x.2.1.1 x.2.1.2 HG.out.2.1.2.1.1 a HA.out.2)
        unfold pfx at hA1
        obtain ⟨d0, d1, d2, d3⟩ := H5.out.2.1.cells
        go_wp2_with fail
        refine (hA1.out).mono ?_
        rintro e w6 ⟨rfl, hb6⟩
        have H6 := Lib.hid (And.intro (H5.out.1.on hb6) (H5.out.2.1.on hb6))
        clear hA1 d0 d1 d2 d3 hb6
        have hA2 := Lib.hid (alike_any H6.out.1 (by have := H5.out.2.2; omega) x.2.1.1 x.2.1.2 HG.out.2.1.2.1.1 x.2.1.1 HG.out.2.1.2.1.1)
        unfold pfx at hA2
        obtain ⟨d0, d1, d2, d3⟩ := H6.out.2.cells
        go_wp2_with fail
        refine (hA2.out).mono ?_
        rintro e w7 ⟨rfl, hb7⟩
        have H7 := Lib.hid (H6.out.1.on hb7)
        clear hA2 d0 d1 d2 d3 hb7 H6
        go_wp2_with fail
        go_roundw
        case rel => exact ⟨i + 1, _, _, by omega, by omega, by go_num, H7.out, H5.out.2.2⟩
        case measure => simp [intOf]; omega
      · go_wp2_with fail
        refine wp_region_heldP (OpS wr.heap.size x) (by kernel_rfl) ?_
        have HQ := Lib.hid (And.intro (HG.out.1.on (Below.drew (Below.refl _ _))) (HG.out.2.2.1.on (Below.drew (Below.refl _ _))))
        generalize (wr.alloc (.cells #[.int .i64 x.1, .int .u32 x.2.1.1, .int .i64 x.2.1.2, .int .i64 x.2.2] 34)).drew = wq at *
        refine held_reads [0, 1, 2, 4, 5, 6] (g := 3) rfl (by kernel_rfl) HQ.out.2 (fun _ _ d _ _ h => by cases d <;> exact h) ?_
        simp only [pick, List.getD_cons_zero, List.getD_cons_succ]
        iterate 6 ((with_reducible refine wpRead_step (fun K hK => ?_)); go_simp; first | ((with_reducible refine hK _ ?_); clear hK K) | (apply Exists.intro; (with_reducible refine ⟨fun w' hw' => ?_, hK _ ?_⟩); (obtain ⟨f1, f2, f3, f4⟩ := hw'.cells; go_simp; first | exact rfl | exact ⟨rfl, rfl⟩); clear hK K))
        with_reducible refine wpRead_nil ?_
        refine held_one 3 (by kernel_rfl) ?_
        simp only [pick, List.getD_cons_zero, List.getD_cons_succ]
        have hdel := delEI HQ.out.1.trie (by have := HG.out.2.2.2.2.2; omega) x.2.1.1 x.2.1.2 HG.out.2.1.2.1.1
        unfold pfx at hdel
        obtain ⟨hv, hhv⟩ : ∃ hv, hv = hasI E x.2.1.1 x.2.1.2 := ⟨_, rfl⟩
        rw [← hhv] at hdel
        have HS := Lib.hid hdel
        have HV := Lib.hid hhv
        clear hdel hhv
        go_wp2_with fail
        refine (HS.out).mono ?_
        rintro e w3 ⟨rfl, N3, ht3, hm3⟩
        have hg3 := HQ.out.1.tmove hm3 ht3
        have hq3 : OpS wr.heap.size x w3 := (hm3.same _ (lt_of_blk HQ.out.2) HG.out.2.2.2.1).trans HQ.out.2
        have hrs := rdel_any hg3.refT (by have := HG.out.2.2.2.2.2; omega) x.2.1.1 x.2.1.2
        unfold pfx at hrs
        rw [fnd_has HQ.out.1.trie.sorted HQ.out.1.trie.key _ _ HG.out.2.1.2.1.1, ← HV.out] at hrs
        have HR := Lib.hid hrs
        have H3 := Lib.hid (And.intro hg3 hq3)
        clear HS HQ ht3 hm3 hg3 hq3 hrs
        go_wp2_with fail
        refine ⟨H3.out.2, ?_⟩
        refine held_one 7 (by kernel_rfl) ?_
        simp only [pick, List.getD_cons_zero, List.getD_cons_succ]
        go_wp2_with fail
        refine (HR.out).mono ?_
        rintro e w4 ⟨rfl, hor⟩
        have hg4 : GI w b c w4 N3 (delL E x.2.1.1 x.2.1.2) (delL E x.2.1.1 x.2.1.2) ∧ OpS wr.heap.size x w4 := by
          rcases hor with ⟨h0, h1, h2⟩ | ⟨h0, h2⟩
          · rw [delL_at HG.out.1.trie.sorted (by rw [← HV.out, h0])] at h1
            exact ⟨H3.out.1.rmove h1 h2, (h2.block _ (lt_of_blk H3.out.2) (by simpa using HG.out.2.2.2.2.1)).trans H3.out.2⟩
          · have he : delL E x.2.1.1 x.2.1.2 = E := delL_no (by rw [← HV.out, h0])
            have h3 := H3.out.1.on h2
            rw [he] at h3 ⊢
            exact ⟨h3, H3.out.2.on h2⟩
        have hlen : (delL E x.2.1.1 x.2.1.2).length ≤ E.length := by unfold delL; split <;> first | exact Nat.le_refl _ | (unfold delE; exact List.length_filter_le _ _)
        have H5 := Lib.hid (And.intro hg4.1 (And.intro hg4.2 (show (delL E x.2.1.1 x.2.1.2).length ≤ i + 1 by have := HG.out.2.2.2.2.2; omega)))
        clear HR H3 hor hg4 hlen
        go_wp2_with fail
        refine ⟨H5.out.2.1, ?_⟩
        refine held_reads [8] (g := 0) rfl (by kernel_rfl) H5.out.2.1 (fun _ _ d _ _ h => by cases d <;> exact h) ?_
        simp only [pick, List.getD_cons_zero, List.getD_cons_succ]
        iterate 1 ((with_reducible refine wpRead_step (fun K hK => ?_)); go_simp; first | ((with_reducible refine hK _ ?_); clear hK K) | (apply Exists.intro; (with_reducible refine ⟨fun w' hw' => ?_, hK _ ?_⟩); (obtain ⟨f1, f2, f3, f4⟩ := hw'.cells; go_simp; first | exact rfl | exact ⟨rfl, rfl⟩); clear hK K))
        with_reducible refine wpRead_nil ?_
        refine wpAnyH_done (by kernel_rfl) ?_ _
        have hA1 := Lib.hid (alike_any H5.out.1 (by have := H5.out.2.2; omega) x.2.1.1 x.2.1.2 HG.out.2.1.2.1.1 a HA.out.2)
        unfold pfx at hA1
        obtain ⟨d0, d1, d2, d3⟩ := H5.out.2.1.cells
        go_wp2_with fail
        refine (hA1.out).mono ?_
        rintro e w6 ⟨rfl, hb6⟩
        have H6 := Lib.hid (And.intro (H5.out.1.on hb6) (H5.out.2.1.on hb6))
        clear hA1 d0 d1 d2 d3 hb6
        have hA2 := Lib.hid (alike_any H6.out.1 (by have := H5.out.2.2; omega) x.2.1.1 x.2.1.2 HG.out.2.1.2.1.1 x.2.1.1 HG.out.2.1.2.1.1)
        unfold pfx at hA2
        obtain ⟨d0, d1, d2, d3⟩ := H6.out.2.cells
        go_wp2_with fail
        refine (hA2.out).mono ?_
        rintro e w7 ⟨rfl, hb7⟩
        have H7 := Lib.hid (H6.out.1.on hb7)
        clear hA2 d0 d1 d2 d3 hb7 H6
        go_wp2_with fail
        go_roundw
        case rel => exact ⟨i + 1, _, _, by omega, by omega, by go_num, H7.out, H5.out.2.2⟩
        case measure => simp [intOf]; omega
      · have H5 := Lib.hid (And.intro HG.out.1 (And.intro HG.out.2.2.1 (Nat.le_succ_of_le HG.out.2.2.2.2.2)))
        have hA1 := Lib.hid (alike_any H5.out.1 (by have := H5.out.2.2; omega) x.2.1.1 x.2.1.2 HG.out.2.1.2.1.1 a HA.out.2)
        unfold pfx at hA1
        obtain ⟨d0, d1, d2, d3⟩ := H5.out.2.1.cells
        go_wp2_with fail
        refine (hA1.out).mono ?_
        rintro e w6 ⟨rfl, hb6⟩
        have H6 := Lib.hid (And.intro (H5.out.1.on hb6) (H5.out.2.1.on hb6))
        clear hA1 d0 d1 d2 d3 hb6
        have hA2 := Lib.hid (alike_any H6.out.1 (by have := H5.out.2.2; omega) x.2.1.1 x.2.1.2 HG.out.2.1.2.1.1 x.2.1.1 HG.out.2.1.2.1.1)
        unfold pfx at hA2
        obtain ⟨d0, d1, d2, d3⟩ := H6.out.2.cells
        go_wp2_with fail
        refine (hA2.out).mono ?_
        rintro e w7 ⟨rfl, hb7⟩
        have H7 := Lib.hid (H6.out.1.on hb7)
        clear hA2 d0 d1 d2 d3 hb7 H6
        go_wp2_with fail
        go_roundw
        case rel => exact ⟨i + 1, _, _, by omega, by omega, by go_num, H7.out, H5.out.2.2⟩
        case measure => simp [intOf]; omega
    · have hex : ((i : Int) < (n : Int)) = False ∨ (((i : Int) < (n : Int)) = True ∧ ((i : Int) < 150) = False) := by
        by_cases h1 : i < n
        · exact .inr ⟨by simp; omega, by simp; omega⟩
        · exact .inl (by simp; omega)
      have hpre := prefixesEI hg.trie (by omega)
      have HG := Lib.hid (And.intro hpre hg)
      clear hpre hg
      rcases hex with h1 | ⟨h1, h2⟩
      all_goals
        go_wp2_with fail
        refine (HG.out.1).mono ?_
        rintro e w9 ⟨v9, rfl, hown9, hb9⟩
        have hg9 := HG.out.2.on hb9
        have hwt := rwithinT_any hg9.refT (fun e he => (hg9.trie.key e he).lt) (by omega) 0 0 (by decide)
        have hk0 : keysIn E 0 0 = E.map (·.1) := by obtain ⟨M9, -, h9⟩ := hg9.trie; exact h9.in00
        rw [hk0] at hwt
        unfold pfx at hwt
        have H9 := Lib.hid (And.intro hwt (And.intro hg9 hown9))
        clear hwt hg9 hown9 hb9 hk0
        go_wp2_with fail
        refine (H9.out.1).mono ?_
        rintro e w10 ⟨v10, rfl, hown10, hb10⟩
        obtain ⟨a9, c9, rfl, -, -, hs9, -⟩ := (H9.out.2.2.below hb10).sl
        obtain ⟨a10, c10, rfl, -, -, hs10, -⟩ := hown10.sl
        have hsame := same_any _ _ _ _ _ _ _ _ _ hs9 hs10
        rw [decide_eq_true rfl] at hsame
        simp only [List.length_map] at hsame ⊢
        have HB := Lib.hid (H9.out.2.1.on hb10).below
        clear hs9 hs10 hown10 hb10
        go_wp2_with (go_at_call 15; refine (hsame).mono ?_; rintro e w11 ⟨rfl, hb11⟩)
        go_ret
        exact ⟨rfl, HB.out.trans (hb11.mono HB.out.size)⟩
theorem does_int (oa : Option Addr) (n ca : Nat) (L : List (Int × (Nat × Int) × Int)) (a : Int) (w : World) (hl : SlOk RD (fun _ x => okD x) w ⟨oa, n, ca, L⟩) (h2 : (Lit.int .u32 a).wf = true) : Calls Try.prog 3 #[.slice oa n ca, .int .u32 a] w fun e w' => e = .returned (.bool true) ∧ Below w.heap.size w w' := by
  obtain ⟨k, rfl, hk⟩ := u32_nat h2
  exact does_law oa n ca L k w hl hk
set_option maxRecDepth 100000 in
theorem does_lifted (os : Os) (started : os.Started) (H : Type) (enc : TypeId × Value → H) :
    ReturnsInHanded {} Try.checked os 3 .any (Rows.trieDoesSpec.pre6 enc Try.prog Try.f3 Rows.trieDoesRow.domain false) (Rows.trieDoesSpec.post enc Try.prog Try.f3 false true false false) := by
  refine returnsInHanded_of_change (C := Try.checked) own started (by kernel_rfl) Try.func3
    (ChangeSpec.witness6 (enc := enc) (C := Try.checked) false ⟨#[], #[.slice none 0 0, .int .u32 0], []⟩ 8 (by kernel_rfl) (by kernel_rfl) (by kernel_rfl) (by kernel_rfl)) ?_
  intro W base args ds gs before hval0 hW hcnd _
  have hval : ∀ (j : Nat) t v, Try.f3.params[j]? = some t → args[j]? = some v → Value.okWide Try.prog W .any base t v := hval0
  have hW' := hW
  obtain ⟨p, q, hA0, hV, rfl, hfz, hnd⟩ := hW
  have hA : DataW.TrodAll enc Try.prog W 0 (fun _ => true) true Try.f3.params.toList args.toList ds p := hA0
  rw [Try.params3] at hA hval
  obtain ⟨v0, vs0, d0, ds0, p0, q0, hargs, rfl, rfl, h0, r0⟩ := trodAll_cons hA
  obtain ⟨v1, vs1, d1, ds1, p1, q1, rfl, rfl, rfl, h1, r1⟩ := trodAll_cons r0
  obtain ⟨rfl, rfl, rfl⟩ := trodAll_nil r1
  obtain rfl : args = #[v0, v1] := by cases args; simp_all
  obtain ⟨rfl, rfl⟩ := trodVars_none hV
  have lt0 : ∀ x ∈ p0, x.block < W.heap.size := by obtain ⟨m, hm⟩ := h0; exact DataW.trod_lt m _ _ _ hm
  obtain ⟨x0, y0, z0, rfl⟩ := okWide_slice Try.underlying22 (hval 0 22 v0 rfl rfl)
  obtain ⟨s0, e0, ok0⟩ := (reads22).arg h0
  simp only [Value.cells, List.cons.injEq, Value.slice.injEq, and_true] at e0
  obtain ⟨rfl, rfl, rfl⟩ := e0
  obtain ⟨a1, rfl, rfl, rfl, w1⟩ := open_int Try.underlying23 (hval 1 23 v1 rfl rfl) h1
  clear hA0 hval0
  refine (does_int _ _ _ _ _ _ ok0 w1).mono fun e W' ⟨he, bel⟩ => ?_
  subst he
  exact ⟨_, rfl, _, _, _, [], _, [], hW', trodAll_mk1 (shut_bool Try.underlying4 _), (trodAll_cons_mk (Below.trod laidOut (by kernel_rfl) (of_decide_eq_true (by kernel_rfl)) h0 bel lt0) (trodAll_cons_mk (shut_int Try.underlying23 w1) trodAll_mk0)), rfl, bel.frame _, fun h => by cases h⟩

theorem does_over : Rows.trieDoesRow.holds Try.pinned (OpenSpec.ofChange Rows.trieDoesSpec) :=
  OpenClaim.holds_of_wide 3 Try.f3 rfl rfl rfl rfl rfl rfl rfl ⟨rfl, rfl, rfl, rfl, rfl⟩ rfl rfl rfl rfl rfl (by kernel_rfl) Try.func3 (by kernel_rfl)
    (of_decide_eq_true (by kernel_rfl)) (by unfold Func.isWrapper; rw [if_neg (of_decide_eq_false (by kernel_rfl))]; exact ⟨rfl, rfl⟩)
    (fun os started H enc _ => does_lifted os started H enc)

theorem trieDoes_holds : Rows.TrieDoesSaid := does_over
#print axioms trieDoes_holds

end Go.Proofs.Ytdhebjeajdohoaa
