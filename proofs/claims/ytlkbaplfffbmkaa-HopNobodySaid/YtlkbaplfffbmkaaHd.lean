/- hop.Check of good ones. -/
import Derived.Test.YtlkbaplfffbmkaaHc
namespace Go.Proofs.Ytlkbaplfffbmkaa
open Go.RowKit
open Go.ChangeMaps (setBlock)

set_option maxRecDepth 100000 in
set_option maxHeartbeats 2000000 in
theorem hcheck_ok {w : World} {oa : Option Addr} {n c : Nat} {l : List If} (h : Ifs w oa n c l) (hg : Good l) : Calls Try.prog 13 #[.slice oa n c] w fun e w' => e = .returned (.int .i64 0) ∧ Below w.heap.size w w' := by
  have HL := Lib.hid h.sl.len
  have F := Lib.hid h
  have HG := Lib.hid hg
  have hmax := h.sl.max
  have h256 : n ≤ 256 := by have h1 := hg.len; have h2 := h.sl.len; omega
  have hal := ((Below.refl w.heap.size w).alloc (Nat.le_refl _) (.map #[] 0)).alloc (by simp) (.map #[] 0)
  have m3 : MR.MapAt IN ((w.alloc (.map #[] 0)).alloc (.map #[] 0)) w.heap.size [] 0 := MR.mapAt_made IN (hold (hnew _ _))
  have m4 : MR.MapAt NN ((w.alloc (.map #[] 0)).alloc (.map #[] 0)) (w.heap.size + 1) [] 0 := MR.mapAt_made NN (hnewAt (by simp))
  have G := Lib.hid (And.intro m3 (And.intro m4 hal))
  clear h hg hal m3 m4
  have hmm := @run_makeMap Try.prog
  go_enter Try.func13, Try.ntmps13
  go_wp2_with fail
  clear hmm
  generalize ((w.alloc (.map #[] 0)).alloc (.map #[] 0)) = W at *
  go_loopw [11] (fun iv wr => ∃ (i : Nat) (es : List (MR.Ent Int)) (c3 : Nat) (fs : List (MR.Ent NK)) (c4 : Nat), i ≤ n ∧ iv = .int .i64 i ∧ es.map (·.1) = (l.take i).map If.id ∧ fs.map (·.1) = (l.take i).map If.net ∧ MR.MapAt IN wr w.heap.size es c3 ∧ MR.MapAt NN wr (w.heap.size + 1) fs c4 ∧ Below w.heap.size w wr) (fun iv _ => n - (intOf iv).toNat)
  case atStart => exact ⟨0, [], 0, [], 0, Nat.zero_le _, rfl, rfl, rfl, G.out.1, G.out.2.1, G.out.2.2⟩
  case round =>
    obtain ⟨i, es, c3, fs, c4, hi, rfl, hes, hfs, hm3, hm4, hb⟩ := hrel
    obtain ⟨w2, rfl⟩ : ∃ w2 : World, w2 = wr := ⟨_, rfl⟩
    by_cases hlt : i < n
    · have hil : ((i : Int) < (n : Int)) = True := by simp; omega
      have hw3 := wrapS hlt hmax
      have hlen : l.length = n := HL.out.symm
      obtain ⟨b0, o0, rfl, hbb, hat⟩ := (F.out.keep hb).sl.at hlt
      have c0 := hat 0 (by decide)
      have c1 := hat 1 (by decide)
      have c2 := hat 2 (by decide)
      have c3' := hat 3 (by decide)
      have c4' := hat 4 (by decide)
      simp only [RIf, Nat.add_zero, List.getElem?_cons_zero, List.getElem?_cons_succ] at c0 c1 c2 c3' c4'
      have hbd := okI_bd (HG.out.ok _ (getD_mem (i := i) (by omega)))
      have hadx := F.out.ad _ (getD_mem (i := i) (by omega))
      have hn1 := HG.out.id_new (i := i) (by omega)
      have hn2 := HG.out.net_new (i := i) (by omega)
      have t1 := take_map_succ If.id l (i := i) (by omega)
      have t2 := take_map_succ If.net l (i := i) (by omega)
      rw [← hes] at hn1 t1
      rw [← hfs] at hn2 t2
      generalize l.getD i default = x at *
      have hal := (Below.refl w2.heap.size w2).alloc (Nat.le_refl _) (.cells #[.int .i64 x.id, .int .i64 x.r, .int .u32 (x.ad : Int), .int .i64 x.ln, .int .i64 x.cp] 34)
      have hxs : IfS w2.heap.size x (w2.alloc (.cells #[.int .i64 x.id, .int .i64 x.r, .int .u32 (x.ad : Int), .int .i64 x.ln, .int .i64 x.cp] 34)) := hnew _ _
      have l3 : w.heap.size < w2.heap.size := lt_of_blk hm3.blk
      have l4 : w.heap.size + 1 < w2.heap.size := lt_of_blk hm4.blk
      have hm3a : MR.MapAt IN (w2.alloc (.cells #[.int .i64 x.id, .int .i64 x.r, .int .u32 (x.ad : Int), .int .i64 x.ln, .int .i64 x.cp] 34)) w.heap.size es c3 := hm3.blk_iff IN (hal.block _ l3)
      have hm4a : MR.MapAt NN (w2.alloc (.cells #[.int .i64 x.id, .int .i64 x.r, .int .u32 (x.ad : Int), .int .i64 x.ln, .int .i64 x.cp] 34)) (w.heap.size + 1) fs c4 := hm4.blk_iff NN (hal.block _ l4)
      obtain ⟨O1, hO1⟩ : ∃ O, O = Obj.map (MR.ents IN.enc (MR.put es x.id (.bool true) c3)).toArray (MR.clock' es x.id c3) := ⟨_, rfl⟩
      have hu1 : (Instr.mapUpdate 84 (.map (some w.heap.size)) (.int .i64 x.id) (.bool true)).run Try.prog (w2.alloc (.cells #[.int .i64 x.id, .int .i64 x.r, .int .u32 (x.ad : Int), .int .i64 x.ln, .int .i64 x.cp] 34)) = .ok () (setBlock (w2.alloc (.cells #[.int .i64 x.id, .int .i64 x.r, .int .u32 (x.ad : Int), .int .i64 x.ln, .int .i64 x.cp] 34)) w.heap.size O1) := by rw [hO1]; exact (MR.run_update IN hm3a hbd.1 Try.underlying84 (.bool true)).1
      have hm3b : MR.MapAt IN (setBlock (w2.alloc (.cells #[.int .i64 x.id, .int .i64 x.r, .int .u32 (x.ad : Int), .int .i64 x.ln, .int .i64 x.cp] 34)) w.heap.size O1) w.heap.size (MR.put es x.id (.bool true) c3) (MR.clock' es x.id c3) := by rw [hO1]; exact (MR.run_update IN hm3a hbd.1 Try.underlying84 (.bool true)).2
      have hm4b : MR.MapAt NN (setBlock (w2.alloc (.cells #[.int .i64 x.id, .int .i64 x.r, .int .u32 (x.ad : Int), .int .i64 x.ln, .int .i64 x.cp] 34)) w.heap.size O1) (w.heap.size + 1) fs c4 := hm4a.blk_iff NN (setBlock_other (by omega))
      have hxs2 : IfS w2.heap.size x (setBlock (w2.alloc (.cells #[.int .i64 x.id, .int .i64 x.r, .int .u32 (x.ad : Int), .int .i64 x.ln, .int .i64 x.cp] 34)) w.heap.size O1) := (setBlock_other (by omega)).trans hxs
      obtain ⟨O2, hO2⟩ : ∃ O, O = Obj.map (MR.ents NN.enc (MR.put fs x.net (.bool true) c4)).toArray (MR.clock' fs x.net c4) := ⟨_, rfl⟩
      have hu2 : (Instr.mapUpdate 85 (.map (some (w.heap.size + 1))) (.agg #[.int .i64 x.r, .int .u32 (x.ad : Int), .int .i64 x.ln]) (.bool true)).run Try.prog (setBlock (w2.alloc (.cells #[.int .i64 x.id, .int .i64 x.r, .int .u32 (x.ad : Int), .int .i64 x.ln, .int .i64 x.cp] 34)) w.heap.size O1) = .ok () (setBlock (setBlock (w2.alloc (.cells #[.int .i64 x.id, .int .i64 x.r, .int .u32 (x.ad : Int), .int .i64 x.ln, .int .i64 x.cp] 34)) w.heap.size O1) (w.heap.size + 1) O2) := by rw [hO2]; exact (MR.run_update NN hm4b (hbd.2 hadx) Try.underlying85 (.bool true)).1
      have hm4c : MR.MapAt NN (setBlock (setBlock (w2.alloc (.cells #[.int .i64 x.id, .int .i64 x.r, .int .u32 (x.ad : Int), .int .i64 x.ln, .int .i64 x.cp] 34)) w.heap.size O1) (w.heap.size + 1) O2) (w.heap.size + 1) (MR.put fs x.net (.bool true) c4) (MR.clock' fs x.net c4) := by rw [hO2]; exact (MR.run_update NN hm4b (hbd.2 hadx) Try.underlying85 (.bool true)).2
      have hm3c : MR.MapAt IN (setBlock (setBlock (w2.alloc (.cells #[.int .i64 x.id, .int .i64 x.r, .int .u32 (x.ad : Int), .int .i64 x.ln, .int .i64 x.cp] 34)) w.heap.size O1) (w.heap.size + 1) O2) w.heap.size (MR.put es x.id (.bool true) c3) (MR.clock' es x.id c3) := hm3b.blk_iff IN (setBlock_other (by omega))
      have hbc : Below w.heap.size w (setBlock (setBlock (w2.alloc (.cells #[.int .i64 x.id, .int .i64 x.r, .int .u32 (x.ad : Int), .int .i64 x.ln, .int .i64 x.cp] 34)) w.heap.size O1) (w.heap.size + 1) O2) := below_setBlock (below_setBlock (bcall hb (Nat.le_refl _) hal) (Nat.le_refl _)) (by omega)
      have H := Lib.hid (And.intro (t1 ▸ put_keys (.bool true) c3 hn1) (And.intro (t2 ▸ put_keys (.bool true) c4 hn2) (And.intro hm3c (And.intro hm4c hbc))))
      obtain ⟨z0, z1, z2, z3, z4⟩ := hxs.cells
      obtain ⟨y0, y1, y2, y3, y4⟩ := hxs2.cells
      clear hO1 hO2 hm3a hm3b hm4a hm4b hm3c hm4c hbc hxs hxs2 hal hm3 hm4 hb hbd hadx hn1 hn2 t1 t2 hat hes hfs hlen
      go_wp2_with fail
      exact ⟨⟨i + 1, _, _, _, _, hlt, by first | rw [hw3] | rw [Int.natCast_succ], H.out.1, H.out.2.1, H.out.2.2.1, H.out.2.2.2.1, H.out.2.2.2.2⟩, by first | (rw [hw3]; exact mSucc hlt) | (rw [← Int.natCast_succ]; exact mSucc hlt)⟩
    · obtain rfl : n = i := by omega
      have hil : ((n : Int) < (n : Int)) = False := by simp
      have h25 : ((256 : Int) < (n : Int)) = False := by simp; omega
      have e3 : es.length = n := by have := congrArg List.length hes; rw [List.length_map, List.length_map, List.length_take] at this; have := HL.out; omega
      have e4 : fs.length = n := by have := congrArg List.length hfs; rw [List.length_map, List.length_map, List.length_take] at this; have := HL.out; omega
      have hl3 := fun ty => MR.run_len IN hm3 Try.underlying84 ty
      have hl4 := fun ty => MR.run_len NN hm4 Try.underlying85 ty
      rw [e3] at hl3
      rw [e4] at hl4
      have HB := Lib.hid hb
      have HK := Lib.hid (contains_ok (F.out.keep hb) HG.out.ok)
      clear hb hm3 hm4 hes hfs e3 e4
      go_wp2_with fail
      refine (HK.out).mono ?_
      rintro e W3 ⟨rfl, hb3⟩
      have HB3 := Lib.hid (bcall HB.out (Nat.le_refl _) hb3)
      clear hb3 HB HK hl3 hl4
      go_wp2_with fail
      go_ret
      exact ⟨rfl, HB3.out⟩
end Go.Proofs.Ytlkbaplfffbmkaa
