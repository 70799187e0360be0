/- hop.Check of whatever interfaces. -/
import Derived.Test.YtlkbaplfffbmkaaHd
import Derived.Test.YtlkbaplfffbmkaaDs
namespace Go.Proofs.Ytlkbaplfffbmkaa
open Go.RowKit
open Go.ChangeMaps (setBlock)

def goodB (l : List If) : Bool := decide (l.length ≤ 256) && decide ((l.map If.id).Nodup) && decide ((l.map If.net).Nodup) && l.all okI
theorem good_iff {l : List If} : goodB l = true ↔ Good l := by
  unfold goodB
  simp only [Bool.and_eq_true, decide_eq_true_eq]
  constructor
  · rintro ⟨⟨⟨h1, h2⟩, h3⟩, h4⟩
    rw [nodup_get] at h2 h3
    exact ⟨fun x hx => List.all_eq_true.1 h4 x hx, h2, fun k i hk hi a b c => h3 k i hk hi (by unfold If.net; rw [a, b, c]), h1⟩
  · intro h
    refine ⟨⟨⟨h.len, nodup_get.2 h.ids⟩, nodup_get.2 fun k i hk hi he => ?_⟩, List.all_eq_true.2 h.ok⟩
    unfold If.net at he
    injection he with a b c
    exact h.nets k i hk hi a (by omega) c
structure IfsW (w : World) (oa : Option Addr) (n c : Nat) (l : List If) : Prop where
  ifs : Ifs w oa n c l
  ok : ∀ x ∈ l, IN.ok x.id ∧ NN.ok x.net
theorem IfsW.keep {w w' : World} {oa : Option Addr} {n c : Nat} {l : List If} (h : IfsW w oa n c l) (hb : Below w.heap.size w w') : IfsW w' oa n c l := ⟨h.ifs.keep hb, h.ok⟩
set_option maxRecDepth 100000 in
set_option maxHeartbeats 1000000 in
theorem hodd_any {x : If} (had : x.ad < 4294967296) (w : World) : Calls Try.prog 41 #[x.v] w fun e w' => e = .returned (.bool (!okI x)) ∧ Below w.heap.size w w' := by
  have hal := (Below.refl w.heap.size w).alloc (Nat.le_refl _) (.cells #[.int .i64 x.id, .int .i64 x.r, .int .u32 (x.ad : Int), .int .i64 x.ln, .int .i64 x.cp] 34)
  have hxs : IfS w.heap.size x (w.alloc (.cells #[.int .i64 x.id, .int .i64 x.r, .int .u32 (x.ad : Int), .int .i64 x.ln, .int .i64 x.cp] 34)) := hnew _ _
  have W1 := fun W => hwithin_any x.id 0 4294967295 W
  have W2 := fun W => hwithin_any x.r 0 15 W
  have W3 := fun W => check_any x.ad x.ln had W
  have W4 := fun W => hwithin_any x.cp 0 9007199254740991 W
  obtain ⟨b, hbk⟩ : ∃ b, okI x = b := ⟨_, rfl⟩
  rw [hbk]
  have hbk2 : ((decide (0 ≤ x.id) && decide (x.id ≤ 4294967295)) && (decide (0 ≤ x.r) && decide (x.r ≤ 15)) && okP x.ad x.ln && (decide (0 ≤ x.cp) && decide (x.cp ≤ 9007199254740991))) = b := by
    rw [← hbk]; unfold okI; simp only [Bool.and_assoc]
  clear hbk
  generalize (decide (0 ≤ x.id) && decide (x.id ≤ 4294967295)) = b1 at *
  generalize (decide (0 ≤ x.r) && decide (x.r ≤ 15)) = b2 at *
  generalize okP x.ad x.ln = b3 at *
  generalize (decide (0 ≤ x.cp) && decide (x.cp ≤ 9007199254740991)) = b4 at *
  subst hbk2
  have H1 := Lib.hid W1
  have H2 := Lib.hid W2
  have H3 := Lib.hid W3
  have H4 := Lib.hid W4
  have F := Lib.hid (And.intro hal hxs)
  obtain ⟨z0, z1, z2, z3, z4⟩ := hxs.cells
  unfold If.v
  clear W1 W2 W3 W4 hal hxs had
  go_enter Try.func41, Try.ntmps41
  go_wp2_with fail
  refine (H1.out _).mono ?_
  rintro e W1 ⟨rfl, hw1⟩
  generalize w.alloc (.cells #[.int .i64 x.id, .int .i64 x.r, .int .u32 (x.ad : Int), .int .i64 x.ln, .int .i64 x.cp] 34) = W at *
  subst W1
  cases b1 with
  | false =>
    go_wp2_with fail
    go_ret
    exact ⟨rfl, F.out.1⟩
  | true =>
  go_wp2_with fail
  refine (H2.out _).mono ?_
  rintro e W1 ⟨rfl, hw1⟩
  subst W1
  cases b2 with
  | false =>
    go_wp2_with fail
    go_ret
    exact ⟨rfl, F.out.1⟩
  | true =>
  go_wp2_with fail
  refine (H3.out _).mono ?_
  rintro e W1 ⟨rfl, hb1⟩
  have F1 := Lib.hid (And.intro (bcall F.out.1 (Nat.le_refl _) hb1) (F.out.2.on hb1))
  clear z0 z1 z2 z3 z4 hb1 F
  obtain ⟨z0, z1, z2, z3, z4⟩ := F1.out.2.cells
  cases b3 with
  | false =>
    rw [if_neg (by decide)]
    go_wp2_with fail
    go_ret
    exact ⟨rfl, F1.out.1⟩
  | true =>
  rw [if_pos rfl]
  go_wp2_with fail
  refine (H4.out _).mono ?_
  rintro e W2 ⟨rfl, hw1⟩
  subst W2
  go_wp2_with fail
  go_ret
  exact ⟨by rw [Bool.and_self, Bool.and_self, Bool.true_and]; rfl, F1.out.1⟩
theorem all_take_p {α : Type} [Inhabited α] (M : List α) (p : α → Bool) (k : Nat) (h : k < M.length) : (M.take (k + 1)).all p = ((M.take k).all p && p (M.getD k default)) := by
  rw [List.take_succ_eq_append_getElem h, List.all_append]
  simp [List.getD_eq_getElem?_getD, h]
set_option maxRecDepth 100000 in
set_option maxHeartbeats 1000000 in
theorem hindex_any {w : World} {oa : Option Addr} {n c : Nat} {l : List If} (h : Ifs w oa n c l) : Calls Try.prog 59 #[.slice oa n c, CalleeF 41] w fun e w' => (∃ k : Int, e = .returned (.int .i64 k) ∧ decide (0 ≤ k) = !(l.all okI)) ∧ Below w.heap.size w w' := by
  have HL := Lib.hid h.sl.len
  have F := Lib.hid h
  have hmax := h.sl.max
  clear h
  unfold CalleeF
  go_enter Try.func59, Try.ntmps59
  go_wp2_with fail
  go_loopw [8] (fun iv wr => ∃ i : Nat, i ≤ n ∧ iv = .int .i64 i ∧ (l.take i).all okI = true ∧ Below w.heap.size w wr) (fun iv _ => n - (intOf iv).toNat)
  case atStart => exact ⟨0, Nat.zero_le _, rfl, rfl, Below.refl _ _⟩
  case round =>
    obtain ⟨i, hi, rfl, hall, hb⟩ := hrel
    obtain ⟨w2, rfl⟩ : ∃ w2 : World, w2 = wr := ⟨_, rfl⟩
    by_cases hlt : i < n
    · have hil : ((i : Int) < (n : Int)) = True := by simp; omega
      have hw3 := wrapS hlt hmax
      have hlen : l.length = n := HL.out.symm
      obtain ⟨b0, o0, rfl, hbb, hat⟩ := (F.out.keep hb).sl.at hlt
      have c0 := hat 0 (by decide)
      have c1 := hat 1 (by decide)
      have c2 := hat 2 (by decide)
      have c3 := hat 3 (by decide)
      have c4 := hat 4 (by decide)
      simp only [RIf, Nat.add_zero, List.getElem?_cons_zero, List.getElem?_cons_succ] at c0 c1 c2 c3 c4
      have t1 := all_take_p l okI i (by omega)
      rw [hall, Bool.true_and] at t1
      have hmem : l.getD i default ∈ l := getD_mem (by omega)
      have hox := hodd_any (F.out.ad _ hmem) w2
      generalize l.getD i default = x at *
      obtain ⟨bo, hbo⟩ : ∃ bo, okI x = bo := ⟨_, rfl⟩
      rw [hbo] at hox t1
      have HX := Lib.hid hox
      have HB := Lib.hid hb
      have HT := Lib.hid (And.intro t1 (And.intro hmem hbo))
      clear hox hb hat hlen t1 hmem hall hbo
      go_wp2_with fail
      refine (HX.out).mono ?_
      rintro e W3 ⟨rfl, hb3⟩
      have HB3 := Lib.hid (bcall HB.out (Nat.le_refl _) hb3)
      clear hb3 HB c0 c1 c2 c3 c4 HX
      cases bo with
      | true =>
        rw [Bool.not_true]
        go_wp2_with fail
        exact ⟨⟨i + 1, hlt, by first | rw [hw3] | rw [Int.natCast_succ], HT.out.1, HB3.out⟩, by first | (rw [hw3]; exact mSucc hlt) | (rw [← Int.natCast_succ]; exact mSucc hlt)⟩
      | false =>
        rw [Bool.not_false]
        go_wp2_with fail
        go_ret
        have hno : l.all okI = false := by
          rw [List.all_eq_false]
          exact ⟨_, HT.out.2.1, by simp [HT.out.2.2]⟩
        exact ⟨⟨_, rfl, by rw [hno]; simp⟩, HB3.out⟩
    · obtain rfl : n = i := by omega
      have hil : ((n : Int) < (n : Int)) = False := by simp
      have HB := Lib.hid hb
      rw [List.take_of_length_le (by rw [HL.out]; exact Nat.le_refl _)] at hall
      have HA := Lib.hid hall
      clear hb hall
      go_wp2_with fail
      go_ret
      exact ⟨⟨_, rfl, by rw [HA.out]; rfl⟩, HB.out⟩
set_option maxRecDepth 100000 in
theorem hcontains_any {w : World} {oa : Option Addr} {n c : Nat} {l : List If} (h : Ifs w oa n c l) : Calls Try.prog 40 #[.slice oa n c, CalleeF 41] w fun e w' => e = .returned (.bool (!(l.all okI))) ∧ Below w.heap.size w w' := by
  have HK := Lib.hid (hindex_any h)
  clear h
  unfold CalleeF at *
  go_enter Try.func40, Try.ntmps40
  go_wp2_with fail
  refine (HK.out).mono ?_
  rintro e w1 ⟨⟨k, rfl, hk⟩, hb⟩
  have HB := Lib.hid (And.intro hk hb)
  clear hk hb
  go_wp2_with fail
  go_ret
  exact ⟨ret_bool (by rw [← HB.out.1]), HB.out.2⟩
set_option maxRecDepth 100000 in
set_option maxHeartbeats 2000000 in
theorem hcheck_any {w : World} {oa : Option Addr} {n c : Nat} {l : List If} (h : IfsW w oa n c l) (b : Bool) (hbk : goodB l = b) : Calls Try.prog 13 #[.slice oa n c] w fun e w' => e = .returned (.int .i64 (bif b then 0 else 160)) ∧ Below w.heap.size w w' := by
  have HL := Lib.hid h.ifs.sl.len
  have F := Lib.hid h
  have HBK := Lib.hid hbk
  have hmax := h.ifs.sl.max
  have hal := ((Below.refl w.heap.size w).alloc (Nat.le_refl _) (.map #[] 0)).alloc (by simp) (.map #[] 0)
  have m3 : MR.MapAt IN ((w.alloc (.map #[] 0)).alloc (.map #[] 0)) w.heap.size [] 0 := MR.mapAt_made IN (hold (hnew _ _))
  have m4 : MR.MapAt NN ((w.alloc (.map #[] 0)).alloc (.map #[] 0)) (w.heap.size + 1) [] 0 := MR.mapAt_made NN (hnewAt (by simp))
  have G := Lib.hid (And.intro m3 (And.intro m4 hal))
  clear h hal m3 m4 hbk
  have hmm := @run_makeMap Try.prog
  go_enter Try.func13, Try.ntmps13
  go_wp2_with fail
  clear hmm
  generalize ((w.alloc (.map #[] 0)).alloc (.map #[] 0)) = W at *
  go_loopw [11] (fun iv wr => ∃ (i : Nat) (es : List (MR.Ent Int)) (c3 : Nat) (fs : List (MR.Ent NK)) (c4 : Nat), i ≤ n ∧ iv = .int .i64 i ∧ es.map (·.1) = keysOf ((l.take i).map If.id) ∧ fs.map (·.1) = keysOf ((l.take i).map If.net) ∧ MR.MapAt IN wr w.heap.size es c3 ∧ MR.MapAt NN wr (w.heap.size + 1) fs c4 ∧ Below w.heap.size w wr) (fun iv _ => n - (intOf iv).toNat)
  case atStart => exact ⟨0, [], 0, [], 0, Nat.zero_le _, rfl, rfl, rfl, G.out.1, G.out.2.1, G.out.2.2⟩
  case round =>
    obtain ⟨i, es, c3, fs, c4, hi, rfl, hes, hfs, hm3, hm4, hb⟩ := hrel
    obtain ⟨w2, rfl⟩ : ∃ w2 : World, w2 = wr := ⟨_, rfl⟩
    by_cases hlt : i < n
    · have hil : ((i : Int) < (n : Int)) = True := by simp; omega
      have hw3 := wrapS hlt hmax
      have hlen : l.length = n := HL.out.symm
      obtain ⟨b0, o0, rfl, hbb, hat⟩ := (F.out.keep hb).ifs.sl.at hlt
      have c0 := hat 0 (by decide)
      have c1 := hat 1 (by decide)
      have c2 := hat 2 (by decide)
      have c3' := hat 3 (by decide)
      have c4' := hat 4 (by decide)
      simp only [RIf, Nat.add_zero, List.getElem?_cons_zero, List.getElem?_cons_succ] at c0 c1 c2 c3' c4'
      have hbd := F.out.ok _ (getD_mem (i := i) (by omega))
      have t1 := keysOf_succ If.id (L := l) (i := i) (by omega)
      have t2 := keysOf_succ If.net (L := l) (i := i) (by omega)
      rw [← hes] at t1
      rw [← hfs] at t2
      generalize l.getD i default = x at *
      have hal := (Below.refl w2.heap.size w2).alloc (Nat.le_refl _) (.cells #[.int .i64 x.id, .int .i64 x.r, .int .u32 (x.ad : Int), .int .i64 x.ln, .int .i64 x.cp] 34)
      have hxs : IfS w2.heap.size x (w2.alloc (.cells #[.int .i64 x.id, .int .i64 x.r, .int .u32 (x.ad : Int), .int .i64 x.ln, .int .i64 x.cp] 34)) := hnew _ _
      have l3 : w.heap.size < w2.heap.size := lt_of_blk hm3.blk
      have l4 : w.heap.size + 1 < w2.heap.size := lt_of_blk hm4.blk
      have hm3a : MR.MapAt IN (w2.alloc (.cells #[.int .i64 x.id, .int .i64 x.r, .int .u32 (x.ad : Int), .int .i64 x.ln, .int .i64 x.cp] 34)) w.heap.size es c3 := hm3.blk_iff IN (hal.block _ l3)
      have hm4a : MR.MapAt NN (w2.alloc (.cells #[.int .i64 x.id, .int .i64 x.r, .int .u32 (x.ad : Int), .int .i64 x.ln, .int .i64 x.cp] 34)) (w.heap.size + 1) fs c4 := hm4.blk_iff NN (hal.block _ l4)
      obtain ⟨O1, hO1⟩ : ∃ O, O = Obj.map (MR.ents IN.enc (MR.put es x.id (.bool true) c3)).toArray (MR.clock' es x.id c3) := ⟨_, rfl⟩
      have hu1 : (Instr.mapUpdate 84 (.map (some w.heap.size)) (.int .i64 x.id) (.bool true)).run Try.prog (w2.alloc (.cells #[.int .i64 x.id, .int .i64 x.r, .int .u32 (x.ad : Int), .int .i64 x.ln, .int .i64 x.cp] 34)) = .ok () (setBlock (w2.alloc (.cells #[.int .i64 x.id, .int .i64 x.r, .int .u32 (x.ad : Int), .int .i64 x.ln, .int .i64 x.cp] 34)) w.heap.size O1) := by rw [hO1]; exact (MR.run_update IN hm3a hbd.1 Try.underlying84 (.bool true)).1
      have hm3b : MR.MapAt IN (setBlock (w2.alloc (.cells #[.int .i64 x.id, .int .i64 x.r, .int .u32 (x.ad : Int), .int .i64 x.ln, .int .i64 x.cp] 34)) w.heap.size O1) w.heap.size (MR.put es x.id (.bool true) c3) (MR.clock' es x.id c3) := by rw [hO1]; exact (MR.run_update IN hm3a hbd.1 Try.underlying84 (.bool true)).2
      have hm4b : MR.MapAt NN (setBlock (w2.alloc (.cells #[.int .i64 x.id, .int .i64 x.r, .int .u32 (x.ad : Int), .int .i64 x.ln, .int .i64 x.cp] 34)) w.heap.size O1) (w.heap.size + 1) fs c4 := hm4a.blk_iff NN (setBlock_other (by omega))
      have hxs2 : IfS w2.heap.size x (setBlock (w2.alloc (.cells #[.int .i64 x.id, .int .i64 x.r, .int .u32 (x.ad : Int), .int .i64 x.ln, .int .i64 x.cp] 34)) w.heap.size O1) := (setBlock_other (by omega)).trans hxs
      obtain ⟨O2, hO2⟩ : ∃ O, O = Obj.map (MR.ents NN.enc (MR.put fs x.net (.bool true) c4)).toArray (MR.clock' fs x.net c4) := ⟨_, rfl⟩
      have hu2 : (Instr.mapUpdate 85 (.map (some (w.heap.size + 1))) (.agg #[.int .i64 x.r, .int .u32 (x.ad : Int), .int .i64 x.ln]) (.bool true)).run Try.prog (setBlock (w2.alloc (.cells #[.int .i64 x.id, .int .i64 x.r, .int .u32 (x.ad : Int), .int .i64 x.ln, .int .i64 x.cp] 34)) w.heap.size O1) = .ok () (setBlock (setBlock (w2.alloc (.cells #[.int .i64 x.id, .int .i64 x.r, .int .u32 (x.ad : Int), .int .i64 x.ln, .int .i64 x.cp] 34)) w.heap.size O1) (w.heap.size + 1) O2) := by rw [hO2]; exact (MR.run_update NN hm4b hbd.2 Try.underlying85 (.bool true)).1
      have hm4c : MR.MapAt NN (setBlock (setBlock (w2.alloc (.cells #[.int .i64 x.id, .int .i64 x.r, .int .u32 (x.ad : Int), .int .i64 x.ln, .int .i64 x.cp] 34)) w.heap.size O1) (w.heap.size + 1) O2) (w.heap.size + 1) (MR.put fs x.net (.bool true) c4) (MR.clock' fs x.net c4) := by rw [hO2]; exact (MR.run_update NN hm4b hbd.2 Try.underlying85 (.bool true)).2
      have hm3c : MR.MapAt IN (setBlock (setBlock (w2.alloc (.cells #[.int .i64 x.id, .int .i64 x.r, .int .u32 (x.ad : Int), .int .i64 x.ln, .int .i64 x.cp] 34)) w.heap.size O1) (w.heap.size + 1) O2) w.heap.size (MR.put es x.id (.bool true) c3) (MR.clock' es x.id c3) := hm3b.blk_iff IN (setBlock_other (by omega))
      have hbc : Below w.heap.size w (setBlock (setBlock (w2.alloc (.cells #[.int .i64 x.id, .int .i64 x.r, .int .u32 (x.ad : Int), .int .i64 x.ln, .int .i64 x.cp] 34)) w.heap.size O1) (w.heap.size + 1) O2) := below_setBlock (below_setBlock (bcall hb (Nat.le_refl _) hal) (Nat.le_refl _)) (by omega)
      have H := Lib.hid (And.intro ((put_keysOf (.bool true) c3).trans t1.symm) (And.intro ((put_keysOf (.bool true) c4).trans t2.symm) (And.intro hm3c (And.intro hm4c hbc))))
      obtain ⟨z0, z1, z2, z3, z4⟩ := hxs.cells
      obtain ⟨y0, y1, y2, y3, y4⟩ := hxs2.cells
      clear hO1 hO2 hm3a hm3b hm4a hm4b hm3c hm4c hbc hxs hxs2 hal hm3 hm4 hb hbd t1 t2 hat hes hfs hlen
      go_wp2_with fail
      exact ⟨⟨i + 1, _, _, _, _, hlt, by first | rw [hw3] | rw [Int.natCast_succ], H.out.1, H.out.2.1, H.out.2.2.1, H.out.2.2.2.1, H.out.2.2.2.2⟩, by first | (rw [hw3]; exact mSucc hlt) | (rw [← Int.natCast_succ]; exact mSucc hlt)⟩
    · obtain rfl : n = i := by omega
      have hil : ((n : Int) < (n : Int)) = False := by simp
      have hlen := HL.out
      rw [List.take_of_length_le (by omega)] at hes hfs
      have e3 : es.length = (keysOf (l.map If.id)).length := by have := congrArg List.length hes; rwa [List.length_map] at this
      have e4 : fs.length = (keysOf (l.map If.net)).length := by have := congrArg List.length hfs; rwa [List.length_map] at this
      have hl3 := fun ty => MR.run_len IN hm3 Try.underlying84 ty
      have hl4 := fun ty => MR.run_len NN hm4 Try.underlying85 ty
      have hid := keysOf_len (l.map If.id)
      have hnt := keysOf_len (l.map If.net)
      rw [List.length_map, ← hlen, ← e3] at hid
      rw [List.length_map, ← hlen, ← e4] at hnt
      generalize es.length = m at *
      generalize fs.length = m2 at *
      have HB := Lib.hid hb
      have HK := Lib.hid (hcontains_any (F.out.keep hb).ifs)
      have HID := Lib.hid (And.intro hid hnt)
      have hbk := HBK.out
      unfold goodB at hbk
      rw [← hlen] at hbk
      have hmn1 := hid.2.2
      have hmn2 := hnt.2.2
      clear hb hm3 hm4 hes hfs e3 e4 hlen hid hnt
      by_cases h256 : n ≤ 256
      · have h25 : ((256 : Int) < (n : Int)) = False := by simp; omega
        by_cases hn1 : (l.map If.id).Nodup
        · have hl1 : (m < n) = False := by have := HID.out.1.1 hn1; simp; omega
          by_cases hn2 : (l.map If.net).Nodup
          · have hl2 : (m2 < n) = False := by have := HID.out.2.1 hn2; simp; omega
            rw [decide_eq_true h256, decide_eq_true hn1, decide_eq_true hn2, Bool.true_and, Bool.true_and, Bool.true_and] at hbk
            rw [hbk] at HK
            clear h256 hn1 hn2 hbk
            go_wp2_with fail
            refine (HK.out).mono ?_
            rintro e W3 ⟨rfl, hb3⟩
            have HB3 := Lib.hid (bcall HB.out (Nat.le_refl _) hb3)
            clear hb3 HB HK hl3 hl4
            cases b with
            | true =>
              go_wp2_with fail
              go_ret
              exact ⟨rfl, HB3.out⟩
            | false =>
              go_wp2_with fail
              go_ret
              exact ⟨rfl, HB3.out⟩
          · have hl2 : (m2 < n) = True := by have := HID.out.2.2.1 hn2; simp; omega
            rw [decide_eq_false hn2, Bool.and_false, Bool.false_and] at hbk
            subst hbk
            clear h256 hn1 hn2
            go_wp2_with fail
            go_ret
            exact ⟨rfl, HB.out⟩
        · have hl1 : (m < n) = True := by have := HID.out.1.2.1 hn1; simp; omega
          rw [decide_eq_false hn1, Bool.and_false, Bool.false_and, Bool.false_and] at hbk
          subst hbk
          clear h256 hn1
          go_wp2_with fail
          go_ret
          exact ⟨rfl, HB.out⟩
      · have h25 : ((256 : Int) < (n : Int)) = True := by simp; omega
        rw [decide_eq_false h256, Bool.false_and, Bool.false_and, Bool.false_and] at hbk
        subst hbk
        clear h256
        go_wp2_with fail
        go_ret
        exact ⟨rfl, HB.out⟩
end Go.Proofs.Ytlkbaplfffbmkaa
