/- slices.Collect, slices.SortedFunc, nlri.Sort. -/
import Derived.Test.YtpjfgfdpngibgaaQaf
import Derived.Test.YtpjfgfdpngibgaaQac
import Derived.Laws.CopyOwn
import Derived.Test.YtpjfgfdpngibgaaQaa
import Derived.Laws.Tables
import Derived.Deep.Quiet
namespace Go.Proofs.Ytpjfgfdpngibgaa
open Go.RowKit
open Go.ChangeMaps (setBlock)

theorem swoN : Go.Sort.SWO (Go.Proofs.ltOf cmpN) := by
  have h : ∀ x y : Nl, Go.Proofs.ltOf cmpN x y = ltN x y := by
    intro x y
    unfold Go.Proofs.ltOf
    have := @cmpN_lt x y
    cases hh : ltN x y with
    | true => rw [hh] at this; simpa using this
    | false => rw [hh] at this; simpa using this
  refine ⟨fun x => by rw [h]; exact ltN_irr _, fun x y z h1 h2 => by rw [h] at *; exact ltN_trans h1 h2, fun x y z h1 h2 => ?_⟩
  rw [h] at *
  rw [Bool.eq_false_iff] at *
  rw [ne_eq, ltN_iff] at *
  omega
theorem cmpN_lays (g n : Nat) (w : World) : Go.Proofs.CmpLays Try.prog 20 #[] RNl.cells RNl.k cmpN g 0 n w := by
  intro m os dk _ x y
  exact ncompare_any x y _
theorem enters_cmp : Go.Proofs.Enters Try.prog 20 := Go.Proofs.enters_of Try.func20 (by decide) rfl
theorem sorted_sortN {K M L : List Nl} (hp : M.Perm K) (hs : Rep.SortedBy cmpN M) (hn : K.Nodup) (hm : ∀ y, y ∈ K ↔ y ∈ L) : M = sortN L :=
  sortN_is (OrdN.of hs (hp.symm.nodup hn)) (fun y => by rw [hp.mem_iff, hm])
theorem ncollect_any {w : World} {bm qk clk : Nat} {es : List (MR.Ent Nl)} (hm : MR.MapAt NN w bm es clk) (hx : w.heap[qk]? = some (.cells #[.map (some bm)] 86)) (hlen : es.length ≤ 4611686) : Calls Try.prog 78 #[.func (.func 80) #[] #[.pointer (some ⟨qk, 0, none⟩)]] w fun e w' => ∃ v L, e = .returned v ∧ RNl.Own w' w.heap.size v L ∧ L.Perm (es.map (·.1)) ∧ Below w.heap.size w w' := by
  have H := Lib.hid (appendSeq_any hm hx hlen)
  clear hm hx hlen
  go_enter Try.func78, Try.ntmps78
  go_wp2_with fail
  refine (H.out).mono ?_
  rintro e W1 ⟨v, L, rfl, h1, h2, h3⟩
  have HA := Lib.hid (And.intro h1 (And.intro h2 h3))
  clear h1 h2 h3
  go_wp2_with fail
  go_ret
  exact ⟨_, L, rfl, HA.out⟩
theorem nsortedFunc_any {w : World} {bm qk clk : Nat} {es : List (MR.Ent Nl)} {L : List Nl} (hm : MR.MapAt NN w bm es clk) (hx : w.heap[qk]? = some (.cells #[.map (some bm)] 86)) (hlen : es.length ≤ 4611686) (hL : ∀ y, y ∈ es.map (·.1) ↔ y ∈ L) : Calls Try.prog 49 #[.func (.func 80) #[] #[.pointer (some ⟨qk, 0, none⟩)], .func (.func 20) #[] #[]] w fun e w' => ∃ v, e = .returned v ∧ RNl.Own w' w.heap.size v (sortN L) ∧ Below w.heap.size w w' := by
  have H := Lib.hid (ncollect_any hm hx hlen)
  have HM := Lib.hid (And.intro hm.nodup (And.intro hlen hL))
  clear hm hx hlen hL
  go_enter Try.func49, Try.ntmps49
  go_wp2_with fail
  refine (H.out).mono ?_
  rintro e W1 ⟨v, K, rfl, hown, hp, hb⟩
  have hln : K.length < 4611686018427387904 := by
    have h1 := hp.length_eq
    rw [List.length_map] at h1
    have h2 := HM.out.2.1
    omega
  have HS := Lib.hid (Rep.sort_own (R := RNl) sortNl Try.isAgg41 Try.sizeOf41 cmpN swoN 20 #[] enters_cmp hown (fun g => cmpN_lays g _ _) hln hb.size)
  have HB := Lib.hid (And.intro hp hb)
  clear hown hp hb hln
  go_wp2_with fail
  refine HS.out.mono ?_
  rintro ev w9 ⟨rfl, M, hp, hs, hown9, hb9⟩
  have HE := Lib.hid (show RNl.Own w9 w.heap.size v (sortN L) ∧ Below w.heap.size w w9 from by
    have := sorted_sortN (hp.trans HB.out.1) hs HM.out.1 HM.out.2.2
    subst this
    exact ⟨hown9, HB.out.2.trans hb9⟩)
  clear hp hs hown9 hb9 HS
  go_wp2_with fail
  go_ret
  exact ⟨_, rfl, HE.out.1, HE.out.2⟩
theorem below_setBlock {B b : Nat} {w W : World} {o : Obj} (h : Below B w W) (hb : B ≤ b) : Below B w (setBlock W b o) :=
  ⟨h.os, h.tape, h.output, by show w.heap.size ≤ (W.heap.setIfInBounds b o).size; rw [Array.size_setIfInBounds]; exact h.size, fun i hi => by
    show (W.heap.setIfInBounds b o)[i]? = _
    rw [Array.getElem?_setIfInBounds, if_neg (by omega)]
    exact h.block i hi⟩
set_option maxRecDepth 100000 in
set_option maxHeartbeats 4000000 in
theorem nsort_any {w : World} {oa : Option Addr} {n c : Nat} {L : List Nl} (h : Nls w oa n c L) (hwf : ∀ x ∈ L, Nl.wf x) (hmx : n ≤ 4611686) : Calls Try.prog 23 #[.slice oa n c] w fun e w' => ∃ v, e = .returned v ∧ RNl.Own w' w.heap.size v (sortN L) ∧ Below w.heap.size w w' := by
  have hn := h.sl.len
  have hal := (Below.refl w.heap.size w).alloc (Nat.le_refl _) (.map #[] 0)
  have m3 : MR.MapAt NN (w.alloc (.map #[] 0)) w.heap.size [] 0 := MR.mapAt_made NN (hnew _ _)
  have F := Lib.hid (And.intro h (And.intro hn hwf))
  have G := Lib.hid (And.intro m3 hal)
  clear h hn hwf hal m3
  have hmm := @run_makeMap Try.prog
  go_enter Try.func23, Try.ntmps23
  go_wp2_with fail
  clear hmm
  generalize (w.alloc (.map #[] 0)) = W at *
  go_loopw [9] (fun iv wr => ∃ (i : Nat) (es : List (MR.Ent Nl)) (c3 : Nat), i ≤ n ∧ iv = .int .i64 i ∧ es.map (·.1) = keysOf ((L.take i).map id) ∧ MR.MapAt NN wr w.heap.size es c3 ∧ Below w.heap.size w wr) (fun iv _ => n - (intOf iv).toNat)
  case atStart => exact ⟨0, [], 0, Nat.zero_le _, rfl, rfl, G.out.1, G.out.2⟩
  case round =>
    obtain ⟨i, es, c3, hi, rfl, hes, hm3, hb⟩ := hrel
    obtain ⟨w2, rfl⟩ : ∃ w2 : World, w2 = wr := ⟨_, rfl⟩
    by_cases hlt : i < n
    · have hil : ((i : Int) < (n : Int)) = True := by simp; omega
      have hw3 := wrapS hlt (show n ≤ maxLen by unfold maxLen; omega)
      have hlen : L.length = n := F.out.2.1.symm
      obtain ⟨b0, o0, rfl, hbb, hat⟩ := (F.out.1.keep hb).sl.at hlt
      have c0 := hat 0 (by decide)
      have c1 := hat 1 (by decide)
      have c2 := hat 2 (by decide)
      simp only [RNl, Nat.add_zero, List.getElem?_cons_zero, List.getElem?_cons_succ] at c0 c1 c2
      have hbd := F.out.2.2 _ (getD_mem (i := i) (by omega))
      have t1 := keysOf_succ id (L := L) (i := i) (by omega)
      rw [← hes] at t1
      generalize L.getD i default = x at *
      have hal := (Below.refl w2.heap.size w2).alloc (Nat.le_refl _) (.cells #[.int .i64 x.id, .int .u32 (x.a : Int), .int .i64 x.ln] 41)
      have hxs : (w2.alloc (.cells #[.int .i64 x.id, .int .u32 (x.a : Int), .int .i64 x.ln] 41)).heap[w2.heap.size]? = some (.cells #[.int .i64 x.id, .int .u32 (x.a : Int), .int .i64 x.ln] 41) := hnew _ _
      have l3 : w.heap.size < w2.heap.size := lt_of_blk hm3.blk
      have hm3a : MR.MapAt NN (w2.alloc (.cells #[.int .i64 x.id, .int .u32 (x.a : Int), .int .i64 x.ln] 41)) w.heap.size es c3 := hm3.blk_iff NN (hal.block _ l3)
      obtain ⟨O1, hO1⟩ : ∃ O, O = Obj.map (MR.ents NN.enc (MR.put es x (.bool true) c3)).toArray (MR.clock' es x c3) := ⟨_, rfl⟩
      have hu1 : (Instr.mapUpdate 86 (.map (some w.heap.size)) (.agg #[.int .i64 x.id, .int .u32 (x.a : Int), .int .i64 x.ln]) (.bool true)).run Try.prog (w2.alloc (.cells #[.int .i64 x.id, .int .u32 (x.a : Int), .int .i64 x.ln] 41)) = .ok () (setBlock (w2.alloc (.cells #[.int .i64 x.id, .int .u32 (x.a : Int), .int .i64 x.ln] 41)) w.heap.size O1) := by rw [hO1]; exact (MR.run_update NN hm3a hbd Try.underlying86 (.bool true)).1
      have hm3b : MR.MapAt NN (setBlock (w2.alloc (.cells #[.int .i64 x.id, .int .u32 (x.a : Int), .int .i64 x.ln] 41)) w.heap.size O1) w.heap.size (MR.put es x (.bool true) c3) (MR.clock' es x c3) := by rw [hO1]; exact (MR.run_update NN hm3a hbd Try.underlying86 (.bool true)).2
      have hbc : Below w.heap.size w (setBlock (w2.alloc (.cells #[.int .i64 x.id, .int .u32 (x.a : Int), .int .i64 x.ln] 41)) w.heap.size O1) := below_setBlock (bcall hb (Nat.le_refl _) hal) (Nat.le_refl _)
      have H := Lib.hid (And.intro ((put_keysOf (.bool true) c3).trans t1.symm) (And.intro hm3b hbc))
      have z0 := cell_of (o := 0) hxs rfl
      have z1 := cell_of (o := 1) hxs rfl
      have z2 := cell_of (o := 2) hxs rfl
      clear hO1 hm3a hm3b hbc hxs hal hm3 hb hbd t1 hat hes hlen
      go_wp2_with fail
      exact ⟨⟨i + 1, _, _, hlt, by first | rw [hw3] | rw [Int.natCast_succ], H.out.1, H.out.2.1, H.out.2.2⟩, by first | (rw [hw3]; exact mSucc hlt) | (rw [← Int.natCast_succ]; exact mSucc hlt)⟩
    · obtain rfl : n = i := by omega
      have hil : ((n : Int) < (n : Int)) = False := by simp
      rw [List.take_of_length_le (by have := F.out.2.1; omega), List.map_id] at hes
      have hel : es.length ≤ 4611686 := by
        have h1 := congrArg List.length hes
        rw [List.length_map] at h1
        have h2 := (keysOf_len L).2.2
        have h3 := F.out.2.1
        omega
      have HM := Lib.hid (show ∀ y, y ∈ es.map (·.1) ↔ y ∈ L from fun y => by rw [hes]; exact keysOf_mem L y)
      have hal := (Below.refl w2.heap.size w2).alloc (Nat.le_refl _) (.cells #[.map (some w.heap.size)] 86)
      have HK := Lib.hid (nsortedFunc_any (hm3.blk_iff NN (hal.block _ (lt_of_blk hm3.blk))) (hnew w2 (.cells #[.map (some w.heap.size)] 86)) hel HM.out)
      have HB := Lib.hid (And.intro (bcall hb (Nat.le_refl _) hal) (Nat.le_trans hb.size hal.size))
      clear hes hm3 hb hel hal
      go_wp2_with fail
      refine (keys_any _ _).mono ?_
      rintro e W3 ⟨rfl, hw⟩
      subst hw
      go_wp2_with fail
      refine HK.out.mono ?_
      rintro e W4 ⟨v, rfl, h1, h2⟩
      have HE := Lib.hid (And.intro (h1.mono HB.out.2) (HB.out.1.trans (h2.mono HB.out.2)))
      clear h1 h2
      go_wp2_with fail
      go_ret
      exact ⟨_, rfl, HE.out⟩
end Go.Proofs.Ytpjfgfdpngibgaa
/- Put; Same. -/
namespace Go.Proofs.Ytpjfgfdpngibgaa
open Go.RowKit

def nbs (paths : Bool) (L : List Nl) : List Nat := L.flatMap (nb paths)
theorem nbs_take {paths : Bool} {L : List Nl} {i : Nat} (h : i < L.length) : nbs paths (L.take (i + 1)) = nbs paths (L.take i) ++ nb paths (L.getD i default) := by
  unfold nbs
  rw [List.take_succ_eq_append_getElem h, List.flatMap_append]
  simp [List.getD_eq_getElem?_getD, h]
theorem nbs_len {paths : Bool} : ∀ {L : List Nl}, L.all (okN paths) = true → (nbs paths L).length ≤ 9 * L.length
  | [], _ => Nat.le_refl _
  | x :: r, h => by
    rw [List.all_cons, Bool.and_eq_true] at h
    have h1 := nb_len paths h.1
    have h2 := nbs_len h.2
    unfold nbs at *
    rw [List.flatMap_cons, List.length_append, List.length_cons]
    omega
theorem okL_iff {paths : Bool} {L : List Nl} : okL paths L = true ↔ L.length ≤ 1024 ∧ L.all (okN paths) = true := by unfold okL; simp
set_option maxRecDepth 100000 in
set_option maxHeartbeats 1000000 in
theorem nput_bad {w : World} {oa : Option Addr} {n c : Nat} {L : List Nl} (h : Nls w oa n c L) (paths : Bool) (hok : okL paths L = false) : Calls Try.prog 11 #[.slice oa n c, .bool paths] w fun e w' => e = .returned (.tuple #[.slice none 0 0, .int .i64 60]) ∧ Below w.heap.size w w' := by
  have HK := Lib.hid (ncheck_any h paths)
  rw [hok] at HK
  clear h hok
  go_enter Try.func11, Try.ntmps11
  go_wp2_with fail
  refine (HK.out).mono ?_
  rintro e w1 ⟨rfl, hb⟩
  have HB2 := Lib.hid hb
  clear hb
  go_wp2_with fail
  go_ret2
  exact ⟨rfl, HB2.out⟩
set_option maxRecDepth 100000 in
set_option maxHeartbeats 2000000 in
theorem nput_any {w : World} {oa : Option Addr} {n c : Nat} {L : List Nl} (h : Nls w oa n c L) (paths : Bool) (hok : okL paths L = true) : Calls Try.prog 11 #[.slice oa n c, .bool paths] w fun e w' => ∃ v, e = .returned (.tuple #[v, .int .i64 0]) ∧ RB.Own w' w.heap.size v (nbs paths L) ∧ Below w.heap.size w w' := by
  have HK := Lib.hid (ncheck_any h paths)
  rw [hok] at HK
  have HL := Lib.hid h.sl.len
  have hlen : n ≤ 1024 := by have := (okL_iff.1 hok).1; have := h.sl.len; omega
  have F := Lib.hid (And.intro h (okL_iff.1 hok).2)
  have hmax := h.sl.max
  clear h hok
  go_enter Try.func11, Try.ntmps11
  go_wp2_with fail
  refine (HK.out).mono ?_
  rintro e w1 ⟨rfl, hb⟩
  have HB := Lib.hid hb
  clear hb
  go_wp2_with fail
  go_loopw [7, 18] (fun sv iv wr => ∃ i : Nat, i ≤ n ∧ iv = .int .i64 i ∧ RB.Own wr w.heap.size sv (nbs paths (L.take i)) ∧ Below w.heap.size w wr) (fun _ iv _ => n - (intOf iv).toNat)
  case atStart => exact ⟨0, Nat.zero_le _, rfl, Rep.Own.nil _ _, HB.out⟩
  case round =>
    obtain ⟨i, hi, rfl, hown, hb⟩ := hrel
    obtain ⟨w2, rfl⟩ : ∃ w2 : World, w2 = wr := ⟨_, rfl⟩
    by_cases hlt : i < n
    · have hil : ((i : Int) < (n : Int)) = True := by simp; omega
      have hw3 := wrapS hlt hmax
      obtain ⟨b0, o0, rfl, hbb, hat⟩ := (F.out.1.keep hb).sl.at hlt
      have c0 := hat 0 (by decide)
      have c1 := hat 1 (by decide)
      have c2 := hat 2 (by decide)
      simp only [RNl, Nat.add_zero, List.getElem?_cons_zero, List.getElem?_cons_succ] at c0 c1 c2
      have hll : i < L.length := by have := HL.out; omega
      have ht := nbs_take (paths := paths) hll
      have hmem : L.getD i default ∈ L := getD_mem hll
      have hokx := List.all_eq_true.1 F.out.2 _ hmem
      have hl1 := nb_len paths hokx
      have hl2 : (nbs paths (L.take i)).length ≤ 9 * i := by
        have h1 := nbs_len (paths := paths) (L := L.take i) (List.all_eq_true.2 fun x hx => List.all_eq_true.1 F.out.2 x (List.mem_of_mem_take hx))
        rw [List.length_take] at h1
        omega
      have HBy := Lib.hid (nbytes_any paths (F.out.1.ad _ hmem) hokx)
      generalize L.getD i default = y at *
      obtain ⟨oa2, cc, rfl, -, -⟩ := hown.sl0
      have HG := Lib.hid (And.intro hown (And.intro hb ht))
      generalize nb paths y = YB at *
      generalize nbs paths (L.take i) = XB at *
      unfold Nl.v at HBy
      clear hown hb hat hmem hokx ht
      generalize hxl : XB.length = xl at *
      go_wp2_with (with_reducible refine halt_store 41 rfl ?_)
      refine Halted.go ?_
      have hal := (Below.refl w2.heap.size w2).alloc (Nat.le_refl _) (.cells #[.int .i64 0, .int .u32 0, .int .i64 0] 41)
      refine store_whole rfl 41 _ _ rfl w2.heap.size #[.int .i64 y.id, .int .u32 (y.a : Int), .int .i64 y.ln] rfl rfl (hnew _ _) rfl (by kernel_rfl) (by simp [Value.oneCell']) ?_
      intro wz hwz hsz
      have hzb : Below w2.heap.size w2 wz := Below.trans hal (hsz.below (Nat.le_refl _))
      obtain ⟨z0, z1, z2⟩ := BxN.cells (n := y) (W := wz) hwz
      have HZ := Lib.hid (And.intro (HG.out.1.below hzb) (bcall HG.out.2.1 (Nat.le_refl _) hzb))
      clear hwz hsz hal hzb c0 c1 c2
      generalize w2.heap.size = q2 at *
      go_wp2_with fail
      refine (HBy.out _).mono ?_
      rintro e w4 ⟨v4, rfl, hown4, hb4⟩
      obtain ⟨oa4, c4, rfl, hs4, hn4⟩ := hown4.sl0
      have HJ := Lib.hid (And.intro (HZ.out.1.below hb4) (And.intro (bcall HZ.out.2 (Nat.le_refl _) hb4) (And.intro hs4 hn4)))
      clear hown4 hb4 hs4 hn4 z0 z1 z2 HZ
      generalize hyl : YB.length = yl at *
      go_wp2_with (at_builtin; refine halt ?_)
      refine Halted.go ?_
      refine Rep.append_list T27 rfl _ _ rfl rfl HJ.out.1 (M := YB) rfl HJ.out.2.2.1 HJ.out.2.2.2 (by unfold maxLen; omega) (by omega) HJ.out.2.1.size ?_
      intro v5 w5 hown5 hb5 _
      have HM := Lib.hid (And.intro hown5 (HJ.out.2.1.trans hb5))
      clear hown5 hb5 HJ
      go_wp2_with fail
      exact ⟨⟨i + 1, hlt, by first | rw [hw3] | rw [Int.natCast_succ], by rw [HG.out.2.2]; exact HM.out.1, HM.out.2⟩, by first | (rw [hw3]; exact mSucc hlt) | (rw [← Int.natCast_succ]; exact mSucc hlt)⟩
    · obtain rfl : n = i := by omega
      have hil : ((n : Int) < (n : Int)) = False := by simp
      rw [show L.take n = L from List.take_of_length_le (by have := HL.out; omega)] at hown
      obtain ⟨oa2, cc, rfl, -, -⟩ := hown.sl0
      have HB := Lib.hid (And.intro hown hb)
      clear hb hown
      go_wp2_with fail
      go_ret2
      exact ⟨_, rfl, HB.out⟩
set_option maxRecDepth 100000 in
set_option maxHeartbeats 2000000 in
theorem rnput_any {w : World} {oa : Option Addr} {n c : Nat} {L : List Nl} (h : Nls w oa n c L) (paths : Bool) (hok : okL paths L = true) : Calls Try.prog 15 #[.slice oa n c, .bool paths] w fun e w' => ∃ v, e = .returned v ∧ RB.Own w' w.heap.size v (nbs paths L) ∧ Below w.heap.size w w' := by
  have HL := Lib.hid h.sl.len
  have hlen : n ≤ 1024 := by have := (okL_iff.1 hok).1; have := h.sl.len; omega
  have F := Lib.hid (And.intro h (okL_iff.1 hok).2)
  have hmax := h.sl.max
  clear h hok
  go_enter Try.func15, Try.ntmps15
  go_wp2_with fail
  go_loopw [5, 6] (fun sv iv wr => ∃ i : Nat, i ≤ n ∧ iv = .int .i64 i ∧ RB.Own wr w.heap.size sv (nbs paths (L.take i)) ∧ Below w.heap.size w wr) (fun _ iv _ => n - (intOf iv).toNat)
  case atStart => exact ⟨0, Nat.zero_le _, rfl, Rep.Own.nil _ _, Below.refl _ _⟩
  case round =>
    obtain ⟨i, hi, rfl, hown, hb⟩ := hrel
    obtain ⟨w2, rfl⟩ : ∃ w2 : World, w2 = wr := ⟨_, rfl⟩
    by_cases hlt : i < n
    · have hil : ((i : Int) < (n : Int)) = True := by simp; omega
      have hw3 := wrapS hlt hmax
      obtain ⟨b0, o0, rfl, hbb, hat⟩ := (F.out.1.keep hb).sl.at hlt
      have c0 := hat 0 (by decide)
      have c1 := hat 1 (by decide)
      have c2 := hat 2 (by decide)
      simp only [RNl, Nat.add_zero, List.getElem?_cons_zero, List.getElem?_cons_succ] at c0 c1 c2
      have hll : i < L.length := by have := HL.out; omega
      have ht := nbs_take (paths := paths) hll
      have hmem : L.getD i default ∈ L := getD_mem hll
      have hokx := List.all_eq_true.1 F.out.2 _ hmem
      have hl1 := nb_len paths hokx
      have hl2 : (nbs paths (L.take i)).length ≤ 9 * i := by
        have h1 := nbs_len (paths := paths) (L := L.take i) (List.all_eq_true.2 fun x hx => List.all_eq_true.1 F.out.2 x (List.mem_of_mem_take hx))
        rw [List.length_take] at h1
        omega
      have HBy := Lib.hid (rnbytes_any paths (F.out.1.ad _ hmem) hokx)
      generalize L.getD i default = y at *
      obtain ⟨oa2, cc, rfl, -, -⟩ := hown.sl0
      have HG := Lib.hid (And.intro hown (And.intro hb ht))
      generalize nb paths y = YB at *
      generalize nbs paths (L.take i) = XB at *
      unfold Nl.v at HBy
      clear hown hb hat hmem hokx ht
      generalize hxl : XB.length = xl at *
      go_wp2_with fail
      refine (HBy.out _).mono ?_
      rintro e w4 ⟨v4, rfl, hown4, hb4⟩
      obtain ⟨oa4, c4, rfl, hs4, hn4⟩ := hown4.sl0
      have HJ := Lib.hid (And.intro (HG.out.1.below hb4) (And.intro (bcall HG.out.2.1 (Nat.le_refl _) hb4) (And.intro hs4 hn4)))
      clear hown4 hb4 hs4 hn4 c0 c1 c2
      generalize hyl : YB.length = yl at *
      go_wp2_with (at_builtin; refine halt ?_)
      refine Halted.go ?_
      refine Rep.append_list T27 rfl _ _ rfl rfl HJ.out.1 (M := YB) rfl HJ.out.2.2.1 HJ.out.2.2.2 (by unfold maxLen; omega) (by omega) HJ.out.2.1.size ?_
      intro v5 w5 hown5 hb5 _
      have HM := Lib.hid (And.intro hown5 (HJ.out.2.1.trans hb5))
      clear hown5 hb5 HJ
      go_wp2_with fail
      exact ⟨⟨i + 1, hlt, by first | rw [hw3] | rw [Int.natCast_succ], by rw [HG.out.2.2]; exact HM.out.1, HM.out.2⟩, by first | (rw [hw3]; exact mSucc hlt) | (rw [← Int.natCast_succ]; exact mSucc hlt)⟩
    · obtain rfl : n = i := by omega
      have hil : ((n : Int) < (n : Int)) = False := by simp
      rw [show L.take n = L from List.take_of_length_le (by have := HL.out; omega)] at hown
      obtain ⟨oa2, cc, rfl, -, -⟩ := hown.sl0
      have HB := Lib.hid (And.intro hown hb)
      clear hb hown
      go_wp2_with fail
      go_ret
      exact ⟨_, rfl, HB.out⟩
set_option maxRecDepth 100000 in
theorem nsame_any {w : World} {oa ob : Option Addr} {n ca cb : Nat} {l : List Nl} (h1 : RNl.Sl w oa n ca l) (h2 : RNl.Sl w ob n cb l) : Calls Try.prog 16 #[.slice oa n ca, .slice ob n cb] w fun e w' => e = .returned (.bool true) ∧ Below w.heap.size w w' := by
  have hmax := h1.max
  have F := Lib.hid (And.intro h1 h2)
  clear h1 h2
  go_enter Try.func16, Try.ntmps16
  go_wp2_with fail
  go_loopw [5] (fun iv wr => ∃ i : Nat, i ≤ n ∧ iv = .int .i64 i ∧ Below w.heap.size w wr) (fun iv _ => n - (intOf iv).toNat)
  case atStart => exact ⟨0, Nat.zero_le _, rfl, Below.refl _ _⟩
  case round =>
    obtain ⟨i, hi, rfl, hb⟩ := hrel
    obtain ⟨w2, rfl⟩ : ∃ w2 : World, w2 = wr := ⟨_, rfl⟩
    by_cases hlt : i < n
    · have hil : ((i : Int) < (n : Int)) = True := by simp; omega
      have hi0 : ((0 : Int) ≤ (i : Int)) = True := by simp
      have hw3 := wrapS hlt hmax
      obtain ⟨b0, o0, rfl, hbb, hat⟩ := (F.out.1.keep hb).at hlt
      obtain ⟨b1, o1, rfl, hbb1, hat1⟩ := (F.out.2.keep hb).at hlt
      generalize l.getD i default = x at *
      have c0 := hat 0 (by decide)
      have c1 := hat 1 (by decide)
      have c2 := hat 2 (by decide)
      have d0 := hat1 0 (by decide)
      have d1 := hat1 1 (by decide)
      have d2 := hat1 2 (by decide)
      simp only [RNl, Nat.add_zero, List.getElem?_cons_zero, List.getElem?_cons_succ] at c0 c1 c2 d0 d1 d2
      have HB := Lib.hid hb.drew
      clear hb hat hat1 hbb hbb1
      go_wp2_with fail
      refine wp_region_quiet_tail (fun w' => w' = w2.drew) 8 (by kernel_rfl) (by kernel_rfl) rfl ?_
      simp only [List.take_succ_cons, List.take_zero, List.drop_succ_cons, List.drop_zero]
      iterate 8 ((with_reducible refine wpQuiet_step (fun K hK => ?_)); go_simp; first | (rw [if_neg (by decide)]; (with_reducible refine hK _ ?_); clear hK K) | ((with_reducible refine hK _ ?_); clear hK K) | (apply Exists.intro; (with_reducible refine ⟨fun w' hw' => ?_, hK _ ?_⟩); (subst hw'; first | (go_simp; first | exact rfl | exact ⟨rfl, rfl⟩) | exact rfl | exact ⟨rfl, rfl⟩); clear hK K))
      refine wpQuiet_nil ?_
      rintro _ rfl
      go_wp2_with fail
      exact ⟨⟨i + 1, hlt, by first | rw [hw3] | rw [Int.natCast_succ], HB.out⟩, by first | (rw [hw3]; exact mSucc hlt) | (rw [← Int.natCast_succ]; exact mSucc hlt)⟩
    · obtain rfl : n = i := by omega
      have hil : ((n : Int) < (n : Int)) = False := by simp
      have HB := Lib.hid hb
      clear hb
      go_wp2_with fail
      go_ret
      exact ⟨rfl, HB.out⟩
end Go.Proofs.Ytpjfgfdpngibgaa
/- The prefix with which bytes begin. -/
namespace Go.Proofs.Ytpjfgfdpngibgaa
open Go.RowKit

theorem sl_flat {α : Type} [Inhabited α] {R : Rep α} {w : World} {b : Nat} {M : List α} {T : TypeId} {fr : Nat × Nat} (h : w.heap[b]? = some (.cells (R.flat M).toArray T fr)) (hm : M.length ≤ maxLen) : R.Sl w (some ⟨b, 0, none⟩) M.length M.length M :=
  ⟨rfl, hm, fun _ => ⟨b, 0, rfl, lt_of_blk h, fun i hi j hj => by
    rw [Nat.zero_add]
    have e := R.flat_get M i j hi hj
    rw [← e]
    simp [World.cell?, h]⟩⟩
def pad4 (l : List Nat) : List Nat := (l ++ [0, 0, 0, 0]).take 4
theorem pad4_len (l : List Nat) : (pad4 l).length = 4 := by unfold pad4; rw [List.length_take, List.length_append]; simp
theorem pad4_bytes {l : List Nat} (h : Bytes l) : Bytes (pad4 l) := by
  intro x hx
  have := List.mem_of_mem_take hx
  rw [List.mem_append] at this
  rcases this with h1 | h1
  · exact h x h1
  · simp at h1; subst h1; decide
theorem pad4_lt {l : List Nat} (h : Bytes l) : getN (pad4 l) < 4294967296 := by
  have := getN_lt _ (pad4_bytes h)
  rw [pad4_len] at this
  exact this
theorem pad4_splice {l : List Nat} (h : l.length ≤ 4) : splice [Value.int .u8 0, .int .u8 0, .int .u8 0, .int .u8 0] 0 (RB.flat l) = RB.flat (pad4 l) := by
  match l, h with
  | [], _ => rfl
  | [a], _ => rfl
  | [a, b], _ => rfl
  | [a, b, c], _ => rfl
  | [a, b, c, d], _ => rfl
  | a :: b :: c :: d :: e :: r, h => simp at h
/-- the prefix with which bytes begin, and how many bytes it has -/
def getP : List Nat → Option (Nat × Nat × Nat)
  | [] => none
  | m :: r => if 32 < m then none else if r.length < szB m then none else some (cut (getN (pad4 (r.take (szB m)))) m, m, 1 + szB m)
theorem rd_first (l : List Nat) : rdB ((1 : Nat) : Int) l false = (l.take 1, l.tail, l.isEmpty) := by
  cases l with
  | nil => simp [rdB]
  | cons x r => simp [rdB]; omega
theorem getN_first (l : List Nat) : getN (l.take 1) = l.headD 0 := by
  cases l with
  | nil => rfl
  | cons x r => simp [getN]
/-- as the reader finds it -/
theorem getP_rd (l : List Nat) : getP l = if 32 < l.headD 0 then none else if (rdB (szB (l.headD 0) : Nat) l.tail l.isEmpty).2.2 = true then none else some (cut (getN (pad4 (rdB (szB (l.headD 0) : Nat) l.tail l.isEmpty).1)) (l.headD 0), l.headD 0, 1 + szB (l.headD 0)) := by
  cases l with
  | nil => simp [getP, rdB]
  | cons m r =>
    show (if 32 < m then none else if r.length < szB m then none else some (cut (getN (pad4 (r.take (szB m)))) m, m, 1 + szB m)) = if 32 < m then none else if (rdB (szB m : Nat) r false).2.2 = true then none else some (cut (getN (pad4 (rdB (szB m : Nat) r false).1)) m, m, 1 + szB m)
    by_cases h1 : 32 < m
    · rw [if_pos h1, if_pos h1]
    · rw [if_neg h1, if_neg h1]
      by_cases h2 : r.length < szB m
      · have : rdB (szB m : Nat) r false = ([], r, true) := by simp [rdB, h2]
        rw [if_pos h2, this, if_pos rfl]
      · have : rdB (szB m : Nat) r false = (r.take (szB m), r.drop (szB m), false) := by simp [rdB]; omega
        rw [if_neg h2, this, if_neg (by simp)]
def retP (o : Option (Nat × Nat × Nat)) : Value := match o with
  | none => .tuple #[.agg #[.int .u32 0, .int .i64 0], .int .i64 0, .int .i64 20]
  | some (a, m, k) => .tuple #[.agg #[.int .u32 (a : Int), .int .i64 (m : Int)], .int .i64 (k : Int), .int .i64 0]
theorem head_lt {l : List Nat} (h : Bytes l) : l.headD 0 < 256 := by
  cases l with
  | nil => decide
  | cons x r => exact h x (by simp)
theorem bad_cell {g : Nat} {bad : Bool} {w : World} (e1 : w.cell? ⟨g, 1, none⟩ = some (.bool bad)) : Calls Try.prog 71 #[.pointer (some ⟨g, 0, none⟩)] w fun e w' => e = .returned (.bool bad) ∧ w' = w := by
  go_enter Try.func71, Try.ntmps71
  go_wp2_with fail
  go_ret
  exact ⟨rfl, rfl⟩
theorem RB.flat_len (l : List Nat) : (RB.flat l).length = l.length := by rw [Rep.flat_length]; exact Nat.mul_one _
set_option maxRecDepth 100000 in
set_option maxHeartbeats 4000000 in
theorem aget_any {w : World} {oa : Option Addr} {n c : Nat} {l : List Nat} (h : RB.Sl w oa n c l) (hnil : oa = none → c = 0) (hby : Bytes l) (hn : n ≤ 100000) : Calls Try.prog 74 #[.slice oa n c] w fun e w' => e = .returned (retP (getP l)) ∧ Below w.heap.size w w' := by
  have HG := Lib.hid (getP_rd l)
  generalize getP l = res at *
  have hal := (Below.refl w.heap.size w).alloc (Nat.le_refl _) (.cells #[.int .u32 0, .int .i64 0] 39)
  have hF := from_any (h.keep hal) hnil hby hn
  have F0 := Lib.hid (And.intro hal (And.intro (show BxP w.heap.size ((0, 0) : PK) (w.alloc (.cells #[.int .u32 0, .int .i64 0] 39)) from hnew _ _) hF))
  clear h hal hF
  go_enter Try.func74, Try.ntmps74
  go_wp2_with fail
  refine (F0.out.2.2).mono ?_
  rintro e w1 ⟨⟨g, rfl, hg, hrd⟩, hb⟩
  have hqg : w.heap.size < g := by simp at hg; omega
  have hN := num_any (k := 1) (.inl rfl) hrd
  rw [rd_first] at hN
  dsimp only at hN
  rw [getN_first] at hN
  have F1 := Lib.hid (And.intro (bcall F0.out.1 (by simp) hb) (And.intro (F0.out.2.1.keep hb) hN))
  have hml := head_lt hby
  have HR := Lib.hid (And.intro (rdB_len (szB (l.headD 0)) l.tail l.isEmpty) (rdB_bytes (szB (l.headD 0) : Nat) l.tail l.isEmpty (fun x hx => hby x (List.mem_of_mem_tail hx))))
  generalize l.headD 0 = m at *
  generalize l.tail = l1 at *
  generalize l.isEmpty = bad1 at *
  clear hg hrd hb hN F0 hby
  go_wp2_with fail
  refine (F1.out.2.2).mono ?_
  rintro e w2 ⟨rfl, hrd, hbt⟩
  have hb2 : Below w.heap.size w w2 := Below.step F1.out.1 F1.out.1.size hbt (by intro b hb; simp at hb; omega)
  have hx2 : BxP w.heap.size ((0, 0) : PK) w2 := (hbt.block _ (lt_of_blk F1.out.2.1) (by simp; omega)).trans F1.out.2.1
  have F2 := Lib.hid (And.intro hb2 (And.intro hx2 hrd))
  clear hrd hbt hb2 hx2 F1
  by_cases hm : 32 < m
  · have hmt : ((32 : Int) < (m : Int)) = True := by simp; omega
    have HM := Lib.hid hm
    clear hm
    go_wp2_with (with_reducible refine halt_store 39 rfl ?_)
    refine Halted.go ?_
    have hal := (Below.refl w2.heap.size w2).alloc (Nat.le_refl _) (.cells #[.int .u8 0, .int .u8 0, .int .u8 0, .int .u8 0] 150)
    have hxa : BxP w.heap.size ((0, 0) : PK) (w2.alloc (.cells #[.int .u8 0, .int .u8 0, .int .u8 0, .int .u8 0] 150)) := F2.out.2.1.keep hal
    refine store_whole rfl 39 _ _ rfl w.heap.size #[.int .u32 0, .int .i64 0] rfl rfl hxa rfl (by kernel_rfl) (by simp [Value.oneCell']) ?_
    intro wz hwz hsz
    have HZ := Lib.hid (And.intro hwz ((bcall F2.out.1 (Nat.le_refl _) hal).trans (hsz.below (Nat.le_refl _))))
    clear hwz hsz hal hxa
    go_wp2_with fail
    refine ret_cell3 rfl rfl rfl HZ.out.1 Try.underlying39 rfl (by kernel_rfl) ⟨?_, HZ.out.2⟩
    rw [HG.out, if_pos HM.out]
    rfl
  · have hmt : ((32 : Int) < (m : Int)) = False := by simp; omega
    have hm32 : m ≤ 32 := by omega
    have HM := Lib.hid hm
    have HS := Lib.hid (size_any m hm32)
    have hk4 := szB_le hm32
    generalize szB m = k at *
    clear hm hml
    go_wp2_with fail
    refine wp_region_heldP (fun _ => True) (by kernel_rfl) ?_
    have hal := ((Below.refl w2.heap.size w2).alloc (Nat.le_refl _) (.cells #[.int .u8 0, .int .u8 0, .int .u8 0, .int .u8 0] 150)).drew
    have hq4 : (w2.alloc (.cells #[.int .u8 0, .int .u8 0, .int .u8 0, .int .u8 0] 150)).drew.heap[w2.heap.size]? = some (.cells #[.int .u8 0, .int .u8 0, .int .u8 0, .int .u8 0] 150) := hnew _ _
    have hrd := F2.out.2.2.on hal
    have hgl : g < w2.heap.size := F2.out.2.2.lt
    have hby := rbytes_any hrd (k : Int)
    have F3 := Lib.hid (And.intro (bcall F2.out.1 (Nat.le_refl _) hal) (And.intro (F2.out.2.1.keep hal) (And.intro hq4 hby)))
    clear hal hq4 hrd hby
    generalize (w2.alloc (.cells #[.int .u8 0, .int .u8 0, .int .u8 0, .int .u8 0] 150)).drew = W3 at *
    obtain ⟨q4, hq4⟩ : ∃ q, w2.heap.size = q := ⟨_, rfl⟩
    rw [hq4] at F3 hgl ⊢
    have hsl1 : ∀ W, (Instr.sliceAt 150 (.pointer (some ⟨q4, 0, none⟩)) none none none).run Try.prog W = .ok (.slice (some ⟨q4, 0, none⟩) 4 4) W := fun W => by kernel_rfl
    refine held_reads [0, 1, 2] (g := 3) rfl (by kernel_rfl) trivial (fun _ _ d _ _ h => by cases d <;> exact h) ?_
    simp only [pick, List.getD_cons_zero, List.getD_cons_succ]
    ((with_reducible refine wpRead_step (fun K hK => ?_)); go_simp; first | ((with_reducible refine hK _ ?_); clear hK K) | (apply Exists.intro; (with_reducible refine ⟨fun w' hw' => ?_, hK _ ?_⟩); (first | exact rfl | exact ⟨rfl, rfl⟩); clear hK K))
    ((with_reducible refine wpRead_step (fun K hK => ?_)); go_simp; first | ((with_reducible refine hK _ ?_); clear hK K) | (apply Exists.intro; (with_reducible refine ⟨fun w' hw' => ?_, hK _ ?_⟩); (first | exact rfl | exact ⟨rfl, rfl⟩); clear hK K))
    ((with_reducible refine wpRead_step (fun K hK => ?_)); go_simp; first | ((with_reducible refine hK _ ?_); clear hK K) | (apply Exists.intro; (with_reducible refine ⟨fun w' hw' => ?_, hK _ ?_⟩); (first | exact rfl | exact ⟨rfl, rfl⟩); clear hK K))
    with_reducible refine wpRead_nil ?_
    refine held_one 3 (by kernel_rfl) ?_
    simp only [pick, List.getD_cons_zero, List.getD_cons_succ]
    go_wp2_with fail
    refine (HS.out _).mono ?_
    rintro e W9 ⟨rfl, hw⟩
    have hw := hw.symm
    subst hw
    go_wp2_with fail
    refine ⟨trivial, ?_⟩
    refine held_one 4 (by kernel_rfl) ?_
    simp only [pick, List.getD_cons_zero, List.getD_cons_succ]
    go_wp2_with fail
    refine (F3.out.2.2.2).mono ?_
    rintro e W4 ⟨⟨v4, rfl, hown⟩, hrd, hbt⟩
    have hne : w.heap.size ≠ q4 := by have := F3.out.1.size; omega
    have hb4 : Below w.heap.size w W4 := Below.step F3.out.1 F3.out.1.size hbt (by intro b hb; simp at hb; omega)
    have hx4 : BxP w.heap.size ((0, 0) : PK) W4 := (hbt.block _ (lt_of_blk F3.out.2.1) (by simp; omega)).trans F3.out.2.1
    have hq44 : W4.heap[q4]? = some (.cells #[.int .u8 0, .int .u8 0, .int .u8 0, .int .u8 0] 150) := (hbt.block _ (lt_of_blk F3.out.2.2.1) (by simp; omega)).trans F3.out.2.2.1
    obtain ⟨oa4, c4, rfl, hs4, hn4⟩ := hown.sl0
    have F4 := Lib.hid (And.intro hb4 (And.intro hx4 (And.intro hq44 (And.intro hrd (And.intro hs4 hn4)))))
    have hRl := HR.out.1
    have HRB := Lib.hid HR.out.2
    obtain ⟨R, hRe⟩ : ∃ R, rdB (k : Nat) l1 bad1 = R := ⟨_, rfl⟩
    rw [hRe] at F4 hRl HRB HG
    rw [hRe]
    obtain ⟨R1, R2, bad2⟩ := R
    dsimp only at F4 hRl HRB HG ⊢
    clear hrd hbt hown hb4 hx4 hq44 hs4 hn4 F3 HR hRe F2
    obtain ⟨rl, hrl⟩ : ∃ rl, R1.length = rl := ⟨_, rfl⟩
    rw [hrl] at F4 hRl
    rw [hrl]
    go_wp2_with fail
    refine ⟨trivial, ?_⟩
    refine held_one 5 (by kernel_rfl) ?_
    simp only [pick, List.getD_cons_zero, List.getD_cons_succ]
    refine wpList_copy_splice ?c1 (.tmp 17) (.tmp 21) 24 24 ?c2 5 Try.underlying24 (by kernel_rfl) (some ⟨q4, 0, none⟩) oa4 4 4 rl c4 ?c3 ?c4 q4 0 [.int .u8 0, .int .u8 0, .int .u8 0, .int .u8 0] 150 F4.out.2.2.1 (RB.flat R1) (by rw [RB.flat_len, hrl]; exact (Nat.min_eq_left (by omega)).symm) ?c5 (by rw [RB.flat_len, hrl]; simp; omega) (fun v hv => RB.flat_cell1 R1 v hv) q4 W4 (Below.refl _ _) (Nat.le_refl _) ?c6
    case c1 => rfl
    case c2 => rfl
    case c3 => rfl
    case c4 => rfl
    case c5 =>
      intro h0
      rw [RB.flat_len, hrl] at h0
      obtain ⟨b, o, e, hr⟩ := F4.out.2.2.2.2.1.row h0
      exact ⟨rfl, _, e, Rep.news_of_row hr⟩
    intro W5 hq5 hb5
    have hq5 := hq5.out
    rw [pad4_splice (by omega)] at hq5
    have hne : w.heap.size < q4 := by omega
    obtain ⟨⟨oa5, n5, c5, hg5, -⟩, -⟩ := F4.out.2.2.2.1
    have e1 : W5.cell? ⟨g, 1, none⟩ = some (.bool bad2) := cell_of ((hb5.block g hgl).trans hg5) rfl
    have hx5 : BxP w.heap.size ((0, 0) : PK) W5 := (hb5.block _ hne).trans F4.out.2.1
    have hb6 : Below w.heap.size w W5 := F4.out.1.trans (hb5.mono (by omega))
    have HB := Lib.hid (bad_cell e1)
    have hs6 : RB.Sl W5 (some ⟨q4, 0, none⟩) 4 4 (pad4 R1) := by have := sl_flat (R := RB) hq5 (by rw [pad4_len]; unfold maxLen; omega); rwa [pad4_len] at this
    have F5 := Lib.hid (And.intro hb6 (And.intro hx5 hs6))
    clear hq5 hb5 hg5 e1 hx5 hb6 hs6 F4
    go_wp2_with fail
    refine ⟨trivial, ?_⟩
    refine wpAnyH_done (by kernel_rfl) ?_ _
    go_wp2_with fail
    refine HB.out.mono ?_
    rintro e W6 ⟨rfl, hw⟩
    have hw := hw.symm
    subst hw
    cases bad2 with
    | true =>
      go_wp2_with (with_reducible refine halt_store 39 rfl ?_)
      refine Halted.go ?_
      refine store_whole rfl 39 _ _ rfl w.heap.size #[.int .u32 0, .int .i64 0] rfl rfl F5.out.2.1 rfl (by kernel_rfl) (by simp [Value.oneCell']) ?_
      intro wz hwz hsz
      have HZ := Lib.hid (And.intro hwz (F5.out.1.trans (hsz.below (Nat.le_refl _))))
      clear hwz hsz
      go_wp2_with fail
      refine ret_cell3 rfl rfl rfl HZ.out.1 Try.underlying39 rfl (by kernel_rfl) ⟨?_, HZ.out.2⟩
      rw [HG.out, if_neg HM.out, if_pos (by first | exact rfl | trivial)]
      rfl
    | false =>
      have HGt := Lib.hid (get_any _ _ _ _ _ F5.out.2.2 (pad4_bytes HRB.out) (Nat.le_refl _))
      have hxl := pad4_lt HRB.out
      obtain ⟨x, hx⟩ : ∃ x, getN (pad4 R1) = x := ⟨_, rfl⟩
      rw [hx] at HGt hxl HG
      have hcl : cl (m : Int) = m := by unfold cl; rw [if_neg (by omega), if_neg (by omega)]; omega
      have HMk := Lib.hid (make_any x (m : Int) hxl)
      rw [hcl] at HMk
      have hmod : (x : Int) % 4294967296 = x := by omega
      obtain ⟨y, hy⟩ : ∃ y, cut x m = y := ⟨_, rfl⟩
      rw [hy] at HMk HG
      unfold pfx at HMk
      clear hx hcl hy HB
      go_wp2_with fail
      refine HGt.out.mono ?_
      rintro e W7 ⟨⟨x7, rfl⟩, hw⟩
      have hw := hw.symm
      subst hw
      go_wp2_with fail
      refine (HMk.out _).mono ?_
      rintro e W8 ⟨rfl, hb8⟩
      have F8 := Lib.hid (And.intro (bcall F5.out.1 (Nat.le_refl _) hb8) (F5.out.2.1.keep hb8))
      clear hb8 F5 HGt
      go_wp2_with fail
      refine (HS.out _).mono ?_
      rintro e W9 ⟨rfl, hw⟩
      have hw := hw.symm
      subst hw
      go_wp2_with (with_reducible refine halt_store 39 rfl ?_)
      refine Halted.go ?_
      refine store_whole rfl 39 _ _ rfl w.heap.size #[.int .u32 (y : Int), .int .i64 (m : Int)] rfl rfl F8.out.2 rfl (by kernel_rfl) (by simp [Value.oneCell']) ?_
      intro wz hwz hsz
      have HZ := Lib.hid (And.intro hwz (F8.out.1.trans (hsz.below (Nat.le_refl _))))
      clear hwz hsz
      go_wp2_with fail
      refine ret_cell3 rfl rfl rfl HZ.out.1 Try.underlying39 rfl (by kernel_rfl) ⟨?_, HZ.out.2⟩
      rw [HG.out, if_neg HM.out, if_neg (by simp)]
      unfold retP
      refine congrArg (fun t => Ending.returned (.tuple #[.agg #[.int .u32 (y : Int), .int .i64 (m : Int)], t, .int .i64 0])) ?_
      show Value.int .i64 _ = .int .i64 _
      congr 1
end Go.Proofs.Ytpjfgfdpngibgaa
/- The prefix with which bytes begin, as the reference finds it. -/
namespace Go.Proofs.Ytpjfgfdpngibgaa
open Go.RowKit

theorem cut_mid {P : Program} {α : Type} [Inhabited α] {R : Rep α} {t : TypeId} {bytes : Nat} (hT : Rep.Ty P t R bytes) {w : World} {a : Option Addr} {n c : Nat} {L : List α} (hs : R.Sl w a n c L) (hnc : n ≤ c) (hn0 : a = none → c = 0) {i j : Nat} (hij : i ≤ j) (hj : j ≤ n) {iv jv : Int} (hi : iv = i) (hjv : jv = j) :
    ∃ sa, (∀ W, (Instr.sliceAt t (.slice a n c) (some (.int .i64 iv)) (some (.int .i64 jv)) none).run P W = .ok (.slice sa (j - i) (c - i)) W) ∧ (∀ W, (Instr.slice t (.slice a n c) (some (.int .i64 iv)) (some (.int .i64 jv)) none).run P W = .ok (.slice sa (j - i) (c - i)) W) ∧
      R.Sl w sa (j - i) (c - i) ((L.drop i).take (j - i)) ∧ (sa = none → c - i = 0) := by
  subst hi hjv
  have h2 : ∀ W, (Instr.slice t (.slice a n c) (some (.int .i64 (i : Int))) (some (.int .i64 (j : Int))) none).run P W = .ok (.slice (Rep.cutAddr a i c R.k) (j - i) (c - i)) W := fun W => by
    rw [run_slice_lh W t a n c hT.elem' .i64 .i64 (i : Int) (j : Int) (by omega) (by omega) (by omega), hT.size W]
    simp only [Result.andThen, sliced, Int.toNat_natCast, Rep.cutAddr]
  refine ⟨Rep.cutAddr a i c R.k, fun W => ?_, h2, ⟨by rw [List.length_take, List.length_drop, ← hs.len]; omega, by have := hs.max; omega, fun h0 => ?_⟩, fun e => ?_⟩
  · rw [run_sliceAt_slice W t _ _ _ _ hT.elem']; exact h2 W
  · obtain ⟨b, o, e, hr⟩ := hs.row (by omega)
    obtain ⟨o', e', ho'⟩ := Rep.cutAddr_some (b := b) (o := o) (l := i) (m := c) (k := R.k)
    rw [e, e']
    refine ⟨b, o', rfl, ?_⟩
    rw [ho' (by omega)]
    exact (hr.drop i).take (j - i)
  · rw [hn0 (Rep.cutAddr_isNone e)]; omega
def retR (o : Option (Nat × Nat × Nat)) : Value := match o with
  | none => .tuple #[.agg #[.int .u32 0, .int .i64 0], .int .i64 0, .bool false]
  | some (a, m, k) => .tuple #[.agg #[.int .u32 (a : Int), .int .i64 (m : Int)], .int .i64 (k : Int), .bool true]
theorem zeros_own {w : World} {base b : Nat} (hb : base ≤ b) (h : w.heap[b]? = some (.cells #[.int .u8 0, .int .u8 0, .int .u8 0, .int .u8 0] 5)) : RB.Own w base (.slice (some ⟨b, 0, none⟩) 4 4) [0, 0, 0, 0] := ⟨rfl, .inr ⟨b, 4, _, rfl, hb, h, Nat.le_refl _, by unfold maxLen; omega, rfl, rfl⟩⟩
structure CB7 (q b0 o0 m : Nat) (W : World) : Prop where
  box : ∃ p, BxP q p W
  byte : RB.At W b0 o0 m
theorem CB7.keep {q b0 o0 m : Nat} {W W' : World} (h : CB7 q b0 o0 m W) (hb : Below W.heap.size W W') : CB7 q b0 o0 m W' := ⟨let ⟨p, hp⟩ := h.box; ⟨p, hp.keep hb⟩, by
  intro j hj
  have h1 := h.byte j hj
  rw [← h1]
  refine hb.cell (p := ⟨b0, o0 + j, none⟩) ?_
  have : (RB.cells m)[j]? ≠ none := by
    have hj0 : j = 0 := by have : RB.k = 1 := rfl; omega
    subst hj0
    simp [RB]
  rw [← h1] at this
  exact Classical.byContradiction fun hn => this (by
    have : W.heap[b0]? = none := Array.getElem?_eq_none (Nat.le_of_not_lt hn)
    simp [World.cell?, this])⟩
theorem CB7.on {q b0 o0 m B : Nat} {W W' : World} (h : CB7 q b0 o0 m W) (hb : Below B W W') (hB : b0 < B ∧ q < B) : CB7 q b0 o0 m W' := ⟨let ⟨p, hp⟩ := h.box; ⟨p, (hb.block _ hB.2).trans hp⟩, by
  intro j hj
  rw [← h.byte j hj]
  exact hb.cell (p := ⟨b0, o0 + j, none⟩) hB.1⟩
theorem CB7.cell {q b0 o0 m : Nat} {W : World} (h : CB7 q b0 o0 m W) : W.cell? ⟨b0, o0, none⟩ = some (.int .u8 (m : Int)) := by
  have := h.byte 0 (by decide)
  simpa [RB] using this
set_option maxRecDepth 100000 in
set_option maxHeartbeats 4000000 in
theorem raget_any {w : World} {oa : Option Addr} {n c : Nat} {l : List Nat} (h : RB.Sl w oa n c l) (hnil : oa = none → c = 0) (hnc : n ≤ c) (hby : Bytes l) (hn : n ≤ 100000) : Calls Try.prog 41 #[.slice oa n c] w fun e w' => e = .returned (retR (getP l)) ∧ Below w.heap.size w w' := by
  have hal := (Below.refl w.heap.size w).alloc (Nat.le_refl _) (.cells #[.int .u32 0, .int .i64 0] 39)
  have hlen := h.len
  have F0 := Lib.hid (And.intro hal (And.intro (show BxP w.heap.size ((0, 0) : PK) (w.alloc (.cells #[.int .u32 0, .int .i64 0] 39)) from hnew _ _) (And.intro (h.keep hal) hnil)))
  clear hal
  cases l with
  | nil =>
    obtain rfl : n = 0 := hlen
    clear h
    go_enter Try.func41, Try.ntmps41
    go_wp2_with (with_reducible refine halt_store 39 rfl ?_)
    refine Halted.go ?_
    refine store_whole rfl 39 _ _ rfl w.heap.size #[.int .u32 0, .int .i64 0] rfl rfl F0.out.2.1 rfl (by kernel_rfl) (by simp [Value.oneCell']) ?_
    intro wz hwz hsz
    have HZ := Lib.hid (And.intro hwz (F0.out.1.trans (hsz.below (Nat.le_refl _))))
    clear hwz hsz
    go_wp2_with fail
    refine ret_cell3 rfl rfl rfl HZ.out.1 Try.underlying39 rfl (by kernel_rfl) ⟨?_, HZ.out.2⟩
    rfl
  | cons m r =>
    have hml : m < 256 := hby m (by simp)
    rw [List.length_cons] at hlen
    have HL := Lib.hid hlen
    obtain ⟨b0, o0, rfl, hbl, hat⟩ := h.at (i := 0) (by omega)
    have hc := F0.out.1.cell (p := ⟨b0, o0, none⟩) hbl
    have c0 := hat 0 (by decide)
    simp only [RB, Nat.zero_mul, Nat.add_zero, List.getElem?_cons_zero, List.getD_cons_zero] at c0
    rw [← hc] at c0
    have hnq : ((n : Int) == 0) = false := by simp; omega
    have h0n : ((0 : Int) < (n : Int)) = True := by simp; omega
    have h0N : (0 < n) = True := by simp; omega
    clear h hat hc hlen
    by_cases hm : 32 < m
    · have hmt : ((32 : Int) < (m : Int)) = True := by simp; omega
      have HM := Lib.hid (show getP (m :: r) = none from if_pos hm)
      generalize getP (m :: r) = res at *
      clear hm
      go_enter Try.func41, Try.ntmps41
      go_wp2_with (with_reducible refine halt_store 39 rfl ?_)
      refine Halted.go ?_
      refine store_whole rfl 39 _ _ rfl w.heap.size #[.int .u32 0, .int .i64 0] rfl rfl F0.out.2.1 rfl (by kernel_rfl) (by simp [Value.oneCell']) ?_
      intro wz hwz hsz
      have HZ := Lib.hid (And.intro hwz (F0.out.1.trans (hsz.below (Nat.le_refl _))))
      clear hwz hsz
      go_wp2_with fail
      refine ret_cell3 rfl rfl rfl HZ.out.1 Try.underlying39 rfl (by kernel_rfl) ⟨?_, HZ.out.2⟩
      rw [HM.out]
      rfl
    · have hmt : ((32 : Int) < (m : Int)) = False := by simp; omega
      have hm32 : m ≤ 32 := by omega
      have hk : ((m : Int) + 7) / 8 = (szB m : Nat) := by unfold szB; omega
      have hk4 := szB_le hm32
      by_cases hr : r.length < szB m
      · have hrt : ((n : Int) - 1 < ((m : Int) + 7) / 8) = True := by have := HL.out; rw [hk]; simp; omega
        have HM := Lib.hid (show getP (m :: r) = none from (if_neg hm).trans (if_pos hr))
        generalize getP (m :: r) = res at *
        clear hm hr hk
        go_enter Try.func41, Try.ntmps41
        go_wp2_with (with_reducible refine halt_store 39 rfl ?_)
        refine Halted.go ?_
        refine store_whole rfl 39 _ _ rfl w.heap.size #[.int .u32 0, .int .i64 0] rfl rfl F0.out.2.1 rfl (by kernel_rfl) (by simp [Value.oneCell']) ?_
        intro wz hwz hsz
        have HZ := Lib.hid (And.intro hwz (F0.out.1.trans (hsz.below (Nat.le_refl _))))
        clear hwz hsz
        go_wp2_with fail
        refine ret_cell3 rfl rfl rfl HZ.out.1 Try.underlying39 rfl (by kernel_rfl) ⟨?_, HZ.out.2⟩
        rw [HM.out]
        rfl
      · have hrt : ((n : Int) - 1 < ((m : Int) + 7) / 8) = False := by have := HL.out; rw [hk]; simp; omega
        have HM := Lib.hid (show getP (m :: r) = _ from (if_neg hm).trans (if_neg hr))
        have HR := Lib.hid (show Bytes (r.take (szB m)) from fun x hx => hby x (List.mem_cons_of_mem _ (List.mem_of_mem_take hx)))
        have HRl := Lib.hid (show (r.take (szB m)).length = szB m from by rw [List.length_take]; omega)
        generalize getP (m :: r) = res at *
        have hkr : szB m ≤ r.length := by omega
        have HK := Lib.hid (show szB m = szB m from rfl)
        obtain ⟨k, hke⟩ : ∃ k, szB m = k := ⟨_, rfl⟩
        rw [hke] at hk hk4 HM HR HRl hkr
        obtain ⟨sa, hr1, hr2, hst, hsn⟩ := cut_mid T27 F0.out.2.2.1 hnc F0.out.2.2.2 (i := 1) (j := 1 + k) (iv := 1) (jv := 1 + ((m : Int) + 7) / 8) (by omega) (by have := HL.out; omega) rfl (by omega)
        rw [show 1 + k - 1 = k by omega] at hr1 hr2 hst
        rw [show (m :: r).drop 1 = r from rfl] at hst
        have HS := Lib.hid (And.intro hst (And.intro hsn hke))
        have HKk := Lib.hid hk
        clear hm hr hst hsn hke HK hby hkr hk
        go_enter Try.func41, Try.ntmps41
        go_wp2_with (at_builtin; refine halt ?_)
        refine Halted.go ?_
        have hal := (Below.refl (w.alloc (.cells #[.int .u32 0, .int .i64 0] 39)).heap.size (w.alloc (.cells #[.int .u32 0, .int .i64 0] 39))).alloc (Nat.le_refl _) (.cells #[] 5)
        have hem : RB.Own ((w.alloc (.cells #[.int .u32 0, .int .i64 0] 39)).alloc (.cells #[] 5)) (w.heap.size + 1) (.slice (some ⟨w.heap.size + 1, 0, none⟩) 0 0) [] := Rep.own_empty (hnewAt (by simp)) (Nat.le_refl _)
        have hb1 := bcall F0.out.1 (by simp) hal
        have hx1 := F0.out.2.1.keep hal
        have hc1 : RB.At ((w.alloc (.cells #[.int .u32 0, .int .i64 0] 39)).alloc (.cells #[] 5)) b0 o0 m := by
          intro j hj
          have hj0 : j = 0 := by have : RB.k = 1 := rfl; omega
          subst hj0
          have := hal.cell (p := ⟨b0, o0, none⟩) (by simp; omega)
          rw [Nat.add_zero, this, c0]; rfl
        have hs1 := HS.out.1.keep hal
        have F1 := Lib.hid (And.intro hb1 (And.intro (show CB7 w.heap.size b0 o0 m _ from ⟨⟨_, hx1⟩, hc1⟩) (And.intro hem hs1)))
        clear hal hem hb1 hx1 hc1 hs1 c0 hr1 hr2
        refine Rep.append_list T27 rfl _ _ rfl rfl F1.out.2.2.1 (L := []) (M := r.take k) rfl F1.out.2.2.2 HS.out.2.1 (by unfold maxLen; simp; omega) (by simp; omega) (by simp) ?_
        intro v2 w2 hown2 hb2 _
        rw [List.nil_append] at hown2
        have F2 := Lib.hid (And.intro (F1.out.1.trans (hb2.mono (Nat.le_succ _))) (And.intro (F1.out.2.1.on hb2 (by omega)) (And.intro hown2 hb2.size)))
        clear hown2 hb2 F1
        go_wp2_with (at_builtin; refine halt ?_)
        refine Halted.go ?_
        have hal := (Below.refl w2.heap.size w2).alloc (Nat.le_refl _) (.cells #[.int .u8 0, .int .u8 0, .int .u8 0, .int .u8 0] 5)
        have hz : RB.Own (w2.alloc (.cells #[.int .u8 0, .int .u8 0, .int .u8 0, .int .u8 0] 5)) w2.heap.size (.slice (some ⟨w2.heap.size, 0, none⟩) 4 4) [0, 0, 0, 0] := zeros_own (Nat.le_refl _) (hnew _ _)
        obtain ⟨az, cz, hze, hzs, hzn⟩ := hz.sl0
        have hsz2 : w.heap.size + 1 ≤ w2.heap.size := by have := F2.out.2.2.2; simp at this; omega
        have F3 := Lib.hid (And.intro (bcall F2.out.1 (Nat.le_refl _) hal) (And.intro (F2.out.2.1.keep hal) (And.intro (F2.out.2.2.1.below hal) (Nat.le_trans hsz2 hal.size))))
        have hkl : (r.take k).length = k := HRl.out
        injection hze with hze1 hze2 hze3
        subst hze1 hze3
        have HZ := Lib.hid (And.intro hzs hzn)
        clear hal hz hzs hzn F2 hsz2 hze2
        refine Rep.append_list T27 rfl _ _ rfl rfl F3.out.2.2.1 (M := [0, 0, 0, 0]) rfl HZ.out.1 HZ.out.2 (by rw [hkl]; unfold maxLen; simp; omega) (by rw [hkl]; simp; omega) F3.out.2.2.2 ?_
        intro v4 w4 hown4 hb4 _
        obtain ⟨oa5, c5, rfl, hbs5⟩ := bs_own hown4
        have hl5 : (r.take k ++ [0, 0, 0, 0]).length = k + 4 := by rw [List.length_append, hkl]; rfl
        rw [hl5] at hbs5 ⊢
        have F4 := Lib.hid (And.intro (F3.out.1.trans (hb4.mono (Nat.le_succ _))) (And.intro (F3.out.2.1.on hb4 (by omega)) hbs5))
        clear hown4 hb4 F3 HZ hkl hl5 hbs5
        go_wp2_with fail
        refine wp_region_heldP (CB7 w.heap.size b0 o0 m) (by kernel_rfl) ?_
        have hd := (Below.refl w4.heap.size w4).drew
        have F5 := Lib.hid (And.intro (bcall F4.out.1 (Nat.le_refl _) hd) (And.intro (F4.out.2.1.keep hd) (F4.out.2.2.below hd)))
        clear hd F4
        obtain ⟨sb, hr1, hr2, hst, hsn, -⟩ := Rep.cut_to T27 F5.out.2.2.sl F5.out.2.2.le F5.out.2.2.nil (i := 4) (by omega)
        rw [show ((4 : Nat) : Int) = 4 from rfl] at hr1 hr2
        have FS := Lib.hid hst
        clear hst hsn
        have hwk : IntKind.i64.wrap (1 + ((m : Int) + 7) / 8) = 1 + ((m : Int) + 7) / 8 := IntWalk.i64_in _ (by omega)
        generalize w4.drew = W5 at *
        refine held_reads [0, 1, 4, 5, 6, 7, 9, 10] (g := 6) rfl (by kernel_rfl) F5.out.2.1 (fun _ _ d _ _ h => by cases d <;> exact h) ?_
        simp only [pick, List.getD_cons_zero, List.getD_cons_succ]
        ((with_reducible refine wpRead_step (fun K hK => ?_)); go_simp; first | ((with_reducible refine hK _ ?_); clear hK K) | (apply Exists.intro; (with_reducible refine ⟨fun w' hw' => ?_, hK _ ?_⟩); (first | exact rfl | exact ⟨rfl, rfl⟩); clear hK K))
        ((with_reducible refine wpRead_step (fun K hK => ?_)); go_simp; first | ((with_reducible refine hK _ ?_); clear hK K) | (apply Exists.intro; (with_reducible refine ⟨fun w' hw' => ?_, hK _ ?_⟩); (first | exact rfl | exact ⟨rfl, rfl⟩); clear hK K))
        ((with_reducible refine wpRead_step (fun K hK => ?_)); go_simp; first | ((with_reducible refine hK _ ?_); clear hK K) | (apply Exists.intro; (with_reducible refine ⟨fun w' hw' => ?_, hK _ ?_⟩); (first | exact rfl | exact ⟨rfl, rfl⟩); clear hK K))
        ((with_reducible refine wpRead_step (fun K hK => ?_)); go_simp; first | ((with_reducible refine hK _ ?_); clear hK K) | (apply Exists.intro; (with_reducible refine ⟨fun w' hw' => ?_, hK _ ?_⟩); (first | exact rfl | exact ⟨rfl, rfl⟩); clear hK K))
        ((with_reducible refine wpRead_step (fun K hK => ?_)); go_simp; first | ((with_reducible refine hK _ ?_); clear hK K) | (apply Exists.intro; (with_reducible refine ⟨fun w' hw' => ?_, hK _ ?_⟩); (have f0 := CB7.cell hw'; go_simp; first | exact rfl | exact ⟨rfl, rfl⟩); clear hK K))
        ((with_reducible refine wpRead_step (fun K hK => ?_)); go_simp; first | ((with_reducible refine hK _ ?_); clear hK K) | (apply Exists.intro; (with_reducible refine ⟨fun w' hw' => ?_, hK _ ?_⟩); (first | exact rfl | exact ⟨rfl, rfl⟩); clear hK K))
        ((with_reducible refine wpRead_step (fun K hK => ?_)); go_simp; first | ((with_reducible refine hK _ ?_); clear hK K) | (apply Exists.intro; (with_reducible refine ⟨fun w' hw' => ?_, hK _ ?_⟩); (first | exact rfl | exact ⟨rfl, rfl⟩); clear hK K))
        ((with_reducible refine wpRead_step (fun K hK => ?_)); go_simp; first | ((with_reducible refine hK _ ?_); clear hK K) | (apply Exists.intro; (with_reducible refine ⟨fun w' hw' => ?_, hK _ ?_⟩); (first | exact rfl | exact ⟨rfl, rfl⟩); clear hK K))
        with_reducible refine wpRead_nil ?_
        clear hr1 hr2 hwk
        have HGt := Lib.hid (rget_any _ _ _ _ _ FS.out (show Bytes (pad4 (r.take k)) from pad4_bytes HR.out) (Nat.le_refl _))
        have hxl := pad4_lt HR.out
        obtain ⟨x, hx⟩ : ∃ x, getN (pad4 (r.take k)) = x := ⟨_, rfl⟩
        have HGu := Lib.hid (show Calls Try.prog 40 #[.slice sb 4 c5] W5 fun e w' => e = .returned (.int .i64 (x : Nat)) ∧ w' = W5 from hx ▸ HGt.out)
        rw [hx] at hxl HM
        have HMk := Lib.hid (rmake_at x m (m : Int) hxl (by unfold cl; rw [if_neg (by omega), if_neg (by omega)]; omega))
        have hmod : (x : Int) % 4294967296 = x := by omega
        obtain ⟨y, hy⟩ : ∃ y, cut x m = y := ⟨_, rfl⟩
        rw [hy] at HMk HM
        unfold pfx at HMk
        clear hx hy HGt FS
        refine held_one 2 (by kernel_rfl) ?_
        simp only [pick, List.getD_cons_zero, List.getD_cons_succ]
        go_wp2_with fail
        refine HGu.out.mono ?_
        rintro e W9 ⟨rfl, hw⟩
        have hw := hw.symm
        subst hw
        go_wp2_with fail
        refine ⟨F5.out.2.1, ?_⟩
        refine held_reads [3] (g := 4) rfl (by kernel_rfl) F5.out.2.1 (fun _ _ d _ _ h => by cases d <;> exact h) ?_
        simp only [pick, List.getD_cons_zero, List.getD_cons_succ]
        ((with_reducible refine wpRead_step (fun K hK => ?_)); go_simp; first | ((with_reducible refine hK _ ?_); clear hK K) | (apply Exists.intro; (with_reducible refine ⟨fun w' hw' => ?_, hK _ ?_⟩); (first | exact rfl | exact ⟨rfl, rfl⟩); clear hK K))
        with_reducible refine wpRead_nil ?_
        refine held_one 8 (by kernel_rfl) ?_
        simp only [pick, List.getD_cons_zero, List.getD_cons_succ]
        go_wp2_with fail
        refine (HMk.out _).mono ?_
        rintro e W6 ⟨rfl, hb6⟩
        have F6 := Lib.hid (And.intro (bcall F5.out.1 (Nat.le_refl _) hb6) (F5.out.2.1.keep hb6))
        clear hb6 F5 HGu
        go_wp2_with fail
        refine ⟨F6.out.2, ?_⟩
        refine held_one 11 (by kernel_rfl) ?_
        simp only [pick, List.getD_cons_zero, List.getD_cons_succ]
        obtain ⟨p6, hp6⟩ := F6.out.2.box
        refine store_whole rfl 39 _ _ rfl w.heap.size #[.int .u32 (y : Int), .int .i64 (m : Int)] rfl rfl hp6 rfl (by kernel_rfl) (by simp [Value.oneCell']) ?_
        intro wz hwz hsz
        have hbz : RB.At wz b0 o0 m := F6.out.2.byte.keep (hsz.other (by omega))
        have HZ := Lib.hid (And.intro hwz (And.intro (F6.out.1.trans (hsz.below (Nat.le_refl _))) (show CB7 w.heap.size b0 o0 m wz from ⟨⟨(y, (m : Int)), hwz⟩, hbz⟩)))
        clear hwz hsz hbz
        go_wp2_with fail
        refine ⟨HZ.out.2.2, ?_⟩
        refine held_one 12 (by kernel_rfl) ?_
        simp only [pick, List.getD_cons_zero, List.getD_cons_succ]
        go_wp2_with fail
        refine ⟨HZ.out.2.2, ?_⟩
        refine held_one 13 (by kernel_rfl) ?_
        simp only [pick, List.getD_cons_zero, List.getD_cons_succ]
        go_wp2_with fail
        refine ⟨HZ.out.2.2, ?_⟩
        refine wpAnyH_done (by kernel_rfl) ?_ _
        go_wp2_with fail
        refine ret_cell3 rfl rfl rfl HZ.out.1 Try.underlying39 rfl (by kernel_rfl) ⟨?_, HZ.out.2.1⟩
        rw [HM.out]
        unfold retR
        refine congrArg (fun t => Ending.returned (.tuple #[.agg #[.int .u32 (y : Int), .int .i64 (m : Int)], t, .bool true])) ?_
        show Value.int .i64 _ = .int .i64 _
        have := HKk.out
        congr 1
        omega
end Go.Proofs.Ytpjfgfdpngibgaa
/- Great structs: an aggregate known by a few of its cells: loaded whole, built, with its cells out of sight. -/
namespace Go.Proofs.Ytpjfgfdpngibgaa
open Go.RowKit

section
variable {P : Program} {ops : Array Oper} {rest : List Oper} {o : Oper} {a : Act} {Q : Exit → Act → World → Prop} {w : World}
theorem halt_load (ty : TypeId) {x : Operand} (_ho : o.op = .load ty x) (h : Halted (wpList P ops Q (o :: rest) a w)) : wpList P ops Q (o :: rest) a w := h
theorem halt_build (ty : TypeId) {x : Array (Nat × Operand)} (_ho : o.op = .build ty x) (h : Halted (wpList P ops Q (o :: rest) a w)) : wpList P ops Q (o :: rest) a w := h
theorem load_whole (hgd : o.guard = none) (ty : TypeId) (x : Operand) (ho : o.op = .load ty x) (b : Nat) (cells : Array Value) (hx : a.eval x = .pointer (some ⟨b, 0, none⟩))
    {T : TypeId} {fr : Nat × Nat} (hb : w.heap[b]? = some (.cells cells T fr)) {d : TypeDesc} (hu : P.underlying ty = some d) (hd : d.isRow = true) (hi : (P.info? ty).map (·.size) = some cells.size)
    (h : wpList P ops Q rest (a.put o.dst (.agg cells)) w) : wpList P ops Q (o :: rest) a w :=
  wpList_plain hgd fun K hK => by
    have hk := hK _ _ h
    unfold Oper.wp execOp
    have hr := run_load_whole (P := P) (ty := ty) hb hu hd hi
    have hl : (Instr.loadAt ty (.pointer (some ⟨b, 0, none⟩))).run P w = .ok (.agg cells) w := by
      simp only [Instr.loadAt, Instr.sureAddr, Sem.run_bind, Sem.run_pure, Result.andThen_ok]
      exact hr
    simp only [ho, hx, Sem.run_bind, hl, Sem.run_pure, Result.andThen_ok]
    exact hk
theorem exec_load_whole (ty : TypeId) (x : Operand) (ho : o.op = .load ty x) (b : Nat) (cells : Array Value) (hx : a.eval x = .pointer (some ⟨b, 0, none⟩))
    {T : TypeId} {fr : Nat × Nat} (hb : w.heap[b]? = some (.cells cells T fr)) {d : TypeDesc} (hu : P.underlying ty = some d) (hd : d.isRow = true) (hi : (P.info? ty).map (·.size) = some cells.size) : (execOp a.eval o).run P w = .ok (.value (.agg cells)) w := by
  have hl : (Instr.loadAt ty (.pointer (some ⟨b, 0, none⟩))).run P w = .ok (.agg cells) w := by
    simp only [Instr.loadAt, Instr.sureAddr, Sem.run_bind, Sem.run_pure, Result.andThen_ok]
    exact run_load_whole (P := P) (ty := ty) hb hu hd hi
  unfold execOp
  simp only [ho, hx, Sem.run_bind, hl, Sem.run_pure, Result.andThen_ok]
theorem exec_build (ty : TypeId) (x : Array (Nat × Operand)) (ho : o.op = .build ty x) (cells : Array Value) (hp : P.built ty (x.toList.map (fun p => (p.1, a.eval p.2))) = some cells) : (execOp a.eval o).run P w = .ok (.value (.agg cells)) w := by
  have hl := run_build (P := P) w ty (x.map (fun p => (p.1, a.eval p.2))) cells (by rw [Array.toList_map]; exact hp)
  unfold execOp
  simp only [ho, Sem.run_bind, hl, Sem.run_pure, Result.andThen_ok]
/-- an operation that yields a value -/
theorem op_value (hgd : o.guard = none) (v : Value) (hrun : (execOp a.eval o).run P w = .ok (.value v) w) (h : wpList P ops Q rest (a.put o.dst v) w) : wpList P ops Q (o :: rest) a w :=
  wpList_plain hgd fun K hK => by
    have hk := hK _ _ h
    unfold Oper.wp
    rw [hrun]
    exact hk
end
/-- the cells v are laid from off on -/
theorem lay_get (l : List Value) : ∀ (k off : Nat) (cs : Array Value), ((l.zipIdx k).foldl (fun cs (p : Value × Nat) => cs.setIfInBounds (off + p.2) p.1) cs).size = cs.size ∧
    ∀ j, off + k + l.length ≤ cs.size → ((l.zipIdx k).foldl (fun cs (p : Value × Nat) => cs.setIfInBounds (off + p.2) p.1) cs)[j]? = if off + k ≤ j ∧ j < off + k + l.length then l[j - (off + k)]? else cs[j]? := by
  induction l with
  | nil => intro k off cs; exact ⟨rfl, fun j _ => by rw [if_neg (by simp)]; rfl⟩
  | cons x r ih =>
    intro k off cs
    obtain ⟨h1, h2⟩ := ih (k + 1) off (cs.setIfInBounds (off + k) x)
    rw [List.zipIdx_cons, List.foldl_cons]
    refine ⟨by rw [h1]; simp, fun j hj => ?_⟩
    rw [List.length_cons] at hj ⊢
    rw [h2 j (by simp; omega), Array.getElem?_setIfInBounds]
    by_cases e : off + k = j
    · subst e
      rw [if_neg (by omega), if_pos rfl, if_pos (by omega), if_pos (by omega)]
      simp
    · by_cases c : off + (k + 1) ≤ j ∧ j < off + (k + 1) + r.length
      · rw [if_pos c, if_pos (by omega)]
        rw [show j - (off + k) = (j - (off + (k + 1))) + 1 by omega, List.getElem?_cons_succ]
      · rw [if_neg c, if_neg e, if_neg (by omega)]
theorem lay_arr (v : Array Value) (off : Nat) (cs : Array Value) : (v.zipIdx.foldl (fun cs (p : Value × Nat) => cs.setIfInBounds (off + p.2) p.1) cs).size = cs.size ∧
    ∀ j, off + v.size ≤ cs.size → (v.zipIdx.foldl (fun cs (p : Value × Nat) => cs.setIfInBounds (off + p.2) p.1) cs)[j]? = if off ≤ j ∧ j < off + v.size then v[j - off]? else cs[j]? := by
  have h := lay_get v.toList 0 off cs
  rw [← Array.foldl_toList, Array.toList_zipIdx]
  refine ⟨h.1, fun j hj => ?_⟩
  have h2 := h.2 j (by simpa using hj)
  simp only [Nat.add_zero, Array.length_toList, Array.getElem?_toList] at h2
  exact h2
end Go.Proofs.Ytpjfgfdpngibgaa
/- Quiet steps of a drawn region: a guard that holds; a struct loaded whole; a call. -/
namespace Go.Proofs.Ytpjfgfdpngibgaa
open Go Go.RowKit

section
variable {P : Program} {ops : Array Oper} {C : World → Prop} {Q : Act → Prop} {K : Act → Prop} {a : Act} {o : Oper} {rest : List Oper}
theorem wpQuiet_yes (h : ∀ K : Act → Prop, (∀ a, wpQuiet P ops C Q rest a → K a) → o.quiet P a C K) (hw : Region.wanted o (yielded ops a.tmps) = true) : wpQuiet P ops C Q (o :: rest) a := by
  unfold wpQuiet
  rw [if_pos hw]
  exact h _ fun _ h => h
theorem quiet_value (v : Value) (h : ∀ w, C w → (execOp a.eval o).run P w = .ok (.value v) w) (hK : K (a.put o.dst v)) : o.quiet P a C K :=
  ⟨v, fun w hw => by unfold Oper.quietAt; rw [h w hw]; exact ⟨rfl, rfl⟩, hK⟩
theorem exec_load_mid {w : World} (ty : TypeId) (x : Operand) (ho : o.op = .load ty x) (b off : Nat) (cells : Array Value) (hx : a.eval x = .pointer (some ⟨b, off, none⟩))
    (hb : w.rangeAt b off cells.toList) {d : TypeDesc} (hu : P.underlying ty = some d) (hd : d.isRow = true) (hi : (P.info? ty).map (·.size) = some cells.size) : (execOp a.eval o).run P w = .ok (.value (.agg cells)) w := by
  have hr := run_loadVar_mid (P := P) w b off ty cells.toList d hb hu hd (by simpa using hi)
  have hl : (Instr.loadAt ty (.pointer (some ⟨b, off, none⟩))).run P w = .ok (.agg cells) w := by
    simp only [Instr.loadAt, Instr.sureAddr, Sem.run_bind, Sem.run_pure, Result.andThen_ok]
    simpa using hr
  unfold execOp
  simp only [ho, hx, Sem.run_bind, hl, Sem.run_pure, Result.andThen_ok]
theorem quiet_load (ty : TypeId) (x : Operand) (ho : o.op = .load ty x) (b off : Nat) (cells : Array Value) (hx : a.eval x = .pointer (some ⟨b, off, none⟩))
    (hb : ∀ w, C w → w.rangeAt b off cells.toList) {d : TypeDesc} (hu : P.underlying ty = some d) (hd : d.isRow = true) (hi : (P.info? ty).map (·.size) = some cells.size) (hK : K (a.put o.dst (.agg cells))) : o.quiet P a C K :=
  quiet_value _ (fun _ hw => exec_load_mid ty x ho b off cells hx (hb _ hw) hu hd hi) hK
theorem rangeAt_block {w : World} {b : Nat} {cells : Array Value} {T : TypeId} {fr : Nat × Nat} (h : w.heap[b]? = some (.cells cells T fr)) (off : Nat) (l : List Value) (hl : (cells.toList.drop off).take l.length = l) : w.rangeAt b off l := by
  intro j v hv
  refine cell_of h ?_
  have hj : j < l.length := (List.getElem?_eq_some_iff.1 hv).1
  rw [← hl] at hv
  rw [List.getElem?_take, if_pos hj, List.getElem?_drop] at hv
  simpa using hv
end
end Go.Proofs.Ytpjfgfdpngibgaa
/- A struct stored into, loaded out of, the middle of a block. -/
namespace Go.Proofs.Ytpjfgfdpngibgaa
open Go Go.RowKit

section
variable {P : Program} {ops : Array Oper} {rest : List Oper} {o : Oper} {a : Act} {Q : Exit → Act → World → Prop} {w : World}
theorem store_mid (hgd : o.guard = none) (ty : TypeId) (x y : Operand) (ho : o.op = .store ty x y) (b off : Nat) (v : Value) (hx : a.eval x = .pointer (some ⟨b, off, none⟩)) (hy : a.eval y = v)
    {cur : Array Value} {T : TypeId} (hb : w.heap[b]? = some (.cells cur T (0, 0))) (hs : off + v.cells.size ≤ cur.size) (hi : (P.info? ty).map (·.size) = some v.cells.size) (h1 : v.cells.all (·.oneCell') = true)
    (h : ∀ w1 cur', w1.heap[b]? = some (.cells cur' T (0, 0)) → cur'.size = cur.size → (∀ q, cur'[q]? = if off ≤ q ∧ q < off + v.cells.size then v.cells[q - off]? else cur[q]?) → SetB w w1 b (.cells cur' T (0, 0)) → wpList P ops Q rest (a.put o.dst undef) w1) : wpList P ops Q (o :: rest) a w :=
  wpList_plain hgd fun K hK => by
    obtain ⟨w1, cur', e1, e2, e3, e4, e5⟩ := Rep.run_storeCells' (P := P) b off T v.cells.toList 0 w cur hb (fun u hu => (Array.all_eq_true_iff_forall_mem.1 h1) u (by simpa using hu)) (by simpa using hs)
    have hk := hK _ _ (h w1 cur' e2 e3 (fun q => by have := e4 q; simpa using this) e5)
    have hr : (Instr.storeAt ty (.pointer (some ⟨b, off, none⟩)) v).run P w = .ok () w1 := by
      cases hq : P.info? ty with
      | none => simp [hq] at hi
      | some i =>
        have hs2 : v.cells.size = i.size := by simp [hq] at hi; omega
        simp only [Instr.storeAt, Instr.sureAddr, Sem.run_bind, Sem.run_pure, Result.andThen_ok]
        simp [storeVar, sizeOf, typeInfo, hq, hs2, e1]
    unfold Oper.wp execOp
    simp only [ho, hx, hy, Sem.run_bind, hr, Sem.run_pure, Result.andThen_ok]
    exact hk
end
theorem load_mid {P : Program} {ops : Array Oper} {rest : List Oper} {o : Oper} {a : Act} {Q : Exit → Act → World → Prop} {w : World} (hgd : o.guard = none) (ty : TypeId) (x : Operand) (ho : o.op = .load ty x) (b off : Nat) (cells : Array Value) (hx : a.eval x = .pointer (some ⟨b, off, none⟩))
    (hb : w.rangeAt b off cells.toList) {d : TypeDesc} (hu : P.underlying ty = some d) (hd : d.isRow = true) (hi : (P.info? ty).map (·.size) = some cells.size) (h : wpList P ops Q rest (a.put o.dst (.agg cells)) w) : wpList P ops Q (o :: rest) a w :=
  op_value hgd _ (exec_load_mid ty x ho b off cells hx hb hu hd hi) h
end Go.Proofs.Ytpjfgfdpngibgaa
