/- The report of totals, and the rest. -/
import Derived.Test.YtcbpdjenncbbeaaQai
import Derived.Test.YtcbpdjenncbbeaaQaa
namespace Go.Proofs.Ytcbpdjenncbbeaa
open Go.RowKit

set_option maxRecDepth 100000 in
theorem csame_any {w : World} {oa ob : Option Addr} {n ca cb : Nat} {l : List KC} (h1 : RCt.Sl w oa n ca l) (h2 : RCt.Sl w ob n cb l) : Calls Try.prog 12 #[.slice oa n ca, .slice ob n cb] w fun e w' => e = .returned (.bool true) ∧ Below w.heap.size w w' := by
  have hmax := h1.max
  have F := Lib.hid (And.intro h1 h2)
  clear h1 h2
  go_enter Try.func12, Try.ntmps12
  go_wp2_with fail
  go_loopw [5] (fun iv wr => ∃ i : Nat, i ≤ n ∧ iv = .int .i64 i ∧ Below w.heap.size w wr) (fun iv _ => n - (intOf iv).toNat)
  case atStart => exact ⟨0, Nat.zero_le _, rfl, Below.refl _ _⟩
  case round =>
    obtain ⟨i, hi, rfl, hb⟩ := hrel
    obtain ⟨w2, rfl⟩ : ∃ w2 : World, w2 = wr := ⟨_, rfl⟩
    by_cases hlt : i < n
    · have hil : ((i : Int) < (n : Int)) = True := by simp; omega
      have hi0 : ((0 : Int) ≤ (i : Int)) = True := by simp
      have hw3 := wrapS hlt hmax
      obtain ⟨b0, o0, rfl, hbb, hat⟩ := (F.out.1.keep hb).at hlt
      obtain ⟨b1, o1, rfl, hbb1, hat1⟩ := (F.out.2.keep hb).at hlt
      generalize l.getD i default = x at *
      have c0 := hat 0 (by decide)
      have c1 := hat 1 (by decide)
      have c2 := hat 2 (by decide)
      have d0 := hat1 0 (by decide)
      have d1 := hat1 1 (by decide)
      have d2 := hat1 2 (by decide)
      simp only [RCt, Nat.add_zero, List.getElem?_cons_zero, List.getElem?_cons_succ] at c0 c1 c2 d0 d1 d2
      have HB := Lib.hid hb.drew
      clear hb hat hat1 hbb hbb1
      go_wp2_with fail
      refine wp_region_quiet_tail (fun w' => w' = w2.drew) 8 (by kernel_rfl) (by kernel_rfl) rfl ?_
      simp only [List.take_succ_cons, List.take_zero, List.drop_succ_cons, List.drop_zero]
      iterate 8 ((with_reducible refine wpQuiet_step (fun K hK => ?_)); go_simp; first | (rw [if_neg (by decide)]; (with_reducible refine hK _ ?_); clear hK K) | ((with_reducible refine hK _ ?_); clear hK K) | (apply Exists.intro; (with_reducible refine ⟨fun w' hw' => ?_, hK _ ?_⟩); (subst hw'; first | (go_simp; first | exact rfl | exact ⟨rfl, rfl⟩) | exact rfl | exact ⟨rfl, rfl⟩); clear hK K))
      refine wpQuiet_nil ?_
      rintro _ rfl
      go_wp2_with fail
      exact ⟨⟨i + 1, hlt, by first | rw [hw3] | rw [Int.natCast_succ], HB.out⟩, by first | (rw [hw3]; exact mSucc hlt) | (rw [← Int.natCast_succ]; exact mSucc hlt)⟩
    · obtain rfl : n = i := by omega
      have hil : ((n : Int) < (n : Int)) = False := by simp
      have HB := Lib.hid hb
      clear hb
      go_wp2_with fail
      go_ret
      exact ⟨rfl, HB.out⟩

theorem rest_nil (w : World) : Calls Try.prog 13 #[.pointer none] w fun e w' => e = .returned (.int .i64 0) ∧ w' = w := by
  go_enter Try.func13, Try.ntmps13
  go_wp2_with fail
  go_ret
  exact ⟨rfl, rfl⟩
theorem rest_any {w : World} {B x tb : Nat} {N : Nat → Nat → Option Nat} {G : List GE} {rest : Int} (h : TotAt w B x tb N G rest) : Calls Try.prog 13 #[.pointer (some ⟨x, 0, none⟩)] w fun e w' => e = .returned (.int .i64 rest) ∧ w' = w := by
  have e0 : w.cell? ⟨x, 1, none⟩ = some (.int .i64 rest) := cell_of h.tot rfl
  clear h
  go_enter Try.func13, Try.ntmps13
  go_wp2_with fail
  go_ret
  exact ⟨rfl, rfl⟩
theorem own_cellsG {α : Type} [Inhabited α] {R : Rep α} {w : World} {base : Nat} {v : Value} {L : List α} (h : R.Own w base v L) {b : Nat} (hb : v.ownBlock = some b) : ∃ cur, w.heap[b]? = some (.cells cur R.T) := by
  rcases h.2 with ⟨h2, _⟩ | ⟨g, cap, cur, hv2, _, hh, _⟩
  · rw [h2] at hb; cases hb
  · rw [hv2] at hb
    injection hb with hb
    dsimp only at hb
    subst hb
    exact ⟨cur, hh⟩
theorem key_look {G : List GE} {M : Nat → Nat → Option (Option Addr)} (hR : RefOk (G.map gE) M) {e : GE} (he : e ∈ G) : look M e.1.1 (e.1.2 : Int) = some (some ⟨e.2.1, 0, none⟩) ∧ e.1.1 < 4294967296 := by
  have hm : gE e ∈ G.map gE := List.mem_map.2 ⟨e, he, rfl⟩
  have hk : Key e.1.1 e.1.2 := hR.key _ hm
  unfold look
  rw [if_pos (key_ok hk), Int.toNat_natCast]
  exact ⟨(hR.is _ _ _).2 hm, hk.lt⟩
theorem report_nil (s q : Int) (w : World) : Calls Try.prog 11 #[.pointer none, .int .i64 s, .int .i64 q] w fun e w' => e = .returned (.agg #[.int .i64 s, .int .i64 q, .slice none 0 0]) ∧ Below w.heap.size w w' := by
  have ha1 := (Below.refl w.heap.size w).alloc (Nat.le_refl _) (.cells #[.int .i64 0, .int .i64 0, .slice none 0 0] 35)
  have ha2 := ha1.alloc ha1.size (.cells #[.int .i64 0, .int .i64 0, .slice none 0 0] 35)
  have h6 : ((w.alloc (.cells #[.int .i64 0, .int .i64 0, .slice none 0 0] 35)).alloc (.cells #[.int .i64 0, .int .i64 0, .slice none 0 0] 35)).heap[w.heap.size]? = some (.cells #[.int .i64 0, .int .i64 0, .slice none 0 0] 35) := hold (hnew _ _)
  have h7 : ((w.alloc (.cells #[.int .i64 0, .int .i64 0, .slice none 0 0] 35)).alloc (.cells #[.int .i64 0, .int .i64 0, .slice none 0 0] 35)).heap[w.heap.size + 1]? = some (.cells #[.int .i64 0, .int .i64 0, .slice none 0 0] 35) := hnewAt (by simp)
  have F0 := Lib.hid (And.intro ha2 (And.intro h6 h7))
  clear ha1 ha2 h6 h7
  go_enter Try.func11, Try.ntmps11
  go_wp2_with (with_reducible refine halt_store 35 rfl ?_)
  refine Halted.go ?_
  generalize (w.alloc (.cells #[.int .i64 0, .int .i64 0, .slice none 0 0] 35)).alloc (.cells #[.int .i64 0, .int .i64 0, .slice none 0 0] 35) = V0 at *
  obtain ⟨q7, hq7⟩ : ∃ q7, w.heap.size + 1 = q7 := ⟨_, rfl⟩
  have HQ := Lib.hid (show w.heap.size < q7 from by omega)
  rw [hq7] at F0
  try rw [hq7]
  clear hq7
  refine store_whole rfl 35 _ _ rfl q7 #[.int .i64 s, .int .i64 q, .slice none 0 0] rfl rfl F0.out.2.2 rfl (by kernel_rfl) (by simp [Value.oneCell']) ?_
  intro V1 hz hsz
  have z0 := cell_of (o := 0) hz rfl
  have z1 := cell_of (o := 1) hz rfl
  have z2 := cell_of (o := 2) hz rfl
  have F1 := Lib.hid (And.intro (F0.out.1.trans (hsz.below (Nat.le_of_lt HQ.out))) ((hsz.other (Nat.ne_of_lt HQ.out)).trans F0.out.2.1))
  clear hz hsz
  go_wp2_with (with_reducible refine halt_store 35 rfl ?_)
  refine Halted.go ?_
  clear z0 z1 z2
  refine store_whole rfl 35 _ _ rfl w.heap.size #[.int .i64 s, .int .i64 q, .slice none 0 0] rfl rfl F1.out.2 rfl (by kernel_rfl) (by simp [Value.oneCell']) ?_
  intro V2 hz hsz
  have HZ := Lib.hid (And.intro hz (F1.out.1.trans (hsz.below (Nat.le_refl _))))
  clear hz hsz
  go_wp2_with fail
  refine ret_cell rfl rfl rfl HZ.out.1 Try.underlying35 rfl (by kernel_rfl) ?_
  exact ⟨rfl, HZ.out.2⟩
structure RpB (x tb q7 q9 : Nat) (rest s q : Int) (v : Value) (e : GE) (W : World) : Prop where
  tot : W.heap[x]? = some (.cells #[.pointer (some ⟨tb, 0, none⟩), .int .i64 rest] 63)
  box : W.heap[q9]? = some (.cells #[.int .u32 (e.1.1 : Int), .int .i64 (e.1.2 : Int)] 46)
  rep : W.heap[q7]? = some (.cells #[.int .i64 s, .int .i64 q, v] 35)
  cnt : W.heap[e.2.1]? = some (.cells #[.int .i64 e.2.2] 3)
theorem RpB.keep {x tb q7 q9 : Nat} {rest s q : Int} {v : Value} {e : GE} {W W' : World} (h : RpB x tb q7 q9 rest s q v e W) (hb : Below W.heap.size W W') : RpB x tb q7 q9 rest s q v e W' :=
  ⟨(hb.block _ (lt_of_blk h.tot)).trans h.tot, (hb.block _ (lt_of_blk h.box)).trans h.box, (hb.block _ (lt_of_blk h.rep)).trans h.rep, (hb.block _ (lt_of_blk h.cnt)).trans h.cnt⟩
set_option maxRecDepth 100000 in
set_option maxHeartbeats 16000000 in
theorem report_any {w : World} {B x tb : Nat} {N : Nat → Nat → Option Nat} {G : List GE} {rest : Int} (h : TotAt w B x tb N G rest) (hl : G.length ≤ 16384) (s q : Int) : Calls Try.prog 11 #[.pointer (some ⟨x, 0, none⟩), .int .i64 s, .int .i64 q] w fun e w' => (∃ v, e = .returned (.agg #[.int .i64 s, .int .i64 q, v]) ∧ RCt.Own w' w.heap.size v (G.map gC)) ∧ Below w.heap.size w w' := by
  have ha1 := (Below.refl w.heap.size w).alloc (Nat.le_refl _) (.cells #[.int .i64 0, .int .i64 0, .slice none 0 0] 35)
  have ha2 := ha1.alloc ha1.size (.cells #[.int .i64 0, .int .i64 0, .slice none 0 0] 35)
  have h6 : ((w.alloc (.cells #[.int .i64 0, .int .i64 0, .slice none 0 0] 35)).alloc (.cells #[.int .i64 0, .int .i64 0, .slice none 0 0] 35)).heap[w.heap.size]? = some (.cells #[.int .i64 0, .int .i64 0, .slice none 0 0] 35) := hold (hnew _ _)
  have h7 : ((w.alloc (.cells #[.int .i64 0, .int .i64 0, .slice none 0 0] 35)).alloc (.cells #[.int .i64 0, .int .i64 0, .slice none 0 0] 35)).heap[w.heap.size + 1]? = some (.cells #[.int .i64 0, .int .i64 0, .slice none 0 0] 35) := hnewAt (by simp)
  have F0 := Lib.hid (And.intro ha2 (And.intro h6 h7))
  have HT := Lib.hid (And.intro h hl)
  clear ha1 ha2 h6 h7 h hl
  go_enter Try.func11, Try.ntmps11
  go_wp2_with (with_reducible refine halt_store 35 rfl ?_)
  refine Halted.go ?_
  generalize (w.alloc (.cells #[.int .i64 0, .int .i64 0, .slice none 0 0] 35)).alloc (.cells #[.int .i64 0, .int .i64 0, .slice none 0 0] 35) = V0 at *
  obtain ⟨q7, hq7⟩ : ∃ q7, w.heap.size + 1 = q7 := ⟨_, rfl⟩
  have HQ := Lib.hid (show w.heap.size < q7 from by omega)
  rw [hq7] at F0
  try rw [hq7]
  clear hq7
  refine store_whole rfl 35 _ _ rfl q7 #[.int .i64 s, .int .i64 q, .slice none 0 0] rfl rfl F0.out.2.2 rfl (by kernel_rfl) (by simp [Value.oneCell']) ?_
  intro V1 hz hsz
  have F1 := Lib.hid (And.intro (F0.out.1.trans (hsz.below (Nat.le_of_lt HQ.out))) (And.intro ((hsz.other (Nat.ne_of_lt HQ.out)).trans F0.out.2.1) hz))
  have e0 : V1.cell? ⟨x, 0, none⟩ = some (.pointer (some ⟨tb, 0, none⟩)) := cell_of (HT.out.1.keep F1.out.1).tot rfl
  clear hz hsz
  go_wp2_with fail
  refine (prefixesEX (HT.out.1.keep F1.out.1).tr (by rw [List.length_map]; have := HT.out.2; omega)).mono ?_
  rintro e W4 ⟨v4, rfl, ho4, hb4⟩
  clear e0
  obtain ⟨m, hm⟩ : ∃ m, G.length = m := ⟨_, rfl⟩
  obtain ⟨oa4, c4, rfl, hs4, hge⟩ : ∃ oa c, v4 = .slice oa m c ∧ RP.Sl W4 oa m c ((G.map gE).map (·.1)) ∧ ∀ b o, oa = some ⟨b, o, none⟩ → V1.heap.size ≤ b := by
    obtain ⟨oa, c, h1, -, -, h2, h3⟩ := ho4.sl
    have hlm : ((G.map gE).map (·.1)).length = m := by rw [List.length_map, List.length_map, hm]
    rw [hlm] at h1 h2
    exact ⟨oa, c, h1, h2, h3⟩
  have hmx : m ≤ 16384 := by have := HT.out.2; omega
  have hq7l : q7 < V1.heap.size := lt_of_blk F1.out.2.2
  have F2 := Lib.hid (And.intro (bcall F1.out.1 (Nat.le_refl _) hb4) (And.intro ((hb4.block _ (lt_of_blk F1.out.2.1)).trans F1.out.2.1) (And.intro ((hb4.block _ (lt_of_blk F1.out.2.2)).trans F1.out.2.2) (And.intro hs4 (And.intro hm (show ∀ b o, oa4 = some ⟨b, o, none⟩ → b ≠ q7 from fun b o e => by have := hge b o e; omega))))))
  clear ho4 hb4 hs4 hm hge hq7l
  go_wp2_with fail
  go_loopw [31] (fun iv wr => ∃ (i : Nat) (v : Value), i ≤ m ∧ iv = .int .i64 i ∧ wr.heap[q7]? = some (.cells #[.int .i64 s, .int .i64 q, v] 35) ∧ RCt.Own wr W4.heap.size v ((G.map gC).take i) ∧ But W4 wr [q7]) (fun iv _ => m - (intOf iv).toNat)
  case atStart => exact ⟨0, _, Nat.zero_le _, rfl, F2.out.2.2.1, Rep.Own.nil _ _, But.refl _ _⟩
  case round =>
    obtain ⟨i, v, hi, rfl, hrep, hown, hbut⟩ := hrel
    obtain ⟨w2, rfl⟩ : ∃ w2 : World, w2 = wr := ⟨_, rfl⟩
    have hbw : Below w.heap.size w w2 := F2.out.1.trans (hbut.below F2.out.1.size (fun b hb => by rw [List.mem_singleton] at hb; rw [hb]; exact Nat.le_of_lt HQ.out))
    by_cases hlt : i < m
    · have hil : ((i : Int) < (m : Int)) = True := by simp; omega
      have hi0 : ((0 : Int) ≤ (i : Int)) = True := by simp
      have hwi := wrapS hlt (show m ≤ maxLen by unfold maxLen; omega)
      obtain ⟨b, o, rfl, hbb, hat⟩ := F2.out.2.2.2.1.at hlt
      have hil2 : i < G.length := by rw [F2.out.2.2.2.2.1]; exact hlt
      obtain ⟨e, he⟩ : ∃ e, G[i]? = some e := ⟨_, List.getElem?_eq_getElem hil2⟩
      have hek : ((G.map gE).map (·.1)).getD i default = e.1 := by
        rw [List.getD_eq_getElem?_getD, List.getElem?_map, List.getElem?_map, he]; rfl
      rw [hek] at hat
      have hat2 : RP.At w2 b (o + i * 2) e.1 := hat.keep (hbut.block _ hbb (by rw [List.mem_singleton]; exact F2.out.2.2.2.2.2 b o rfl))
      have c0 : w2.cell? ⟨b, o + i * 2, none⟩ = some (.int .u32 (e.1.1 : Int)) := hat2 0 (by decide)
      have c1 : w2.cell? ⟨b, o + i * 2 + 1, none⟩ = some (.int .i64 (e.1.2 : Int)) := hat2 1 (by decide)
      have hlo : ((G.map gC).take i).length = i := by rw [List.length_take, List.length_map]; omega
      obtain ⟨oe, ce, rfl⟩ : ∃ oa c, v = .slice oa i c := by
        obtain ⟨oa, c, h1, -⟩ := hown.sl0
        rw [hlo] at h1
        exact ⟨oa, c, h1⟩
      have G0 := Lib.hid (And.intro (HT.out.1.keep hbw) (And.intro hrep (And.intro hown (And.intro hbut (And.intro he (And.intro hbw hlo))))))
      have HJ := Lib.hid (And.intro hlt hwi)
      clear hrep hown hbut he hlt hat hat2 hbb hi hil2 hek hbw hlo
      go_wp2_with (with_reducible refine halt_store 46 rfl ?_)
      refine Halted.go ?_
      clear c0 c1
      have hal := (Below.refl w2.heap.size w2).alloc (Nat.le_refl _) (.cells #[.int .u32 0, .int .i64 0] 46)
      refine store_whole rfl 46 _ _ rfl w2.heap.size #[.int .u32 (e.1.1 : Int), .int .i64 (e.1.2 : Int)] rfl rfl (hnew _ _) rfl (by kernel_rfl) (by simp [Value.oneCell']) ?_
      intro W5 hz hsz
      have hb3 : Below w2.heap.size w2 W5 := Below.trans hal (hsz.below (Nat.le_refl _))
      have hdr := (Below.refl W5.heap.size W5).drew
      have hb5 := bcall hb3 (Nat.le_refl _) hdr
      have ht5 := G0.out.1.keep hb5
      have hS : RpB x tb q7 w2.heap.size rest s q (.slice oe i ce) e W5.drew := ⟨ht5.tot, (hdr.block _ (lt_of_blk hz)).trans hz, (hb5.block _ (lt_of_blk G0.out.2.1)).trans G0.out.2.1, ht5.cnt e (List.mem_of_getElem? G0.out.2.2.2.2.1)⟩
      obtain ⟨M, hM, hR⟩ := ht5.tr
      obtain ⟨hlk, hlt5⟩ := key_look hR (List.mem_of_getElem? G0.out.2.2.2.2.1)
      have hg := getX_any hM e.1.1 (e.1.2 : Int) hlt5
      simp only [hlk, Option.getD_some, Option.isSome_some] at hg
      have HG := Lib.hid hg
      have FX := Lib.hid (And.intro hb5 hS)
      clear hal hsz hz hb3 hdr hb5 ht5 hS hM hR hlk hlt5 hg
      go_wp2_with fail
      refine wp_region_heldP (RpB x tb q7 w2.heap.size rest s q (.slice oe i ce) e) (by kernel_rfl) ?_
      generalize W5.drew = V at *
      refine held_reads [0, 1, 2, 3, 4] (g := 6) rfl (by kernel_rfl) FX.out.2 (fun _ _ d _ _ h => by cases d <;> exact h) ?_
      simp only [pick, List.getD_cons_zero, List.getD_cons_succ]
      ((with_reducible refine wpRead_step (fun K hK => ?_)); go_simp; first | ((with_reducible refine hK _ ?_); clear hK K) | (apply Exists.intro; (with_reducible refine ⟨fun w' hw' => ?_, hK _ ?_⟩); ((have f0 : w'.cell? ⟨x, 0, none⟩ = _ := cell_of hw'.tot rfl; have f1 : w'.cell? ⟨q7, 2, none⟩ = _ := cell_of hw'.rep rfl; have f2 : w'.cell? ⟨e.2.1, 0, none⟩ = _ := cell_of hw'.cnt rfl; go_simp; first | exact rfl | exact ⟨rfl, rfl⟩)); clear hK K))
      ((with_reducible refine wpRead_step (fun K hK => ?_)); go_simp; first | ((with_reducible refine hK _ ?_); clear hK K) | (apply Exists.intro; (with_reducible refine ⟨fun w' hw' => ?_, hK _ ?_⟩); ((have f0 : w'.cell? ⟨x, 0, none⟩ = _ := cell_of hw'.tot rfl; have f1 : w'.cell? ⟨q7, 2, none⟩ = _ := cell_of hw'.rep rfl; have f2 : w'.cell? ⟨e.2.1, 0, none⟩ = _ := cell_of hw'.cnt rfl; go_simp; first | exact rfl | exact ⟨rfl, rfl⟩)); clear hK K))
      ((with_reducible refine wpRead_step (fun K hK => ?_)); go_simp; first | ((with_reducible refine hK _ ?_); clear hK K) | (apply Exists.intro; (with_reducible refine ⟨fun w' hw' => ?_, hK _ ?_⟩); ((have f0 : w'.cell? ⟨x, 0, none⟩ = _ := cell_of hw'.tot rfl; have f1 : w'.cell? ⟨q7, 2, none⟩ = _ := cell_of hw'.rep rfl; have f2 : w'.cell? ⟨e.2.1, 0, none⟩ = _ := cell_of hw'.cnt rfl; go_simp; first | exact rfl | exact ⟨rfl, rfl⟩)); clear hK K))
      ((with_reducible refine wpRead_step (fun K hK => ?_)); go_simp; first | ((with_reducible refine hK _ ?_); clear hK K) | (apply Exists.intro; (with_reducible refine ⟨fun w' hw' => ?_, hK _ ?_⟩); ((have f0 : w'.cell? ⟨x, 0, none⟩ = _ := cell_of hw'.tot rfl; have f1 : w'.cell? ⟨q7, 2, none⟩ = _ := cell_of hw'.rep rfl; have f2 : w'.cell? ⟨e.2.1, 0, none⟩ = _ := cell_of hw'.cnt rfl; go_simp; first | exact rfl | exact ⟨rfl, rfl⟩)); clear hK K))
      with_reducible refine wpRead_yes ?_ ?_
      rotate_left
      rfl
      intro K hK
      refine read_load 46 _ rfl w2.heap.size 0 #[.int .u32 (e.1.1 : Int), .int .i64 (e.1.2 : Int)] rfl (fun w' hw' => rangeAt_block hw'.box 0 _ rfl) Try.underlying46 rfl (by kernel_rfl) (hK _ ?_)
      clear hK K
      with_reducible refine wpRead_nil ?_
      refine held_one 5 (by kernel_rfl) ?_
      simp only [pick, List.getD_cons_zero, List.getD_cons_succ]
      go_wp2_with fail
      unfold pfx at HG
      refine HG.out.mono ?_
      rintro e9 V1 ⟨rfl, hb⟩
      have F5 := Lib.hid (And.intro (bcall FX.out.1 (Nat.le_refl _) hb) (FX.out.2.keep hb))
      clear hb HG
      go_wp2_with fail
      refine ⟨F5.out.2, ?_⟩
      refine held_reads [6, 7, 8] (g := 2) rfl (by kernel_rfl) F5.out.2 (fun _ _ d _ _ h => by cases d <;> exact h) ?_
      simp only [pick, List.getD_cons_zero, List.getD_cons_succ]
      ((with_reducible refine wpRead_step (fun K hK => ?_)); go_simp; first | ((with_reducible refine hK _ ?_); clear hK K) | (apply Exists.intro; (with_reducible refine ⟨fun w' hw' => ?_, hK _ ?_⟩); (first | exact rfl | exact ⟨rfl, rfl⟩); clear hK K))
      ((with_reducible refine wpRead_step (fun K hK => ?_)); go_simp; first | ((with_reducible refine hK _ ?_); clear hK K) | (apply Exists.intro; (with_reducible refine ⟨fun w' hw' => ?_, hK _ ?_⟩); (first | exact rfl | exact ⟨rfl, rfl⟩); clear hK K))
      ((with_reducible refine wpRead_step (fun K hK => ?_)); go_simp; first | ((with_reducible refine hK _ ?_); clear hK K) | (apply Exists.intro; (with_reducible refine ⟨fun w' hw' => ?_, hK _ ?_⟩); (first | exact rfl | exact ⟨rfl, rfl⟩); clear hK K))
      with_reducible refine wpRead_nil ?_
      refine held_one 9 (by kernel_rfl) ?_
      simp only [pick, List.getD_cons_zero, List.getD_cons_succ]
      go_wp2_with fail
      refine ⟨F5.out.2, ?_⟩
      refine held_one 10 (by kernel_rfl) ?_
      simp only [pick, List.getD_cons_zero, List.getD_cons_succ]
      go_wp2_with fail
      refine ⟨F5.out.2, ?_⟩
      refine wpAnyH_done (by kernel_rfl) ?_ _
      go_wp2_with fail
      refine wp_region_T 10 (RpB x tb q7 w2.heap.size rest s q (.slice oe i ce) e) (by kernel_rfl) ?_
      have hb := (Below.refl V1.heap.size V1).drew
      have F6 := Lib.hid (And.intro (bcall F5.out.1 (Nat.le_refl _) hb) (F5.out.2.keep hb))
      clear hb F5
      generalize V1.drew = V2 at *
      refine T_reads [0, 1, 2, 3, 4, 5, 6] (g := 4) rfl (by kernel_rfl) F6.out.2 (fun _ _ d _ _ h => by cases d <;> exact h) ?_
      simp only [pick, List.getD_cons_zero, List.getD_cons_succ]
      ((with_reducible refine wpRead_step (fun K hK => ?_)); go_simp; first | ((with_reducible refine hK _ ?_); clear hK K) | (apply Exists.intro; (with_reducible refine ⟨fun w' hw' => ?_, hK _ ?_⟩); ((have f0 : w'.cell? ⟨x, 0, none⟩ = _ := cell_of hw'.tot rfl; have f1 : w'.cell? ⟨q7, 2, none⟩ = _ := cell_of hw'.rep rfl; have f2 : w'.cell? ⟨e.2.1, 0, none⟩ = _ := cell_of hw'.cnt rfl; go_simp; first | exact rfl | exact ⟨rfl, rfl⟩)); clear hK K))
      ((with_reducible refine wpRead_step (fun K hK => ?_)); go_simp; first | ((with_reducible refine hK _ ?_); clear hK K) | (apply Exists.intro; (with_reducible refine ⟨fun w' hw' => ?_, hK _ ?_⟩); ((have f0 : w'.cell? ⟨x, 0, none⟩ = _ := cell_of hw'.tot rfl; have f1 : w'.cell? ⟨q7, 2, none⟩ = _ := cell_of hw'.rep rfl; have f2 : w'.cell? ⟨e.2.1, 0, none⟩ = _ := cell_of hw'.cnt rfl; go_simp; first | exact rfl | exact ⟨rfl, rfl⟩)); clear hK K))
      with_reducible refine wpRead_yes ?_ ?_
      rotate_left
      rfl
      intro K hK
      refine read_load 46 _ rfl w2.heap.size 0 #[.int .u32 (e.1.1 : Int), .int .i64 (e.1.2 : Int)] rfl (fun w' hw' => rangeAt_block hw'.box 0 _ rfl) Try.underlying46 rfl (by kernel_rfl) (hK _ ?_)
      clear hK K
      ((with_reducible refine wpRead_step (fun K hK => ?_)); go_simp; first | ((with_reducible refine hK _ ?_); clear hK K) | (apply Exists.intro; (with_reducible refine ⟨fun w' hw' => ?_, hK _ ?_⟩); ((have f0 : w'.cell? ⟨x, 0, none⟩ = _ := cell_of hw'.tot rfl; have f1 : w'.cell? ⟨q7, 2, none⟩ = _ := cell_of hw'.rep rfl; have f2 : w'.cell? ⟨e.2.1, 0, none⟩ = _ := cell_of hw'.cnt rfl; go_simp; first | exact rfl | exact ⟨rfl, rfl⟩)); clear hK K))
      ((with_reducible refine wpRead_step (fun K hK => ?_)); go_simp; first | ((with_reducible refine hK _ ?_); clear hK K) | (apply Exists.intro; (with_reducible refine ⟨fun w' hw' => ?_, hK _ ?_⟩); ((have f0 : w'.cell? ⟨x, 0, none⟩ = _ := cell_of hw'.tot rfl; have f1 : w'.cell? ⟨q7, 2, none⟩ = _ := cell_of hw'.rep rfl; have f2 : w'.cell? ⟨e.2.1, 0, none⟩ = _ := cell_of hw'.cnt rfl; go_simp; first | exact rfl | exact ⟨rfl, rfl⟩)); clear hK K))
      ((with_reducible refine wpRead_step (fun K hK => ?_)); go_simp; first | ((with_reducible refine hK _ ?_); clear hK K) | (apply Exists.intro; (with_reducible refine ⟨fun w' hw' => ?_, hK _ ?_⟩); ((have f0 : w'.cell? ⟨x, 0, none⟩ = _ := cell_of hw'.tot rfl; have f1 : w'.cell? ⟨q7, 2, none⟩ = _ := cell_of hw'.rep rfl; have f2 : w'.cell? ⟨e.2.1, 0, none⟩ = _ := cell_of hw'.cnt rfl; go_simp; first | exact rfl | exact ⟨rfl, rfl⟩)); clear hK K))
      ((with_reducible refine wpRead_step (fun K hK => ?_)); go_simp; first | ((with_reducible refine hK _ ?_); clear hK K) | (apply Exists.intro; (with_reducible refine ⟨fun w' hw' => ?_, hK _ ?_⟩); ((have f0 : w'.cell? ⟨x, 0, none⟩ = _ := cell_of hw'.tot rfl; have f1 : w'.cell? ⟨q7, 2, none⟩ = _ := cell_of hw'.rep rfl; have f2 : w'.cell? ⟨e.2.1, 0, none⟩ = _ := cell_of hw'.cnt rfl; go_simp; first | exact rfl | exact ⟨rfl, rfl⟩)); clear hK K))
      with_reducible refine wpRead_nil ?_
      refine T_one 7 (by kernel_rfl) ?_
      simp only [pick, List.getD_cons_zero, List.getD_cons_succ]
      have hal := (Below.refl V2.heap.size V2).alloc (Nat.le_refl _) (.cells #[.int .u32 (e.1.1 : Int), .int .i64 (e.1.2 : Int), .int .i64 e.2.2] 48)
      have hone : RCt.Sl (V2.alloc (.cells #[.int .u32 (e.1.1 : Int), .int .i64 (e.1.2 : Int), .int .i64 e.2.2] 48)) (some ⟨V2.heap.size, 0, none⟩) 1 1 [gC e] := Rep.sl_one (R := RCt) (y := gC e) (hnew _ _)
      have F7 := Lib.hid (And.intro (bcall F6.out.1 (Nat.le_refl _) hal) (And.intro (F6.out.2.keep hal) hone))
      clear hal hone F6
      go_wp2_with fail
      refine ⟨fun _ => F7.out.2.1, ?_⟩
      generalize V2.alloc (.cells #[.int .u32 (e.1.1 : Int), .int .i64 (e.1.2 : Int), .int .i64 e.2.2] 48) = V3 at *
      generalize V2.heap.size = q11 at *
      refine T_one 8 (by kernel_rfl) ?_
      simp only [pick, List.getD_cons_zero, List.getD_cons_succ]
      go_wp2_with (at_builtin; refine halt ?_)
      refine Halted.go ?_
      have hw4 : W4.heap.size ≤ V3.heap.size := Nat.le_trans G0.out.2.2.2.1.size F7.out.1.size
      refine Rep.append_list TCt rfl _ _ rfl rfl (G0.out.2.2.1.below F7.out.1) rfl F7.out.2.2 (fun h => by cases h) (by rw [G0.out.2.2.2.2.2.2]; have := HJ.out.1; unfold maxLen; omega) (by rw [G0.out.2.2.2.2.2.2]; have := HJ.out.1; omega) hw4 ?_
      intro v8 V4 hown8 hb8 hgr
      have htk : (G.map gC).take i ++ [gC e] = (G.map gC).take (i + 1) := by
        rw [takeS (by rw [List.length_map, F2.out.2.2.2.2.1]; exact HJ.out.1), List.getD_eq_getElem?_getD, List.getElem?_map, G0.out.2.2.2.2.1]; rfl
      rw [htk] at hown8
      obtain ⟨o8, c8, rfl, -, -⟩ := hown8.sl0
      have hl8 : ((G.map gC).take (i + 1)).length = i + 1 := by rw [List.length_take, List.length_map, F2.out.2.2.2.2.1]; have := HJ.out.1; omega
      rw [hl8] at hown8 ⊢
      have hq7w : q7 < W4.heap.size := lt_of_blk F2.out.2.2.1
      have hx4 : x < W4.heap.size := Nat.lt_of_lt_of_le (lt_of_blk HT.out.1.tot) F2.out.1.size
      have he4 : e.2.1 < W4.heap.size := Nat.lt_of_lt_of_le (lt_of_blk (HT.out.1.cnt e (List.mem_of_getElem? G0.out.2.2.2.2.1))) F2.out.1.size
      have hbt4 : But W4 V4 [q7] := Rep.But.step (G0.out.2.2.2.1.trans (But.of_below F7.out.1 _)) hb8 (Nat.le_refl _)
      have hrep8 : V4.heap[q7]? = some (.cells #[.int .i64 s, .int .i64 q, .slice oe i ce] 35) := (hb8.block _ hq7w).trans F7.out.2.1.rep
      have hbox8 : V4.heap[w2.heap.size]? = some (.cells #[.int .u32 (e.1.1 : Int), .int .i64 (e.1.2 : Int)] 46) := (hgr.block _ (lt_of_blk F7.out.2.1.box) (fun e2 => by
        obtain ⟨cur, hcur⟩ := own_cellsG (G0.out.2.2.1.below F7.out.1) e2.symm
        rw [F7.out.2.1.box] at hcur
        injection hcur with hcur; injection hcur with _ hcur; exact absurd hcur (by decide))).trans F7.out.2.1.box
      have FZ := Lib.hid (show RpB x tb q7 w2.heap.size rest s q (.slice oe i ce) e V4 from ⟨(hb8.block _ hx4).trans F7.out.2.1.tot, hbox8, hrep8, (hb8.block _ he4).trans F7.out.2.1.cnt⟩)
      have F8 := Lib.hid (And.intro hrep8 (And.intro hown8 (And.intro hbt4 hq7w)))
      clear hbox8 hgr
      clear htk hown8 hb8 hl8 hx4 he4 hbt4 hrep8 hq7w hw4
      go_wp2_with fail
      refine ⟨fun _ => FZ.out, ?_⟩
      refine T_reads [9] (g := 1) rfl (by kernel_rfl) FZ.out (fun _ _ d _ _ h => by cases d <;> exact h) ?_
      simp only [pick, List.getD_cons_zero, List.getD_cons_succ]
      ((with_reducible refine wpRead_step (fun K hK => ?_)); go_simp; first | ((with_reducible refine hK _ ?_); clear hK K) | (apply Exists.intro; (with_reducible refine ⟨fun w' hw' => ?_, hK _ ?_⟩); (first | exact rfl | exact ⟨rfl, rfl⟩); clear hK K))
      with_reducible refine wpRead_nil ?_
      have f7 := free_of (o := 2) F8.out.1
      have e7 := cell_of (o := 2) F8.out.1 rfl
      refine T_one 10 (by kernel_rfl) ?_
      simp only [pick, List.getD_cons_zero, List.getD_cons_succ]
      go_wp2_with fail
      refine ⟨fun h => absurd rfl h, ?_⟩
      refine T_done (by kernel_rfl) ?_ _
      clear f7 e7
      have hset := (SetB.self F8.out.1).store (o := 2) (lt_of_blk F8.out.1) (.slice o8 (i + 1) c8)
      have h7z := setCell_blk F8.out.1 2 (.slice o8 (i + 1) c8)
      have hown9 := F8.out.2.1.keep (fun b hb => hset.other (fun e => by have := own_ge F8.out.2.1 hb; have := F8.out.2.2.2; omega))
      have F9 := Lib.hid (And.intro h7z (And.intro hown9 (F8.out.2.2.1.thenSet hset (.inr (by simp)))))
      clear hset h7z hown9
      go_wp2_with fail
      exact ⟨⟨i + 1, _, HJ.out.1, by first | rw [HJ.out.2] | rw [Int.natCast_succ], F9.out.1, by first | exact F9.out.2.1 | (rw [Int.natCast_succ] at *; exact F9.out.2.1), F9.out.2.2⟩, by first | (rw [HJ.out.2]; exact mSucc HJ.out.1) | (rw [← Int.natCast_succ]; exact mSucc HJ.out.1)⟩
    · obtain rfl : i = m := by omega
      have hil : ((i : Int) < (i : Int)) = False := by simp
      rw [List.take_of_length_le (by rw [List.length_map, F2.out.2.2.2.2.1]; exact Nat.le_refl _)] at hown
      obtain ⟨oe, ce, rfl, -, -⟩ := hown.sl0
      have z0 := cell_of (o := 0) hrep rfl
      have z1 := cell_of (o := 1) hrep rfl
      have z2 := cell_of (o := 2) hrep rfl
      have h6 := (hbut.block _ (lt_of_blk F2.out.2.1) (by rw [List.mem_singleton]; exact Nat.ne_of_lt HQ.out)).trans F2.out.2.1
      have G0 := Lib.hid (And.intro h6 (And.intro hown hbw))
      generalize (G.map gC).length = ln at *
      clear hrep hown hbut h6 hbw
      go_wp2_with (with_reducible refine halt_store 35 rfl ?_)
      refine Halted.go ?_
      clear z0 z1 z2
      refine store_whole rfl 35 _ _ rfl w.heap.size #[.int .i64 s, .int .i64 q, .slice oe ln ce] rfl rfl G0.out.1 rfl (by kernel_rfl) (by simp [Value.oneCell']) ?_
      intro V2 hz hsz
      have hw4 : w.heap.size < W4.heap.size := lt_of_blk F2.out.2.1
      have HZ := Lib.hid (And.intro hz (And.intro ((G0.out.2.1.keep (fun b hb => hsz.other (fun e => by have := own_ge G0.out.2.1 hb; omega))).mono (Nat.le_of_lt hw4)) (G0.out.2.2.trans (hsz.below (Nat.le_refl _)))))
      clear hz hsz hw4
      go_wp2_with fail
      refine ret_cell rfl rfl rfl HZ.out.1 Try.underlying35 rfl (by kernel_rfl) ?_
      exact ⟨⟨_, rfl, HZ.out.2.1⟩, HZ.out.2.2⟩
end Go.Proofs.Ytcbpdjenncbbeaa
/- A thing stored into an owned slice, in place. -/
namespace Go.Proofs.Ytcbpdjenncbbeaa
open Go.RowKit
namespace Rep
variable {α : Type} [Inhabited α] {R : Rep α}
theorem getD_set (L : List α) (k i : Nat) (y : α) (hi : i < L.length) : (L.set k y).getD i default = if i = k then y else L.getD i default := by
  simp only [List.getD_eq_getElem?_getD, List.getElem?_set]
  by_cases e : k = i
  · subst e; simp [hi]
  · rw [if_neg e, if_neg (Ne.symm e)]
theorem flat_set_get (L : List α) (k q : Nat) (y : α) (hk : k < L.length) (hq : q < L.length * R.k) : (R.flat (L.set k y))[q]? = if k * R.k ≤ q ∧ q < k * R.k + R.k then (R.cells y)[q - k * R.k]? else (R.flat L)[q]? := by
  have hp := R.pos
  have hi : q / R.k < L.length := Nat.div_lt_of_lt_mul (by rw [Nat.mul_comm]; exact hq)
  have hj : q % R.k < R.k := Nat.mod_lt _ hp
  have he : q / R.k * R.k + q % R.k = q := by rw [Nat.mul_comm]; exact Nat.div_add_mod q R.k
  generalize q / R.k = i at *
  generalize q % R.k = j at *
  subst he
  rw [R.flat_get _ i j (by rw [List.length_set]; exact hi) hj, R.flat_get _ i j hi hj, getD_set L k i y hi]
  by_cases e : i = k
  · subst e
    rw [if_pos rfl, if_pos ⟨by omega, by omega⟩, show i * R.k + j - i * R.k = j by omega]
  · rw [if_neg e, if_neg]
    rintro ⟨h1, h2⟩
    rcases Nat.lt_or_gt_of_ne e with h | h
    · have := Nat.mul_le_mul_right R.k h; rw [Nat.succ_mul] at this; omega
    · have := Nat.mul_le_mul_right R.k h; rw [Nat.succ_mul] at this; omega
theorem own_set {w w' : World} {base g cap n : Nat} {L : List α} (h : R.Own w base (.slice (some ⟨g, 0, none⟩) n cap) L) {k : Nat} (hk : k < n) (y : α) {cur cur' : Array Value} (hc : w.heap[g]? = some (.cells cur R.T (0, 0))) (hset : w'.heap[g]? = some (.cells cur' R.T (0, 0)))
    (hsz : cur'.size = cur.size) (hcur : ∀ q, cur'[q]? = if k * R.k ≤ q ∧ q < k * R.k + R.k then (R.cells y)[q - k * R.k]? else cur[q]?) : R.Own w' base (.slice (some ⟨g, 0, none⟩) n cap) (L.set k y) := by
  obtain ⟨h1, h2⟩ := h
  rcases h2 with ⟨h2, _⟩ | ⟨g', cap', c0, hv, hg, hh, h3, h4, h5, h6⟩
  · cases h2
  · simp only [Value.slice.injEq, Option.some.injEq, Addr.mk.injEq, and_true] at hv
    obtain ⟨rfl, rfl, rfl⟩ := hv
    rw [hh] at hc
    simp only [Option.some.injEq, Obj.cells.injEq, and_true] at hc
    subst hc
    refine ⟨by rw [R.flat_length], .inr ⟨g, cap, cur', by rw [List.length_set], hg, hset, by rw [List.length_set]; exact h3, h4, by rw [hsz]; exact h5, ?_⟩⟩
    rw [List.length_set]
    apply List.ext_getElem?
    intro q
    rw [List.getElem?_take]
    by_cases hq : q < L.length * R.k
    · rw [if_pos hq, flat_set_get L k q y hk hq, Array.getElem?_toList, hcur]
      split
      · rfl
      · rw [← h6, List.getElem?_take, if_pos hq, Array.getElem?_toList]
    · rw [if_neg hq, List.getElem?_eq_none (by rw [R.flat_length, List.length_set]; omega)]
end Rep
end Go.Proofs.Ytcbpdjenncbbeaa
