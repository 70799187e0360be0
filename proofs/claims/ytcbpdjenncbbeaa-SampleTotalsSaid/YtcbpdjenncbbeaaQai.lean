/- Flows into totals. -/
import Derived.Test.YtcbpdjenncbbeaaQah
namespace Go.Proofs.Ytcbpdjenncbbeaa
open Go.RowKit

abbrev bsG (x : Nat) (G : List GE) : List Nat := x :: G.map (·.2.1)
theorem cell_blk {W : World} {b : Nat} {cs : Array Value} {T : TypeId} {fr : Nat × Nat} (h : W.heap[b]? = some (.cells cs T fr)) (o : Nat) : W.cell? ⟨b, o, none⟩ = cs[o]? := by
  unfold World.cell?
  simp [h]
theorem TotAt.flow_sep {w : World} {B x tb : Nat} {N : Nat → Nat → Option Nat} {G : List GE} {rest : Int} (h : TotAt w B x tb N G rest) {b o : Nat} {f : Fl} (hat : RFl.At w b o f) : b ∉ bsG x G := by
  intro hm
  have h0 := hat 0 (by decide)
  have h1 := hat 1 (by decide)
  simp only [RFl, Nat.add_zero, List.getElem?_cons_zero, List.getElem?_cons_succ] at h0 h1
  rcases List.mem_cons.1 hm with rfl | hm
  · rw [cell_blk h.tot] at h0 h1
    match o, h0, h1 with
    | 0, h0, _ => simp at h0
    | 1, _, h1 => simp at h1
    | o + 2, h0, _ => simp at h0
  · obtain ⟨e, he, rfl⟩ := List.mem_map.1 hm
    rw [cell_blk (h.cnt e he)] at h0 h1
    match o, h0, h1 with
    | 0, _, h1 => simp at h1
    | o + 1, h0, _ => simp at h0
theorem TotAt.addRest {w : World} {B x tb : Nat} {N : Nat → Nat → Option Nat} {G : List GE} {rest : Int} (h : TotAt w B x tb N G rest) (r : Int) : TotAt (w.setCell ⟨x, 1, none⟩ (.int .i64 r)) B x tb N G r ∧ But w (w.setCell ⟨x, 1, none⟩ (.int .i64 r)) (bsG x G) := by
  have hs := (SetB.self h.tot).store (o := 1) (lt_of_blk h.tot) (.int .i64 r)
  have hne : ∀ e ∈ G, e.2.1 ≠ x := fun e he hx => by
    have h1 := h.cnt e he
    rw [hx, h.tot] at h1
    injection h1 with h1; injection h1 with h1 _ _; simp at h1
  exact ⟨⟨setCell_blk h.tot 1 _, h.tr.keep (fun k hk => hs.other (fun e => h.sep.1 (e ▸ hk))), fun e he => (hs.other (hne e he)).trans (h.cnt e he), h.dis, h.low, h.sep⟩, But.of_set hs List.mem_cons_self⟩
theorem modify_map {α β : Type} (L : List α) (k : Nat) (g : α → α) (f : α → β) (h : ∀ a, f (g a) = f a) : (L.modify k g).map f = L.map f := by
  apply List.ext_getElem?
  intro i
  simp only [List.getElem?_map, List.getElem?_modify]
  split <;> (cases L[i]? <;> simp [h])
theorem mem_modify {α : Type} {L : List α} {k : Nat} {g : α → α} {d : α} (h : d ∈ L.modify k g) : (∃ e, L[k]? = some e ∧ d = g e) ∨ ∃ i, i ≠ k ∧ L[i]? = some d := by
  obtain ⟨i, hi, rfl⟩ := List.getElem_of_mem h
  have h2 := List.getElem?_eq_getElem hi
  rw [List.getElem?_modify] at h2
  cases hl : L[i]? with
  | none => rw [hl] at h2; cases h2
  | some a =>
    rw [hl] at h2
    have h3 : (if k = i then g a else a) = (L.modify k g)[i] := by simpa using h2
    rw [← h3]
    by_cases e : k = i
    · rw [if_pos e]; exact .inl ⟨a, e ▸ hl, rfl⟩
    · rw [if_neg e]; exact .inr ⟨i, fun h => e h.symm, hl⟩
theorem TotAt.addAt {w : World} {B x tb k : Nat} {N : Nat → Nat → Option Nat} {G : List GE} {rest : Int} {e : GE} (h : TotAt w B x tb N G rest) (hk : G[k]? = some e) (n : Int) : TotAt (w.setCell ⟨e.2.1, 0, none⟩ (.int .i64 n)) B x tb N (G.modify k (fun d => (d.1, d.2.1, n))) rest ∧ But w (w.setCell ⟨e.2.1, 0, none⟩ (.int .i64 n)) (bsG x G) := by
  have he := List.mem_of_getElem? hk
  have hc := h.cnt e he
  have hs := (SetB.self hc).store (o := 0) (lt_of_blk hc) (.int .i64 n)
  have hx : x ≠ e.2.1 := fun hx => by
    have h1 := h.tot
    rw [hx, hc] at h1
    injection h1 with h1; injection h1 with h1 _ _; simp at h1
  have hm := modify_map G k (fun d => (d.1, d.2.1, n)) gE (fun _ => rfl)
  have hd := modify_map G k (fun d => (d.1, d.2.1, n)) (fun d => d.2.1) (fun _ => rfl)
  have hin : ∀ d ∈ G.modify k (fun d => (d.1, d.2.1, n)), ∃ d' ∈ G, d'.2.1 = d.2.1 := fun d hd => by
    rcases mem_modify hd with ⟨a, ha, rfl⟩ | ⟨i, -, hi⟩
    · exact ⟨a, List.mem_of_getElem? ha, rfl⟩
    · exact ⟨d, List.mem_of_getElem? hi, rfl⟩
  refine ⟨⟨(hs.other hx).trans h.tot, ?_, fun d hd => ?_, by rw [hd]; exact h.dis, ⟨h.low.1, h.low.2.1, fun d hd => ?_⟩, h.sep.1, fun d hd => ?_⟩, But.of_set hs (List.mem_cons_of_mem _ (List.mem_map.2 ⟨e, he, rfl⟩))⟩
  · rw [hm]
    exact h.tr.keep (fun k hk => hs.other (fun e2 => h.sep.2 e he (e2 ▸ hk)))
  · rcases mem_modify hd with ⟨a, ha, rfl⟩ | ⟨i, hik, hi⟩
    · rw [hk] at ha
      injection ha with ha
      subst ha
      exact setCell_blk hc 0 _
    · have hne : d.2.1 ≠ e.2.1 := fun heq => by
        have h1 := h.dis
        rw [List.nodup_iff_pairwise_ne, List.pairwise_iff_getElem] at h1
        have hki := (List.getElem?_eq_some_iff.1 hk)
        have hii := (List.getElem?_eq_some_iff.1 hi)
        obtain ⟨hk1, hk2⟩ := hki
        obtain ⟨hi1, hi2⟩ := hii
        rcases Nat.lt_or_gt_of_ne hik with hl | hl
        · exact h1 i k (by simpa using hi1) (by simpa using hk1) hl (by simp [hi2, hk2, heq])
        · exact h1 k i (by simpa using hk1) (by simpa using hi1) hl (by simp [hi2, hk2, heq])
      exact (hs.other hne).trans (h.cnt d (List.mem_of_getElem? hi))
  · obtain ⟨d', h1, h2⟩ := hin d hd
    rw [← h2]; exact h.low.2.2 d' h1
  · obtain ⟨d', h1, h2⟩ := hin d hd
    rw [← h2]; exact h.sep.2 d' h1
theorem modify_gC {G : List GE} {k : Nat} {e : GE} (hk : G[k]? = some e) (n : Int) : (G.modify k (fun d => (d.1, d.2.1, addI e.2.2 n))).map gC = (G.map gC).modify k (fun d => (d.1, addI d.2 n)) := by
  apply List.ext_getElem?
  intro i
  simp only [List.getElem?_map, List.getElem?_modify]
  split
  · rename_i h
    subst h
    rw [hk]
    rfl
  · cases G[i]? <;> rfl
structure AdB (x tb q : Nat) (rest : Int) (f : Fl) (W : World) : Prop where
  tot : W.heap[x]? = some (.cells #[.pointer (some ⟨tb, 0, none⟩), .int .i64 rest] 63)
  box : W.heap[q]? = some (.cells #[.int .i64 f.dom, .int .u32 (f.dst : Int), .int .i64 f.by'] 44)
theorem AdB.keep {x tb q : Nat} {rest : Int} {f : Fl} {W W' : World} (h : AdB x tb q rest f W) (hb : Below W.heap.size W W') : AdB x tb q rest f W' := ⟨(hb.block _ (lt_of_blk h.tot)).trans h.tot, (hb.block _ (lt_of_blk h.box)).trans h.box⟩
structure AdP (pb po q : Nat) (cur : Int) (f : Fl) (W : World) : Prop where
  p : W.cell? ⟨pb, po, none⟩ = some (.int .i64 cur)
  fr : W.frozen? ⟨pb, po, none⟩ = false
  b : W.cell? ⟨q, 2, none⟩ = some (.int .i64 f.by')
theorem adds_nil {oa : Option Addr} {n c : Nat} (w : World) : Calls Try.prog 9 #[.pointer none, .slice oa n c] w fun e w' => e = .returned (.tuple #[]) ∧ w' = w := by
  go_enter Try.func9, Try.ntmps9
  go_wp2_with fail
  refine bodyPost_ret (results_none rfl _ _ _) rfl ?_
  exact ⟨rfl, rfl⟩
set_option maxRecDepth 100000 in
set_option maxHeartbeats 16000000 in
theorem adds_any {w : World} {B x tb : Nat} {N : Nat → Nat → Option Nat} {G : List GE} {rest : Int} (h : TotAt w B x tb N G rest) {oa : Option Addr} {n c : Nat} {fs : List Fl} (hs : RFl.Sl w oa n c fs) (hd : ∀ f ∈ fs, f.dst < 4294967296) : Calls Try.prog 9 #[.pointer (some ⟨x, 0, none⟩), .slice oa n c] w fun e w' => e = .returned (.tuple #[]) ∧ ∃ G' rest', TotAt w' B x tb N G' rest' ∧ G'.map (·.2.1) = G.map (·.2.1) ∧ addAll (G.map gC, rest) fs = (G'.map gC, rest') ∧ But w w' (bsG x G) := by
  have F := Lib.hid (And.intro hs (And.intro hs.len hd))
  have hmx := hs.max
  have e0 : w.cell? ⟨x, 0, none⟩ = some (.pointer (some ⟨tb, 0, none⟩)) := cell_of h.tot rfl
  have F0 := Lib.hid h
  clear h hs hd
  go_enter Try.func9, Try.ntmps9
  go_wp2_with fail
  clear e0
  go_loopw [21] (fun iv wr => ∃ (i : Nat) (G' : List GE) (rest' : Int), i ≤ n ∧ iv = .int .i64 i ∧ TotAt wr B x tb N G' rest' ∧ G'.map (·.2.1) = G.map (·.2.1) ∧ addAll (G.map gC, rest) (fs.take i) = (G'.map gC, rest') ∧ But w wr (bsG x G)) (fun iv _ => n - (intOf iv).toNat)
  case atStart => exact ⟨0, G, rest, Nat.zero_le _, rfl, F0.out, rfl, rfl, But.refl _ _⟩
  case round =>
    obtain ⟨i, G', rest', hi, rfl, htot, hbl, hadd, hbut⟩ := hrel
    obtain ⟨w2, rfl⟩ : ∃ w2 : World, w2 = wr := ⟨_, rfl⟩
    by_cases hlt : i < n
    · have hil : ((i : Int) < (n : Int)) = True := by simp; omega
      have hi0 : ((0 : Int) ≤ (i : Int)) = True := by simp
      have hwi := wrapS hlt hmx
      obtain ⟨b, o, rfl, hbb, hat⟩ := F.out.1.at hlt
      have hil2 : i < fs.length := by have := F.out.2.1; omega
      have hda := F.out.2.2 _ (getD_mem hil2)
      obtain ⟨f, hf⟩ : ∃ f, fs.getD i default = f := ⟨_, rfl⟩
      rw [hf] at hat hda
      have hat2 : RFl.At w2 b (o + i * 3) f := hat.keep (hbut.block _ hbb (F0.out.flow_sep hat))
      have c0 := hat2 0 (by decide)
      have c1 := hat2 1 (by decide)
      have c2 := hat2 2 (by decide)
      simp only [RFl, Nat.add_zero, List.getElem?_cons_zero, List.getElem?_cons_succ] at c0 c1 c2
      have G0 := Lib.hid (And.intro htot (And.intro hbl (And.intro hadd (And.intro hbut (And.intro hil2 hf)))))
      have HJ := Lib.hid (And.intro hlt hwi)
      have HD := Lib.hid hda
      clear htot hbl hadd hbut hil2 hf hlt hat hat2 hbb hi hda
      go_wp2_with (with_reducible refine halt_store 44 rfl ?_)
      refine Halted.go ?_
      clear c0 c1 c2
      have hal := (Below.refl w2.heap.size w2).alloc (Nat.le_refl _) (.cells #[.int .i64 0, .int .u32 0, .int .i64 0] 44)
      refine store_whole rfl 44 _ _ rfl w2.heap.size #[.int .i64 f.dom, .int .u32 (f.dst : Int), .int .i64 f.by'] rfl rfl (hnew _ _) rfl (by kernel_rfl) (by simp [Value.oneCell']) ?_
      intro W3 hz hsz
      have hb3 : Below w2.heap.size w2 W3 := Below.trans hal (hsz.below (Nat.le_refl _))
      have hdr := (Below.refl W3.heap.size W3).drew
      have hb4 := bcall hb3 (Nat.le_refl _) hdr
      obtain ⟨M, hM, hR⟩ := G0.out.1.tr
      have HL := Lib.hid (fun (W : World) (hW : Below w2.heap.size w2 W) => longX_any (hM.below hW) f.dst HD.out)
      have FX := Lib.hid (And.intro hb4 (And.intro (G0.out.1.keep hb4) (show AdB x tb w2.heap.size rest' f W3.drew from AdB.keep ⟨(hb3.block _ (lt_of_blk G0.out.1.tot)).trans G0.out.1.tot, hz⟩ hdr)))
      have hlb := lng_best hR f.dst
      clear hal hsz hz hb3 hdr hb4 hM hR
      go_wp2_with fail
      refine wp_region_heldP (AdB x tb w2.heap.size rest' f) (by kernel_rfl) ?_
      generalize W3.drew = V at *
      rcases hlb with ⟨hl, hbst⟩ | ⟨j, k, e, hl, hbst, hge, hMv⟩
      · have HB := Lib.hid hbst
        simp only [hl] at HL
        clear hbst hl
        have FB := Lib.hid (Below.refl V.heap.size V)
        refine held_reads [0, 1, 2, 3, 4, 5] (g := 9) rfl (by kernel_rfl) FX.out.2.2 (fun _ _ d _ _ h => by cases d <;> exact h) ?_
        simp only [pick, List.getD_cons_zero, List.getD_cons_succ]
        ((with_reducible refine wpRead_step (fun K hK => ?_)); go_simp; first | ((with_reducible refine hK _ ?_); clear hK K) | (apply Exists.intro; (with_reducible refine ⟨fun w' hw' => ?_, hK _ ?_⟩); ((have f0 : w'.cell? ⟨x, 0, none⟩ = _ := cell_of hw'.tot rfl; have f1 : w'.cell? ⟨w2.heap.size, 1, none⟩ = _ := cell_of hw'.box rfl; go_simp; first | exact rfl | exact ⟨rfl, rfl⟩)); clear hK K))
        ((with_reducible refine wpRead_step (fun K hK => ?_)); go_simp; first | ((with_reducible refine hK _ ?_); clear hK K) | (apply Exists.intro; (with_reducible refine ⟨fun w' hw' => ?_, hK _ ?_⟩); ((have f0 : w'.cell? ⟨x, 0, none⟩ = _ := cell_of hw'.tot rfl; have f1 : w'.cell? ⟨w2.heap.size, 1, none⟩ = _ := cell_of hw'.box rfl; go_simp; first | exact rfl | exact ⟨rfl, rfl⟩)); clear hK K))
        ((with_reducible refine wpRead_step (fun K hK => ?_)); go_simp; first | ((with_reducible refine hK _ ?_); clear hK K) | (apply Exists.intro; (with_reducible refine ⟨fun w' hw' => ?_, hK _ ?_⟩); ((have f0 : w'.cell? ⟨x, 0, none⟩ = _ := cell_of hw'.tot rfl; have f1 : w'.cell? ⟨w2.heap.size, 1, none⟩ = _ := cell_of hw'.box rfl; go_simp; first | exact rfl | exact ⟨rfl, rfl⟩)); clear hK K))
        ((with_reducible refine wpRead_step (fun K hK => ?_)); go_simp; first | ((with_reducible refine hK _ ?_); clear hK K) | (apply Exists.intro; (with_reducible refine ⟨fun w' hw' => ?_, hK _ ?_⟩); ((have f0 : w'.cell? ⟨x, 0, none⟩ = _ := cell_of hw'.tot rfl; have f1 : w'.cell? ⟨w2.heap.size, 1, none⟩ = _ := cell_of hw'.box rfl; go_simp; first | exact rfl | exact ⟨rfl, rfl⟩)); clear hK K))
        ((with_reducible refine wpRead_step (fun K hK => ?_)); go_simp; first | ((with_reducible refine hK _ ?_); clear hK K) | (apply Exists.intro; (with_reducible refine ⟨fun w' hw' => ?_, hK _ ?_⟩); ((have f0 : w'.cell? ⟨x, 0, none⟩ = _ := cell_of hw'.tot rfl; have f1 : w'.cell? ⟨w2.heap.size, 1, none⟩ = _ := cell_of hw'.box rfl; go_simp; first | exact rfl | exact ⟨rfl, rfl⟩)); clear hK K))
        ((with_reducible refine wpRead_step (fun K hK => ?_)); go_simp; first | ((with_reducible refine hK _ ?_); clear hK K) | (apply Exists.intro; (with_reducible refine ⟨fun w' hw' => ?_, hK _ ?_⟩); ((have f0 : w'.cell? ⟨x, 0, none⟩ = _ := cell_of hw'.tot rfl; have f1 : w'.cell? ⟨w2.heap.size, 1, none⟩ = _ := cell_of hw'.box rfl; go_simp; first | exact rfl | exact ⟨rfl, rfl⟩)); clear hK K))
        with_reducible refine wpRead_nil ?_
        refine held_two 6 11 (by kernel_rfl) ?_ ?_
        · simp only [pick, List.getD_cons_zero, List.getD_cons_succ]
          go_wp2_with fail
          refine (HL.out _ (bcall FX.out.1 (Nat.le_refl _) FB.out)).mono ?_
          rintro e V1 ⟨rfl, hb⟩
          have F1 := Lib.hid ((bcall FB.out (Nat.le_refl _) hb))
          clear FB
          clear hb
          go_wp2_with fail
          refine ⟨(FX.out.2.2.keep F1.out), ?_⟩
          refine held_reads [7, 8, 9, 10] (g := 4) rfl (by kernel_rfl) (FX.out.2.2.keep F1.out) (fun _ _ d _ _ h => by cases d <;> exact h) ?_
          simp only [pick, List.getD_cons_zero, List.getD_cons_succ]
          ((with_reducible refine wpRead_step (fun K hK => ?_)); go_simp; first | ((with_reducible refine hK _ ?_); clear hK K) | (apply Exists.intro; (with_reducible refine ⟨fun w' hw' => ?_, hK _ ?_⟩); (first | exact rfl | exact ⟨rfl, rfl⟩); clear hK K))
          ((with_reducible refine wpRead_step (fun K hK => ?_)); go_simp; first | ((with_reducible refine hK _ ?_); clear hK K) | (apply Exists.intro; (with_reducible refine ⟨fun w' hw' => ?_, hK _ ?_⟩); (first | exact rfl | exact ⟨rfl, rfl⟩); clear hK K))
          ((with_reducible refine wpRead_step (fun K hK => ?_)); go_simp; first | ((with_reducible refine hK _ ?_); clear hK K) | (apply Exists.intro; (with_reducible refine ⟨fun w' hw' => ?_, hK _ ?_⟩); (first | exact rfl | exact ⟨rfl, rfl⟩); clear hK K))
          ((with_reducible refine wpRead_step (fun K hK => ?_)); go_simp; first | ((with_reducible refine hK _ ?_); clear hK K) | (apply Exists.intro; (with_reducible refine ⟨fun w' hw' => ?_, hK _ ?_⟩); (first | exact rfl | exact ⟨rfl, rfl⟩); clear hK K))
          with_reducible refine wpRead_nil ?_
          refine held_one 11 (by kernel_rfl) ?_
          simp only [pick, List.getD_cons_zero, List.getD_cons_succ]
          have hal := (Below.refl V1.heap.size V1).alloc (Nat.le_refl _) (.cells #[.int .u32 0, .int .i64 0] 46)
          have hz7 : (V1.alloc (.cells #[.int .u32 0, .int .i64 0] 46)).heap[V1.heap.size]? = some (.cells #[.int .u32 0, .int .i64 0] 46) := hnew _ _
          have hq7 : V.heap.size ≤ V1.heap.size := F1.out.size
          obtain ⟨q7, hq⟩ : ∃ q7, V1.heap.size = q7 := ⟨_, rfl⟩
          have hz8 : (V1.alloc (.cells #[.int .u32 0, .int .i64 0] 46)).heap[q7]? = some (.cells #[.int .u32 0, .int .i64 0] 46) := hq ▸ hz7
          have hq8 : V.heap.size ≤ q7 := hq ▸ hq7
          have F2 := Lib.hid (And.intro (bcall F1.out (Nat.le_refl _) hal) (And.intro hz8 (hq8)))
          clear F1
          clear hal hz7 hq7 hz8 hq8
          go_wp2_with fail
          refine ⟨(FX.out.2.2.keep F2.out.1), ?_⟩
          clear hq
          generalize V1.alloc (.cells #[.int .u32 0, .int .i64 0] 46) = V2 at *
          refine held_one 12 (by kernel_rfl) ?_
          simp only [pick, List.getD_cons_zero, List.getD_cons_succ]
          unfold pfx
          go_wp2_with (with_reducible refine halt_store 46 rfl ?_)
          refine Halted.go ?_
          refine store_whole rfl 46 _ _ rfl q7 #[.int .u32 0, .int .i64 0] rfl rfl F2.out.2.1 rfl (by kernel_rfl) (by simp [Value.oneCell']) ?_
          intro V3 hz hsz
          have hbv := F2.out.1.trans (hsz.below F2.out.2.2)
          have F3 := Lib.hid (hbv)
          clear F2
          clear hz hsz hbv
          go_wp2_with fail
          refine ⟨(FX.out.2.2.keep F3.out), ?_⟩
          refine held_one 13 (by kernel_rfl) ?_
          simp only [pick, List.getD_cons_zero, List.getD_cons_succ]
          go_wp2_with fail
          refine ⟨(FX.out.2.2.keep F3.out), ?_⟩
          refine held_one 14 (by kernel_rfl) ?_
          simp only [pick, List.getD_cons_zero, List.getD_cons_succ]
          go_wp2_with fail
          refine ⟨(FX.out.2.2.keep F3.out), ?_⟩
          refine wpAnyH_done (by kernel_rfl) ?_ _
          go_wp2_with fail
          refine wp_region_T 8 (AdP x 1 w2.heap.size rest' f) (by kernel_rfl) ?_
          have hb := (Below.refl V3.heap.size V3).drew
          have F4 := Lib.hid ((bcall F3.out (Nat.le_refl _) hb))
          clear F3
          clear hb
          generalize V3.drew = V3d at *
          have htot := FX.out.2.1.keep F4.out
          have hbox := (FX.out.2.2.keep F4.out).box
          have hS : AdP x 1 w2.heap.size rest' f V3d := ⟨cell_of htot.tot rfl, free_of htot.tot, cell_of hbox rfl⟩
          have HS := Lib.hid (And.intro hS (And.intro htot (bcall FX.out.1 (Nat.le_refl _) F4.out)))
          clear htot hbox hS
          refine T_reads [0, 1, 2, 3, 4, 5] (g := 3) rfl (by kernel_rfl) HS.out.1 (fun _ _ d _ _ h => by cases d <;> exact h) ?_
          simp only [pick, List.getD_cons_zero, List.getD_cons_succ]
          ((with_reducible refine wpRead_step (fun K hK => ?_)); go_simp; first | ((with_reducible refine hK _ ?_); clear hK K) | (apply Exists.intro; (with_reducible refine ⟨fun w' hw' => ?_, hK _ ?_⟩); ((have f0 := hw'.p; have f1 := hw'.b; go_simp; first | exact rfl | exact ⟨rfl, rfl⟩)); clear hK K))
          ((with_reducible refine wpRead_step (fun K hK => ?_)); go_simp; first | ((with_reducible refine hK _ ?_); clear hK K) | (apply Exists.intro; (with_reducible refine ⟨fun w' hw' => ?_, hK _ ?_⟩); ((have f0 := hw'.p; have f1 := hw'.b; go_simp; first | exact rfl | exact ⟨rfl, rfl⟩)); clear hK K))
          ((with_reducible refine wpRead_step (fun K hK => ?_)); go_simp; first | ((with_reducible refine hK _ ?_); clear hK K) | (apply Exists.intro; (with_reducible refine ⟨fun w' hw' => ?_, hK _ ?_⟩); ((have f0 := hw'.p; have f1 := hw'.b; go_simp; first | exact rfl | exact ⟨rfl, rfl⟩)); clear hK K))
          ((with_reducible refine wpRead_step (fun K hK => ?_)); go_simp; first | ((with_reducible refine hK _ ?_); clear hK K) | (apply Exists.intro; (with_reducible refine ⟨fun w' hw' => ?_, hK _ ?_⟩); ((have f0 := hw'.p; have f1 := hw'.b; go_simp; first | exact rfl | exact ⟨rfl, rfl⟩)); clear hK K))
          ((with_reducible refine wpRead_step (fun K hK => ?_)); go_simp; first | ((with_reducible refine hK _ ?_); clear hK K) | (apply Exists.intro; (with_reducible refine ⟨fun w' hw' => ?_, hK _ ?_⟩); ((have f0 := hw'.p; have f1 := hw'.b; go_simp; first | exact rfl | exact ⟨rfl, rfl⟩)); clear hK K))
          ((with_reducible refine wpRead_step (fun K hK => ?_)); go_simp; first | ((with_reducible refine hK _ ?_); clear hK K) | (apply Exists.intro; (with_reducible refine ⟨fun w' hw' => ?_, hK _ ?_⟩); ((have f0 := hw'.p; have f1 := hw'.b; go_simp; first | exact rfl | exact ⟨rfl, rfl⟩)); clear hK K))
          with_reducible refine wpRead_nil ?_
          refine T_one 6 (by kernel_rfl) ?_
          simp only [pick, List.getD_cons_zero, List.getD_cons_succ]
          go_wp2_with fail
          refine (add_any rest' f.by' _).mono ?_
          rintro e9 W9 ⟨rfl, hw⟩
          subst hw
          go_wp2_with fail
          refine ⟨fun _ => HS.out.1, ?_⟩
          refine T_reads [7] (g := 1) rfl (by kernel_rfl) HS.out.1 (fun _ _ d _ _ h => by cases d <;> exact h) ?_
          simp only [pick, List.getD_cons_zero, List.getD_cons_succ]
          ((with_reducible refine wpRead_step (fun K hK => ?_)); go_simp; first | ((with_reducible refine hK _ ?_); clear hK K) | (apply Exists.intro; (with_reducible refine ⟨fun w' hw' => ?_, hK _ ?_⟩); (first | exact rfl | exact ⟨rfl, rfl⟩); clear hK K))
          with_reducible refine wpRead_nil ?_
          have f7 := HS.out.1.fr
          have e7 := HS.out.1.p
          refine T_one 8 (by kernel_rfl) ?_
          simp only [pick, List.getD_cons_zero, List.getD_cons_succ]
          go_wp2_with fail
          refine ⟨fun h => absurd rfl h, ?_⟩
          refine T_done (by kernel_rfl) ?_ _
          clear f7 e7
          have hT := HS.out.2.1.addRest (addI rest' f.by')
          have HT := Lib.hid (And.intro hT.1 (And.intro G0.out.2.1 (And.intro (show addAll (G.map gC, rest) (fs.take (i + 1)) = (G'.map gC, addI rest' f.by') from by
            rw [addAll_succ _ G0.out.2.2.2.2.1, G0.out.2.2.2.2.2, G0.out.2.2.1]
            unfold addF addK'
            dsimp only
            rw [HB.out]) (G0.out.2.2.2.1.trans (by
              have h1 := (But.of_below HS.out.2.2 (bsG x G')).trans hT.2
              unfold bsG at h1 ⊢
              rw [G0.out.2.1] at h1
              exact h1)))))
          clear hT
          go_wp2_with fail
          exact ⟨⟨i + 1, _, _, HJ.out.1, by first | rw [HJ.out.2] | rw [Int.natCast_succ], HT.out⟩, by first | (rw [HJ.out.2]; exact mSucc HJ.out.1) | (rw [← Int.natCast_succ]; exact mSucc HJ.out.1)⟩
        · simp only [pick, List.getD_cons_zero, List.getD_cons_succ]
          have hal := (Below.refl V.heap.size V).alloc (Nat.le_refl _) (.cells #[.int .u32 0, .int .i64 0] 46)
          have hz7 : (V.alloc (.cells #[.int .u32 0, .int .i64 0] 46)).heap[V.heap.size]? = some (.cells #[.int .u32 0, .int .i64 0] 46) := hnew _ _
          have hq7 : V.heap.size ≤ V.heap.size := FB.out.size
          obtain ⟨q7, hq⟩ : ∃ q7, V.heap.size = q7 := ⟨_, rfl⟩
          have hz8 : (V.alloc (.cells #[.int .u32 0, .int .i64 0] 46)).heap[q7]? = some (.cells #[.int .u32 0, .int .i64 0] 46) := hq ▸ hz7
          have hq8 : V.heap.size ≤ q7 := hq ▸ hq7
          have F5 := Lib.hid (And.intro (bcall FB.out (Nat.le_refl _) hal) (And.intro hz8 (hq8)))
          clear FB
          clear hal hz7 hq7 hz8 hq8
          go_wp2_with fail
          refine ⟨(FX.out.2.2.keep F5.out.1), ?_⟩
          clear hq
          generalize V.alloc (.cells #[.int .u32 0, .int .i64 0] 46) = V4 at *
          refine held_one 6 (by kernel_rfl) ?_
          simp only [pick, List.getD_cons_zero, List.getD_cons_succ]
          go_wp2_with fail
          refine (HL.out _ (bcall FX.out.1 (Nat.le_refl _) F5.out.1)).mono ?_
          rintro e V5 ⟨rfl, hb⟩
          have F6 := Lib.hid (And.intro (bcall F5.out.1 (Nat.le_refl _) hb) (And.intro ((hb.block _ (lt_of_blk F5.out.2.1)).trans F5.out.2.1) (F5.out.2.2)))
          clear F5
          clear hb
          go_wp2_with fail
          refine ⟨(FX.out.2.2.keep F6.out.1), ?_⟩
          refine held_reads [7, 8, 9, 10] (g := 3) rfl (by kernel_rfl) (FX.out.2.2.keep F6.out.1) (fun _ _ d _ _ h => by cases d <;> exact h) ?_
          simp only [pick, List.getD_cons_zero, List.getD_cons_succ]
          ((with_reducible refine wpRead_step (fun K hK => ?_)); go_simp; first | ((with_reducible refine hK _ ?_); clear hK K) | (apply Exists.intro; (with_reducible refine ⟨fun w' hw' => ?_, hK _ ?_⟩); (first | exact rfl | exact ⟨rfl, rfl⟩); clear hK K))
          ((with_reducible refine wpRead_step (fun K hK => ?_)); go_simp; first | ((with_reducible refine hK _ ?_); clear hK K) | (apply Exists.intro; (with_reducible refine ⟨fun w' hw' => ?_, hK _ ?_⟩); (first | exact rfl | exact ⟨rfl, rfl⟩); clear hK K))
          ((with_reducible refine wpRead_step (fun K hK => ?_)); go_simp; first | ((with_reducible refine hK _ ?_); clear hK K) | (apply Exists.intro; (with_reducible refine ⟨fun w' hw' => ?_, hK _ ?_⟩); (first | exact rfl | exact ⟨rfl, rfl⟩); clear hK K))
          ((with_reducible refine wpRead_step (fun K hK => ?_)); go_simp; first | ((with_reducible refine hK _ ?_); clear hK K) | (apply Exists.intro; (with_reducible refine ⟨fun w' hw' => ?_, hK _ ?_⟩); (first | exact rfl | exact ⟨rfl, rfl⟩); clear hK K))
          with_reducible refine wpRead_nil ?_
          refine held_one 12 (by kernel_rfl) ?_
          simp only [pick, List.getD_cons_zero, List.getD_cons_succ]
          unfold pfx
          go_wp2_with (with_reducible refine halt_store 46 rfl ?_)
          refine Halted.go ?_
          refine store_whole rfl 46 _ _ rfl q7 #[.int .u32 0, .int .i64 0] rfl rfl F6.out.2.1 rfl (by kernel_rfl) (by simp [Value.oneCell']) ?_
          intro V6 hz hsz
          have hbv := F6.out.1.trans (hsz.below F6.out.2.2)
          have F7 := Lib.hid (hbv)
          clear F6
          clear hz hsz hbv
          go_wp2_with fail
          refine ⟨(FX.out.2.2.keep F7.out), ?_⟩
          refine held_one 13 (by kernel_rfl) ?_
          simp only [pick, List.getD_cons_zero, List.getD_cons_succ]
          go_wp2_with fail
          refine ⟨(FX.out.2.2.keep F7.out), ?_⟩
          refine held_one 14 (by kernel_rfl) ?_
          simp only [pick, List.getD_cons_zero, List.getD_cons_succ]
          go_wp2_with fail
          refine ⟨(FX.out.2.2.keep F7.out), ?_⟩
          refine wpAnyH_done (by kernel_rfl) ?_ _
          go_wp2_with fail
          refine wp_region_T 8 (AdP x 1 w2.heap.size rest' f) (by kernel_rfl) ?_
          have hb := (Below.refl V6.heap.size V6).drew
          have F8 := Lib.hid ((bcall F7.out (Nat.le_refl _) hb))
          clear F7
          clear hb
          generalize V6.drew = V6d at *
          have htot := FX.out.2.1.keep F8.out
          have hbox := (FX.out.2.2.keep F8.out).box
          have hS : AdP x 1 w2.heap.size rest' f V6d := ⟨cell_of htot.tot rfl, free_of htot.tot, cell_of hbox rfl⟩
          have HS := Lib.hid (And.intro hS (And.intro htot (bcall FX.out.1 (Nat.le_refl _) F8.out)))
          clear htot hbox hS
          refine T_reads [0, 1, 2, 3, 4, 5] (g := 3) rfl (by kernel_rfl) HS.out.1 (fun _ _ d _ _ h => by cases d <;> exact h) ?_
          simp only [pick, List.getD_cons_zero, List.getD_cons_succ]
          ((with_reducible refine wpRead_step (fun K hK => ?_)); go_simp; first | ((with_reducible refine hK _ ?_); clear hK K) | (apply Exists.intro; (with_reducible refine ⟨fun w' hw' => ?_, hK _ ?_⟩); ((have f0 := hw'.p; have f1 := hw'.b; go_simp; first | exact rfl | exact ⟨rfl, rfl⟩)); clear hK K))
          ((with_reducible refine wpRead_step (fun K hK => ?_)); go_simp; first | ((with_reducible refine hK _ ?_); clear hK K) | (apply Exists.intro; (with_reducible refine ⟨fun w' hw' => ?_, hK _ ?_⟩); ((have f0 := hw'.p; have f1 := hw'.b; go_simp; first | exact rfl | exact ⟨rfl, rfl⟩)); clear hK K))
          ((with_reducible refine wpRead_step (fun K hK => ?_)); go_simp; first | ((with_reducible refine hK _ ?_); clear hK K) | (apply Exists.intro; (with_reducible refine ⟨fun w' hw' => ?_, hK _ ?_⟩); ((have f0 := hw'.p; have f1 := hw'.b; go_simp; first | exact rfl | exact ⟨rfl, rfl⟩)); clear hK K))
          ((with_reducible refine wpRead_step (fun K hK => ?_)); go_simp; first | ((with_reducible refine hK _ ?_); clear hK K) | (apply Exists.intro; (with_reducible refine ⟨fun w' hw' => ?_, hK _ ?_⟩); ((have f0 := hw'.p; have f1 := hw'.b; go_simp; first | exact rfl | exact ⟨rfl, rfl⟩)); clear hK K))
          ((with_reducible refine wpRead_step (fun K hK => ?_)); go_simp; first | ((with_reducible refine hK _ ?_); clear hK K) | (apply Exists.intro; (with_reducible refine ⟨fun w' hw' => ?_, hK _ ?_⟩); ((have f0 := hw'.p; have f1 := hw'.b; go_simp; first | exact rfl | exact ⟨rfl, rfl⟩)); clear hK K))
          ((with_reducible refine wpRead_step (fun K hK => ?_)); go_simp; first | ((with_reducible refine hK _ ?_); clear hK K) | (apply Exists.intro; (with_reducible refine ⟨fun w' hw' => ?_, hK _ ?_⟩); ((have f0 := hw'.p; have f1 := hw'.b; go_simp; first | exact rfl | exact ⟨rfl, rfl⟩)); clear hK K))
          with_reducible refine wpRead_nil ?_
          refine T_one 6 (by kernel_rfl) ?_
          simp only [pick, List.getD_cons_zero, List.getD_cons_succ]
          go_wp2_with fail
          refine (add_any rest' f.by' _).mono ?_
          rintro e9 W9 ⟨rfl, hw⟩
          subst hw
          go_wp2_with fail
          refine ⟨fun _ => HS.out.1, ?_⟩
          refine T_reads [7] (g := 1) rfl (by kernel_rfl) HS.out.1 (fun _ _ d _ _ h => by cases d <;> exact h) ?_
          simp only [pick, List.getD_cons_zero, List.getD_cons_succ]
          ((with_reducible refine wpRead_step (fun K hK => ?_)); go_simp; first | ((with_reducible refine hK _ ?_); clear hK K) | (apply Exists.intro; (with_reducible refine ⟨fun w' hw' => ?_, hK _ ?_⟩); (first | exact rfl | exact ⟨rfl, rfl⟩); clear hK K))
          with_reducible refine wpRead_nil ?_
          have f7 := HS.out.1.fr
          have e7 := HS.out.1.p
          refine T_one 8 (by kernel_rfl) ?_
          simp only [pick, List.getD_cons_zero, List.getD_cons_succ]
          go_wp2_with fail
          refine ⟨fun h => absurd rfl h, ?_⟩
          refine T_done (by kernel_rfl) ?_ _
          clear f7 e7
          have hT := HS.out.2.1.addRest (addI rest' f.by')
          have HT := Lib.hid (And.intro hT.1 (And.intro G0.out.2.1 (And.intro (show addAll (G.map gC, rest) (fs.take (i + 1)) = (G'.map gC, addI rest' f.by') from by
            rw [addAll_succ _ G0.out.2.2.2.2.1, G0.out.2.2.2.2.2, G0.out.2.2.1]
            unfold addF addK'
            dsimp only
            rw [HB.out]) (G0.out.2.2.2.1.trans (by
              have h1 := (But.of_below HS.out.2.2 (bsG x G')).trans hT.2
              unfold bsG at h1 ⊢
              rw [G0.out.2.1] at h1
              exact h1)))))
          clear hT
          go_wp2_with fail
          exact ⟨⟨i + 1, _, _, HJ.out.1, by first | rw [HJ.out.2] | rw [Int.natCast_succ], HT.out⟩, by first | (rw [HJ.out.2]; exact mSucc HJ.out.1) | (rw [← Int.natCast_succ]; exact mSucc HJ.out.1)⟩
      · have HB := Lib.hid (And.intro hbst hge)
        simp only [hl, hMv, Option.getD_some] at HL
        clear hbst hl hge hMv
        have FB := Lib.hid (Below.refl V.heap.size V)
        refine held_reads [0, 1, 2, 3, 4, 5] (g := 9) rfl (by kernel_rfl) FX.out.2.2 (fun _ _ d _ _ h => by cases d <;> exact h) ?_
        simp only [pick, List.getD_cons_zero, List.getD_cons_succ]
        ((with_reducible refine wpRead_step (fun K hK => ?_)); go_simp; first | ((with_reducible refine hK _ ?_); clear hK K) | (apply Exists.intro; (with_reducible refine ⟨fun w' hw' => ?_, hK _ ?_⟩); ((have f0 : w'.cell? ⟨x, 0, none⟩ = _ := cell_of hw'.tot rfl; have f1 : w'.cell? ⟨w2.heap.size, 1, none⟩ = _ := cell_of hw'.box rfl; go_simp; first | exact rfl | exact ⟨rfl, rfl⟩)); clear hK K))
        ((with_reducible refine wpRead_step (fun K hK => ?_)); go_simp; first | ((with_reducible refine hK _ ?_); clear hK K) | (apply Exists.intro; (with_reducible refine ⟨fun w' hw' => ?_, hK _ ?_⟩); ((have f0 : w'.cell? ⟨x, 0, none⟩ = _ := cell_of hw'.tot rfl; have f1 : w'.cell? ⟨w2.heap.size, 1, none⟩ = _ := cell_of hw'.box rfl; go_simp; first | exact rfl | exact ⟨rfl, rfl⟩)); clear hK K))
        ((with_reducible refine wpRead_step (fun K hK => ?_)); go_simp; first | ((with_reducible refine hK _ ?_); clear hK K) | (apply Exists.intro; (with_reducible refine ⟨fun w' hw' => ?_, hK _ ?_⟩); ((have f0 : w'.cell? ⟨x, 0, none⟩ = _ := cell_of hw'.tot rfl; have f1 : w'.cell? ⟨w2.heap.size, 1, none⟩ = _ := cell_of hw'.box rfl; go_simp; first | exact rfl | exact ⟨rfl, rfl⟩)); clear hK K))
        ((with_reducible refine wpRead_step (fun K hK => ?_)); go_simp; first | ((with_reducible refine hK _ ?_); clear hK K) | (apply Exists.intro; (with_reducible refine ⟨fun w' hw' => ?_, hK _ ?_⟩); ((have f0 : w'.cell? ⟨x, 0, none⟩ = _ := cell_of hw'.tot rfl; have f1 : w'.cell? ⟨w2.heap.size, 1, none⟩ = _ := cell_of hw'.box rfl; go_simp; first | exact rfl | exact ⟨rfl, rfl⟩)); clear hK K))
        ((with_reducible refine wpRead_step (fun K hK => ?_)); go_simp; first | ((with_reducible refine hK _ ?_); clear hK K) | (apply Exists.intro; (with_reducible refine ⟨fun w' hw' => ?_, hK _ ?_⟩); ((have f0 : w'.cell? ⟨x, 0, none⟩ = _ := cell_of hw'.tot rfl; have f1 : w'.cell? ⟨w2.heap.size, 1, none⟩ = _ := cell_of hw'.box rfl; go_simp; first | exact rfl | exact ⟨rfl, rfl⟩)); clear hK K))
        ((with_reducible refine wpRead_step (fun K hK => ?_)); go_simp; first | ((with_reducible refine hK _ ?_); clear hK K) | (apply Exists.intro; (with_reducible refine ⟨fun w' hw' => ?_, hK _ ?_⟩); ((have f0 : w'.cell? ⟨x, 0, none⟩ = _ := cell_of hw'.tot rfl; have f1 : w'.cell? ⟨w2.heap.size, 1, none⟩ = _ := cell_of hw'.box rfl; go_simp; first | exact rfl | exact ⟨rfl, rfl⟩)); clear hK K))
        with_reducible refine wpRead_nil ?_
        refine held_two 6 11 (by kernel_rfl) ?_ ?_
        · simp only [pick, List.getD_cons_zero, List.getD_cons_succ]
          go_wp2_with fail
          refine (HL.out _ (bcall FX.out.1 (Nat.le_refl _) FB.out)).mono ?_
          rintro e V7 ⟨rfl, hb⟩
          have F9 := Lib.hid ((bcall FB.out (Nat.le_refl _) hb))
          clear FB
          clear hb
          go_wp2_with fail
          refine ⟨(FX.out.2.2.keep F9.out), ?_⟩
          refine held_reads [7, 8, 9, 10] (g := 4) rfl (by kernel_rfl) (FX.out.2.2.keep F9.out) (fun _ _ d _ _ h => by cases d <;> exact h) ?_
          simp only [pick, List.getD_cons_zero, List.getD_cons_succ]
          ((with_reducible refine wpRead_step (fun K hK => ?_)); go_simp; first | ((with_reducible refine hK _ ?_); clear hK K) | (apply Exists.intro; (with_reducible refine ⟨fun w' hw' => ?_, hK _ ?_⟩); (first | exact rfl | exact ⟨rfl, rfl⟩); clear hK K))
          ((with_reducible refine wpRead_step (fun K hK => ?_)); go_simp; first | ((with_reducible refine hK _ ?_); clear hK K) | (apply Exists.intro; (with_reducible refine ⟨fun w' hw' => ?_, hK _ ?_⟩); (first | exact rfl | exact ⟨rfl, rfl⟩); clear hK K))
          ((with_reducible refine wpRead_step (fun K hK => ?_)); go_simp; first | ((with_reducible refine hK _ ?_); clear hK K) | (apply Exists.intro; (with_reducible refine ⟨fun w' hw' => ?_, hK _ ?_⟩); (first | exact rfl | exact ⟨rfl, rfl⟩); clear hK K))
          ((with_reducible refine wpRead_step (fun K hK => ?_)); go_simp; first | ((with_reducible refine hK _ ?_); clear hK K) | (apply Exists.intro; (with_reducible refine ⟨fun w' hw' => ?_, hK _ ?_⟩); (first | exact rfl | exact ⟨rfl, rfl⟩); clear hK K))
          with_reducible refine wpRead_nil ?_
          refine held_one 11 (by kernel_rfl) ?_
          simp only [pick, List.getD_cons_zero, List.getD_cons_succ]
          have hal := (Below.refl V7.heap.size V7).alloc (Nat.le_refl _) (.cells #[.int .u32 0, .int .i64 0] 46)
          have hz7 : (V7.alloc (.cells #[.int .u32 0, .int .i64 0] 46)).heap[V7.heap.size]? = some (.cells #[.int .u32 0, .int .i64 0] 46) := hnew _ _
          have hq7 : V.heap.size ≤ V7.heap.size := F9.out.size
          obtain ⟨q7, hq⟩ : ∃ q7, V7.heap.size = q7 := ⟨_, rfl⟩
          have hz8 : (V7.alloc (.cells #[.int .u32 0, .int .i64 0] 46)).heap[q7]? = some (.cells #[.int .u32 0, .int .i64 0] 46) := hq ▸ hz7
          have hq8 : V.heap.size ≤ q7 := hq ▸ hq7
          have F10 := Lib.hid (And.intro (bcall F9.out (Nat.le_refl _) hal) (And.intro hz8 (hq8)))
          clear F9
          clear hal hz7 hq7 hz8 hq8
          go_wp2_with fail
          refine ⟨(FX.out.2.2.keep F10.out.1), ?_⟩
          clear hq
          generalize V7.alloc (.cells #[.int .u32 0, .int .i64 0] 46) = V8 at *
          refine held_one 12 (by kernel_rfl) ?_
          simp only [pick, List.getD_cons_zero, List.getD_cons_succ]
          unfold pfx
          go_wp2_with (with_reducible refine halt_store 46 rfl ?_)
          refine Halted.go ?_
          refine store_whole rfl 46 _ _ rfl q7 #[.int .u32 ((cut f.dst j : Nat) : Int), .int .i64 (j : Int)] rfl rfl F10.out.2.1 rfl (by kernel_rfl) (by simp [Value.oneCell']) ?_
          intro V9 hz hsz
          have hbv := F10.out.1.trans (hsz.below F10.out.2.2)
          have F11 := Lib.hid (hbv)
          clear F10
          clear hz hsz hbv
          go_wp2_with fail
          refine ⟨(FX.out.2.2.keep F11.out), ?_⟩
          refine held_one 13 (by kernel_rfl) ?_
          simp only [pick, List.getD_cons_zero, List.getD_cons_succ]
          go_wp2_with fail
          refine ⟨(FX.out.2.2.keep F11.out), ?_⟩
          refine held_one 14 (by kernel_rfl) ?_
          simp only [pick, List.getD_cons_zero, List.getD_cons_succ]
          go_wp2_with fail
          refine ⟨(FX.out.2.2.keep F11.out), ?_⟩
          refine wpAnyH_done (by kernel_rfl) ?_ _
          go_wp2_with fail
          refine wp_region_T 8 (AdP e.2.1 0 w2.heap.size e.2.2 f) (by kernel_rfl) ?_
          have hb := (Below.refl V9.heap.size V9).drew
          have F12 := Lib.hid ((bcall F11.out (Nat.le_refl _) hb))
          clear F11
          clear hb
          generalize V9.drew = V9d at *
          have htot := FX.out.2.1.keep F12.out
          have hbox := (FX.out.2.2.keep F12.out).box
          have hS : AdP e.2.1 0 w2.heap.size e.2.2 f V9d := ⟨cell_of (htot.cnt e (List.mem_of_getElem? HB.out.2)) rfl, free_of (htot.cnt e (List.mem_of_getElem? HB.out.2)), cell_of hbox rfl⟩
          have HS := Lib.hid (And.intro hS (And.intro htot (bcall FX.out.1 (Nat.le_refl _) F12.out)))
          clear htot hbox hS
          refine T_reads [0, 1, 2, 3, 4, 5] (g := 3) rfl (by kernel_rfl) HS.out.1 (fun _ _ d _ _ h => by cases d <;> exact h) ?_
          simp only [pick, List.getD_cons_zero, List.getD_cons_succ]
          ((with_reducible refine wpRead_step (fun K hK => ?_)); go_simp; first | ((with_reducible refine hK _ ?_); clear hK K) | (apply Exists.intro; (with_reducible refine ⟨fun w' hw' => ?_, hK _ ?_⟩); ((have f0 := hw'.p; have f1 := hw'.b; go_simp; first | exact rfl | exact ⟨rfl, rfl⟩)); clear hK K))
          ((with_reducible refine wpRead_step (fun K hK => ?_)); go_simp; first | ((with_reducible refine hK _ ?_); clear hK K) | (apply Exists.intro; (with_reducible refine ⟨fun w' hw' => ?_, hK _ ?_⟩); ((have f0 := hw'.p; have f1 := hw'.b; go_simp; first | exact rfl | exact ⟨rfl, rfl⟩)); clear hK K))
          ((with_reducible refine wpRead_step (fun K hK => ?_)); go_simp; first | ((with_reducible refine hK _ ?_); clear hK K) | (apply Exists.intro; (with_reducible refine ⟨fun w' hw' => ?_, hK _ ?_⟩); ((have f0 := hw'.p; have f1 := hw'.b; go_simp; first | exact rfl | exact ⟨rfl, rfl⟩)); clear hK K))
          ((with_reducible refine wpRead_step (fun K hK => ?_)); go_simp; first | ((with_reducible refine hK _ ?_); clear hK K) | (apply Exists.intro; (with_reducible refine ⟨fun w' hw' => ?_, hK _ ?_⟩); ((have f0 := hw'.p; have f1 := hw'.b; go_simp; first | exact rfl | exact ⟨rfl, rfl⟩)); clear hK K))
          ((with_reducible refine wpRead_step (fun K hK => ?_)); go_simp; first | ((with_reducible refine hK _ ?_); clear hK K) | (apply Exists.intro; (with_reducible refine ⟨fun w' hw' => ?_, hK _ ?_⟩); ((have f0 := hw'.p; have f1 := hw'.b; go_simp; first | exact rfl | exact ⟨rfl, rfl⟩)); clear hK K))
          ((with_reducible refine wpRead_step (fun K hK => ?_)); go_simp; first | ((with_reducible refine hK _ ?_); clear hK K) | (apply Exists.intro; (with_reducible refine ⟨fun w' hw' => ?_, hK _ ?_⟩); ((have f0 := hw'.p; have f1 := hw'.b; go_simp; first | exact rfl | exact ⟨rfl, rfl⟩)); clear hK K))
          with_reducible refine wpRead_nil ?_
          refine T_one 6 (by kernel_rfl) ?_
          simp only [pick, List.getD_cons_zero, List.getD_cons_succ]
          go_wp2_with fail
          refine (add_any e.2.2 f.by' _).mono ?_
          rintro e9 W9 ⟨rfl, hw⟩
          subst hw
          go_wp2_with fail
          refine ⟨fun _ => HS.out.1, ?_⟩
          refine T_reads [7] (g := 1) rfl (by kernel_rfl) HS.out.1 (fun _ _ d _ _ h => by cases d <;> exact h) ?_
          simp only [pick, List.getD_cons_zero, List.getD_cons_succ]
          ((with_reducible refine wpRead_step (fun K hK => ?_)); go_simp; first | ((with_reducible refine hK _ ?_); clear hK K) | (apply Exists.intro; (with_reducible refine ⟨fun w' hw' => ?_, hK _ ?_⟩); (first | exact rfl | exact ⟨rfl, rfl⟩); clear hK K))
          with_reducible refine wpRead_nil ?_
          have f7 := HS.out.1.fr
          have e7 := HS.out.1.p
          refine T_one 8 (by kernel_rfl) ?_
          simp only [pick, List.getD_cons_zero, List.getD_cons_succ]
          go_wp2_with fail
          refine ⟨fun h => absurd rfl h, ?_⟩
          refine T_done (by kernel_rfl) ?_ _
          clear f7 e7
          have hT := HS.out.2.1.addAt HB.out.2 (addI e.2.2 f.by')
          have HT := Lib.hid (And.intro hT.1 (And.intro (show (G'.modify k (fun d => (d.1, d.2.1, addI e.2.2 f.by'))).map (·.2.1) = G.map (·.2.1) from (modify_map G' k (fun d => (d.1, d.2.1, addI e.2.2 f.by')) (fun d => d.2.1) (fun _ => rfl)).trans G0.out.2.1) (And.intro (show addAll (G.map gC, rest) (fs.take (i + 1)) = ((G'.modify k (fun d => (d.1, d.2.1, addI e.2.2 f.by'))).map gC, rest') from by
            rw [addAll_succ _ G0.out.2.2.2.2.1, G0.out.2.2.2.2.2, G0.out.2.2.1]
            unfold addF addK'
            dsimp only
            rw [HB.out.1, modify_gC HB.out.2]) (G0.out.2.2.2.1.trans (by
              have h1 := (But.of_below HS.out.2.2 (bsG x G')).trans hT.2
              unfold bsG at h1 ⊢
              rw [G0.out.2.1] at h1
              exact h1)))))
          clear hT
          go_wp2_with fail
          exact ⟨⟨i + 1, _, _, HJ.out.1, by first | rw [HJ.out.2] | rw [Int.natCast_succ], HT.out⟩, by first | (rw [HJ.out.2]; exact mSucc HJ.out.1) | (rw [← Int.natCast_succ]; exact mSucc HJ.out.1)⟩
        · simp only [pick, List.getD_cons_zero, List.getD_cons_succ]
          have hal := (Below.refl V.heap.size V).alloc (Nat.le_refl _) (.cells #[.int .u32 0, .int .i64 0] 46)
          have hz7 : (V.alloc (.cells #[.int .u32 0, .int .i64 0] 46)).heap[V.heap.size]? = some (.cells #[.int .u32 0, .int .i64 0] 46) := hnew _ _
          have hq7 : V.heap.size ≤ V.heap.size := FB.out.size
          obtain ⟨q7, hq⟩ : ∃ q7, V.heap.size = q7 := ⟨_, rfl⟩
          have hz8 : (V.alloc (.cells #[.int .u32 0, .int .i64 0] 46)).heap[q7]? = some (.cells #[.int .u32 0, .int .i64 0] 46) := hq ▸ hz7
          have hq8 : V.heap.size ≤ q7 := hq ▸ hq7
          have F13 := Lib.hid (And.intro (bcall FB.out (Nat.le_refl _) hal) (And.intro hz8 (hq8)))
          clear FB
          clear hal hz7 hq7 hz8 hq8
          go_wp2_with fail
          refine ⟨(FX.out.2.2.keep F13.out.1), ?_⟩
          clear hq
          generalize V.alloc (.cells #[.int .u32 0, .int .i64 0] 46) = V10 at *
          refine held_one 6 (by kernel_rfl) ?_
          simp only [pick, List.getD_cons_zero, List.getD_cons_succ]
          go_wp2_with fail
          refine (HL.out _ (bcall FX.out.1 (Nat.le_refl _) F13.out.1)).mono ?_
          rintro e V11 ⟨rfl, hb⟩
          have F14 := Lib.hid (And.intro (bcall F13.out.1 (Nat.le_refl _) hb) (And.intro ((hb.block _ (lt_of_blk F13.out.2.1)).trans F13.out.2.1) (F13.out.2.2)))
          clear F13
          clear hb
          go_wp2_with fail
          refine ⟨(FX.out.2.2.keep F14.out.1), ?_⟩
          refine held_reads [7, 8, 9, 10] (g := 3) rfl (by kernel_rfl) (FX.out.2.2.keep F14.out.1) (fun _ _ d _ _ h => by cases d <;> exact h) ?_
          simp only [pick, List.getD_cons_zero, List.getD_cons_succ]
          ((with_reducible refine wpRead_step (fun K hK => ?_)); go_simp; first | ((with_reducible refine hK _ ?_); clear hK K) | (apply Exists.intro; (with_reducible refine ⟨fun w' hw' => ?_, hK _ ?_⟩); (first | exact rfl | exact ⟨rfl, rfl⟩); clear hK K))
          ((with_reducible refine wpRead_step (fun K hK => ?_)); go_simp; first | ((with_reducible refine hK _ ?_); clear hK K) | (apply Exists.intro; (with_reducible refine ⟨fun w' hw' => ?_, hK _ ?_⟩); (first | exact rfl | exact ⟨rfl, rfl⟩); clear hK K))
          ((with_reducible refine wpRead_step (fun K hK => ?_)); go_simp; first | ((with_reducible refine hK _ ?_); clear hK K) | (apply Exists.intro; (with_reducible refine ⟨fun w' hw' => ?_, hK _ ?_⟩); (first | exact rfl | exact ⟨rfl, rfl⟩); clear hK K))
          ((with_reducible refine wpRead_step (fun K hK => ?_)); go_simp; first | ((with_reducible refine hK _ ?_); clear hK K) | (apply Exists.intro; (with_reducible refine ⟨fun w' hw' => ?_, hK _ ?_⟩); (first | exact rfl | exact ⟨rfl, rfl⟩); clear hK K))
          with_reducible refine wpRead_nil ?_
          refine held_one 12 (by kernel_rfl) ?_
          simp only [pick, List.getD_cons_zero, List.getD_cons_succ]
          unfold pfx
          go_wp2_with (with_reducible refine halt_store 46 rfl ?_)
          refine Halted.go ?_
          refine store_whole rfl 46 _ _ rfl q7 #[.int .u32 ((cut f.dst j : Nat) : Int), .int .i64 (j : Int)] rfl rfl F14.out.2.1 rfl (by kernel_rfl) (by simp [Value.oneCell']) ?_
          intro V12 hz hsz
          have hbv := F14.out.1.trans (hsz.below F14.out.2.2)
          have F15 := Lib.hid (hbv)
          clear F14
          clear hz hsz hbv
          go_wp2_with fail
          refine ⟨(FX.out.2.2.keep F15.out), ?_⟩
          refine held_one 13 (by kernel_rfl) ?_
          simp only [pick, List.getD_cons_zero, List.getD_cons_succ]
          go_wp2_with fail
          refine ⟨(FX.out.2.2.keep F15.out), ?_⟩
          refine held_one 14 (by kernel_rfl) ?_
          simp only [pick, List.getD_cons_zero, List.getD_cons_succ]
          go_wp2_with fail
          refine ⟨(FX.out.2.2.keep F15.out), ?_⟩
          refine wpAnyH_done (by kernel_rfl) ?_ _
          go_wp2_with fail
          refine wp_region_T 8 (AdP e.2.1 0 w2.heap.size e.2.2 f) (by kernel_rfl) ?_
          have hb := (Below.refl V12.heap.size V12).drew
          have F16 := Lib.hid ((bcall F15.out (Nat.le_refl _) hb))
          clear F15
          clear hb
          generalize V12.drew = V12d at *
          have htot := FX.out.2.1.keep F16.out
          have hbox := (FX.out.2.2.keep F16.out).box
          have hS : AdP e.2.1 0 w2.heap.size e.2.2 f V12d := ⟨cell_of (htot.cnt e (List.mem_of_getElem? HB.out.2)) rfl, free_of (htot.cnt e (List.mem_of_getElem? HB.out.2)), cell_of hbox rfl⟩
          have HS := Lib.hid (And.intro hS (And.intro htot (bcall FX.out.1 (Nat.le_refl _) F16.out)))
          clear htot hbox hS
          refine T_reads [0, 1, 2, 3, 4, 5] (g := 3) rfl (by kernel_rfl) HS.out.1 (fun _ _ d _ _ h => by cases d <;> exact h) ?_
          simp only [pick, List.getD_cons_zero, List.getD_cons_succ]
          ((with_reducible refine wpRead_step (fun K hK => ?_)); go_simp; first | ((with_reducible refine hK _ ?_); clear hK K) | (apply Exists.intro; (with_reducible refine ⟨fun w' hw' => ?_, hK _ ?_⟩); ((have f0 := hw'.p; have f1 := hw'.b; go_simp; first | exact rfl | exact ⟨rfl, rfl⟩)); clear hK K))
          ((with_reducible refine wpRead_step (fun K hK => ?_)); go_simp; first | ((with_reducible refine hK _ ?_); clear hK K) | (apply Exists.intro; (with_reducible refine ⟨fun w' hw' => ?_, hK _ ?_⟩); ((have f0 := hw'.p; have f1 := hw'.b; go_simp; first | exact rfl | exact ⟨rfl, rfl⟩)); clear hK K))
          ((with_reducible refine wpRead_step (fun K hK => ?_)); go_simp; first | ((with_reducible refine hK _ ?_); clear hK K) | (apply Exists.intro; (with_reducible refine ⟨fun w' hw' => ?_, hK _ ?_⟩); ((have f0 := hw'.p; have f1 := hw'.b; go_simp; first | exact rfl | exact ⟨rfl, rfl⟩)); clear hK K))
          ((with_reducible refine wpRead_step (fun K hK => ?_)); go_simp; first | ((with_reducible refine hK _ ?_); clear hK K) | (apply Exists.intro; (with_reducible refine ⟨fun w' hw' => ?_, hK _ ?_⟩); ((have f0 := hw'.p; have f1 := hw'.b; go_simp; first | exact rfl | exact ⟨rfl, rfl⟩)); clear hK K))
          ((with_reducible refine wpRead_step (fun K hK => ?_)); go_simp; first | ((with_reducible refine hK _ ?_); clear hK K) | (apply Exists.intro; (with_reducible refine ⟨fun w' hw' => ?_, hK _ ?_⟩); ((have f0 := hw'.p; have f1 := hw'.b; go_simp; first | exact rfl | exact ⟨rfl, rfl⟩)); clear hK K))
          ((with_reducible refine wpRead_step (fun K hK => ?_)); go_simp; first | ((with_reducible refine hK _ ?_); clear hK K) | (apply Exists.intro; (with_reducible refine ⟨fun w' hw' => ?_, hK _ ?_⟩); ((have f0 := hw'.p; have f1 := hw'.b; go_simp; first | exact rfl | exact ⟨rfl, rfl⟩)); clear hK K))
          with_reducible refine wpRead_nil ?_
          refine T_one 6 (by kernel_rfl) ?_
          simp only [pick, List.getD_cons_zero, List.getD_cons_succ]
          go_wp2_with fail
          refine (add_any e.2.2 f.by' _).mono ?_
          rintro e9 W9 ⟨rfl, hw⟩
          subst hw
          go_wp2_with fail
          refine ⟨fun _ => HS.out.1, ?_⟩
          refine T_reads [7] (g := 1) rfl (by kernel_rfl) HS.out.1 (fun _ _ d _ _ h => by cases d <;> exact h) ?_
          simp only [pick, List.getD_cons_zero, List.getD_cons_succ]
          ((with_reducible refine wpRead_step (fun K hK => ?_)); go_simp; first | ((with_reducible refine hK _ ?_); clear hK K) | (apply Exists.intro; (with_reducible refine ⟨fun w' hw' => ?_, hK _ ?_⟩); (first | exact rfl | exact ⟨rfl, rfl⟩); clear hK K))
          with_reducible refine wpRead_nil ?_
          have f7 := HS.out.1.fr
          have e7 := HS.out.1.p
          refine T_one 8 (by kernel_rfl) ?_
          simp only [pick, List.getD_cons_zero, List.getD_cons_succ]
          go_wp2_with fail
          refine ⟨fun h => absurd rfl h, ?_⟩
          refine T_done (by kernel_rfl) ?_ _
          clear f7 e7
          have hT := HS.out.2.1.addAt HB.out.2 (addI e.2.2 f.by')
          have HT := Lib.hid (And.intro hT.1 (And.intro (show (G'.modify k (fun d => (d.1, d.2.1, addI e.2.2 f.by'))).map (·.2.1) = G.map (·.2.1) from (modify_map G' k (fun d => (d.1, d.2.1, addI e.2.2 f.by')) (fun d => d.2.1) (fun _ => rfl)).trans G0.out.2.1) (And.intro (show addAll (G.map gC, rest) (fs.take (i + 1)) = ((G'.modify k (fun d => (d.1, d.2.1, addI e.2.2 f.by'))).map gC, rest') from by
            rw [addAll_succ _ G0.out.2.2.2.2.1, G0.out.2.2.2.2.2, G0.out.2.2.1]
            unfold addF addK'
            dsimp only
            rw [HB.out.1, modify_gC HB.out.2]) (G0.out.2.2.2.1.trans (by
              have h1 := (But.of_below HS.out.2.2 (bsG x G')).trans hT.2
              unfold bsG at h1 ⊢
              rw [G0.out.2.1] at h1
              exact h1)))))
          clear hT
          go_wp2_with fail
          exact ⟨⟨i + 1, _, _, HJ.out.1, by first | rw [HJ.out.2] | rw [Int.natCast_succ], HT.out⟩, by first | (rw [HJ.out.2]; exact mSucc HJ.out.1) | (rw [← Int.natCast_succ]; exact mSucc HJ.out.1)⟩
    · obtain rfl : i = n := by omega
      have hil : ((i : Int) < (i : Int)) = False := by simp
      rw [List.take_of_length_le (by have := F.out.2.1; omega)] at hadd
      have G0 := Lib.hid (And.intro htot (And.intro hbl (And.intro hadd hbut)))
      clear htot hbl hadd hbut
      go_wp2_with fail
      go_end0
      exact ⟨rfl, _, _, G0.out⟩
end Go.Proofs.Ytcbpdjenncbbeaa

