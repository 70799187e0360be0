/- Tables: what set does. -/
import Derived.Test.YtadoflcomienoaaGreatZap
import Derived.Test.YtadoflcomienoaaGreatZaq
namespace Go.Proofs.YtadoflcomienoaaGreat
open Go.RowKit
open Go.ChangeMaps (setBlock)

/-- a table's own cells, and three boxes: a prefix, a path, attributes -/
structure SeS (R : Rb) (n : Nat) (asn room nn ref : Int) (f : Int → Int) (q4 q5 q6 a d : Nat) (r i : Int) (x : AtV) (W : World) : Prop where
  t : TbS R n asn room nn ref f q4 q5 a d r i W
  b : BxA q6 x W
theorem SeS.keep {R : Rb} {n : Nat} {asn room nn ref : Int} {f : Int → Int} {q4 q5 q6 a d : Nat} {r i : Int} {x : AtV} {W W' : World} (h : SeS R n asn room nn ref f q4 q5 q6 a d r i x W) (hb : Below W.heap.size W W') : SeS R n asn room nn ref f q4 q5 q6 a d r i x W' := ⟨h.t.keep hb, h.b.keep hb⟩
theorem RibAt.blkset {w W : World} {R : Rb} {X : Nat → Prop} {n : Nat} {asn room ref ref' : Int} {G : List RtV} (H : RibAt w R X n asn room ref G) (hblk : W.heap[R.b]? = some (.cells #[.pointer (some ⟨R.bt, 0, none⟩), .int .i64 asn, .int .i64 room, .int .i64 (G.length : Int), .int .i64 ref', .map (some R.bo)] 120))
    (hsame : ∀ k, k < w.heap.size → k ≠ R.b → W.heap[k]? = w.heap[k]?) (hsz : w.heap.size ≤ W.heap.size) : RibAt W R X n asn room ref' G := by
  refine ⟨hblk, H.tr.keep fun k hk => hsame k (H.tr.lt hk) (fun e => H.b_foot (e ▸ hk)), H.rf, fun a d x h => ?_, H.all, H.inj, H.of.on (hsame _ H.of.lt H.bo_b), H.ofne, H.okx, H.nd, fun x hx => ?_, H.sm⟩
  · obtain ⟨m, rfl, h1, h2⟩ := H.mp a d x h
    exact ⟨m, rfl, h1.on (hsame m (H.map_lt h) (H.map_b h)), h2⟩
  · exact (H.far x hx).turn hsz (fun k hk hn => hsame k hk (fun e => hn (.inl (.inl e)))) fun k hk => .inl hk
theorem dropV_map (G : List RtV) (q : RKey) : (dropV G q).map RtV.rt = dropR (G.map RtV.rt) q := by
  unfold dropV dropR
  rw [List.filter_map]
  rfl
theorem hasR_map {G : List RtV} {q : RKey} : hasR (G.map RtV.rt) q = true ↔ ∃ x ∈ G, x.key = q := by
  rw [hasR_iff]
  constructor
  · rintro ⟨y, hy, e⟩
    obtain ⟨x, hx, rfl⟩ := List.mem_map.1 hy
    exact ⟨x, hx, e⟩
  · rintro ⟨x, hx, e⟩; exact ⟨_, List.mem_map_of_mem hx, e⟩
theorem put_at {G : List RtV} {a d : Nat} {r i : Int} (y : AtV) : atV (dropV G (r, pkN a d, i) ++ [⟨r, pkN a d, i, y⟩]) (pkN a d) = (atV G (pkN a d)).filter (fun x => decide (x.pi ≠ (r, i))) ++ [⟨r, pkN a d, i, y⟩] := by
  rw [← atV_drop]
  unfold atV
  rw [List.filter_append]
  congr 1
  simp
theorem put_other {G : List RtV} {k k' : PK} {r i : Int} (y : AtV) (h : k' ≠ k) : atV (dropV G (r, k, i) ++ [⟨r, k, i, y⟩]) k' = atV G k' := by
  have h1 := atV_other (G := G) (r := r) (i := i) h
  unfold atV at *
  rw [List.filter_append, h1]
  simp [Ne.symm h]
theorem put_paths {L : List RtV} (hn : (L.map RtV.pi).Nodup) (y : RtV) : ((L.filter (fun x => decide (x.pi ≠ y.pi)) ++ [y]).map RtV.pi).Nodup ∧ ∀ k, Kl.look RtV.pi (L.filter (fun x => decide (x.pi ≠ y.pi)) ++ [y]) k = if k = y.pi then some y else Kl.look RtV.pi L k := by
  have h1 : ((L.filter (fun x => decide (x.pi ≠ y.pi)) ++ [y]).map RtV.pi).Nodup := by
    rw [List.map_append, List.nodup_append]
    refine ⟨Kl.nodup_filter hn _, by simp, fun a ha b hb => ?_⟩
    simp at hb
    subst hb
    obtain ⟨z, hz, rfl⟩ := List.mem_map.1 ha
    simpa using (List.mem_filter.1 hz).2
  refine ⟨h1, fun k => ?_⟩
  split
  · rename_i e; exact (Kl.look_some h1).2 ⟨by simp, e.symm⟩
  · rename_i e
    cases hl : Kl.look RtV.pi L k with
    | none =>
      refine Kl.look_no fun z hz => ?_
      rcases List.mem_append.1 hz with hz | hz
      · exact Kl.look_none hl (List.mem_filter.1 hz).1
      · simp at hz; subst hz; exact Ne.symm e
    | some z =>
      obtain ⟨h3, h4⟩ := Kl.look_mem hl
      refine (Kl.look_some h1).2 ⟨List.mem_append.2 (.inl (List.mem_filter.2 ⟨h3, ?_⟩)), h4⟩
      rw [decide_eq_true_eq, h4]
      exact e
theorem SmA.of {w w' : World} {x y : AtV} (h : SmA x) (hy : AtOk w y) (hx : AtOk w' x) (e : y.at = x.at) : SmA y := by
  have e1 : y.p.l.map SgV.sg = x.p.l.map SgV.sg := congrArg At.p e
  have e2 : y.c.l = x.c.l := congrArg At.c e
  refine ⟨?_, ?_, fun z hz => ?_⟩
  · have h1 := congrArg List.length e1
    rw [List.length_map, List.length_map] at h1
    have h2 : y.p.n = y.p.l.length := hy.p.sl.len
    have h3 : x.p.n = x.p.l.length := hx.p.sl.len
    have := h.p
    omega
  · have h2 : y.c.n = y.c.l.length := hy.c.sl.len
    have h3 : x.c.n = x.c.l.length := hx.c.sl.len
    have := h.c
    rw [e2] at h2
    omega
  · have h1 : z.sg ∈ x.p.l.map SgV.sg := by rw [← e1]; exact List.mem_map_of_mem hz
    obtain ⟨u, hu, hue⟩ := List.mem_map.1 h1
    have h2 : u.s.l = z.s.l := congrArg (·.2) hue
    have h3 : u.s.n = u.s.l.length := (hx.p.all u hu).sl.len
    have h4 : z.s.n = z.s.l.length := (hy.p.all z hz).sl.len
    have := h.s u hu
    rw [h2] at h3
    omega
theorem put_nd {G : List RtV} (hn : (G.map RtV.key).Nodup) (y : RtV) : ((dropV G y.key ++ [y]).map RtV.key).Nodup := by
  rw [List.map_append, List.nodup_append]
  refine ⟨Kl.nodup_filter hn _, by simp, fun a ha b hb => ?_⟩
  simp at hb
  subst hb
  obtain ⟨z, hz, rfl⟩ := List.mem_map.1 ha
  unfold dropV at hz
  simpa using (List.mem_filter.1 hz).2
theorem put_cnt (G : List RtV) (y : RtV) (j : Int) : cntV (G ++ [y]) j = if j = y.r then cntV G y.r + 1 else cntV G j := by
  unfold cntV
  rw [List.filter_append, List.length_append]
  by_cases e : j = y.r
  · subst e
    rw [if_pos rfl]
    simp
  · rw [if_neg e]
    simp [Ne.symm e]
set_option maxRecDepth 100000 in
set_option maxHeartbeats 16000000 in
theorem set_any {w : World} {R : Rb} {X : Nat → Prop} {n : Nat} {asn room ref : Int} {G : List RtV} (H : RibAt w R X n asn room ref G) {r i : Int} {a d : Nat} (hk : KOk r (pkN a d) i) (hG : G.length ≤ 4000000) (href : 0 ≤ ref ∧ ref ≤ 1000000000) {x : AtV} (hx : HoldF (R.FX X) w fun W => AtOk W x) (hs : SmA x) (hX : ∀ k, X k → k < w.heap.size) : Calls Tryz.prog 83 #[.pointer (some ⟨R.b, 0, none⟩), .agg #[.int .u32 (a : Int), .int .i64 (d : Int)], .agg #[.int .i64 r, .int .i64 i], x.v] w fun e w' => e = .returned (.tuple #[]) ∧ ∃ R' n' G' ref', RibAt w' R' X n' asn room ref' G' ∧ (G'.map RtV.rt, ref') = setR room (G.map RtV.rt, ref) ⟨r, pkN a d, i, x.at⟩ ∧ R'.b = R.b ∧ Moved w w' R.F R'.F := by
  have hal := (((Below.refl w.heap.size w).alloc (Nat.le_refl _) (.cells #[.int .u32 (a : Int), .int .i64 (d : Int)] 58)).alloc (by simp) (.cells #[.int .i64 r, .int .i64 i] 129)).alloc (by simp; omega) (.cells #[.int .i64 x.o, .slice x.p.a x.p.n x.p.c, .int .u32 x.nx, .int .i64 x.md, .int .i64 x.pf, .slice x.c.a x.c.n x.c.c] 40)
  have hp : ((((w.alloc (.cells #[.int .u32 (a : Int), .int .i64 (d : Int)] 58)).alloc (.cells #[.int .i64 r, .int .i64 i] 129)).alloc (.cells #[.int .i64 x.o, .slice x.p.a x.p.n x.p.c, .int .u32 x.nx, .int .i64 x.md, .int .i64 x.pf, .slice x.c.a x.c.n x.c.c] 40))).heap[w.heap.size]? = some (.cells #[.int .u32 (a : Int), .int .i64 (d : Int)] 58) := hold (hold (hnew _ _))
  have hh : ((((w.alloc (.cells #[.int .u32 (a : Int), .int .i64 (d : Int)] 58)).alloc (.cells #[.int .i64 r, .int .i64 i] 129)).alloc (.cells #[.int .i64 x.o, .slice x.p.a x.p.n x.p.c, .int .u32 x.nx, .int .i64 x.md, .int .i64 x.pf, .slice x.c.a x.c.n x.c.c] 40))).heap[w.heap.size + 1]? = some (.cells #[.int .i64 r, .int .i64 i] 129) := hold (hnewAt (by simp))
  have hxb : ((((w.alloc (.cells #[.int .u32 (a : Int), .int .i64 (d : Int)] 58)).alloc (.cells #[.int .i64 r, .int .i64 i] 129)).alloc (.cells #[.int .i64 x.o, .slice x.p.a x.p.n x.p.c, .int .u32 x.nx, .int .i64 x.md, .int .i64 x.pf, .slice x.c.a x.c.n x.c.c] 40))).heap[w.heap.size + 2]? = some (.cells #[.int .i64 x.o, .slice x.p.a x.p.n x.p.c, .int .u32 x.nx, .int .i64 x.md, .int .i64 x.pf, .slice x.c.a x.c.n x.c.c] 40) := hnewAt (by simp)
  have hqk : QN.ok (r, i) := ⟨wfI ⟨by have := hk.r; omega, by have := hk.r; omega⟩, wfI ⟨by have := hk.i; omega, by have := hk.i; omega⟩⟩
  have HRW := Lib.hid hqk.1
  have HK := Lib.hid (And.intro hk (And.intro hG (And.intro href (And.intro hqk (And.intro hx (And.intro hs hX))))))
  have hlk : look R.M a (d : Int) = R.M a d := by unfold look; rw [show okP a (d : Int) = true from hk.p, if_pos rfl, Int.toNat_natCast]
  have h0 : SeS R n asn room (G.length : Int) ref (cntV G) w.heap.size (w.heap.size + 1) (w.heap.size + 2) a d r i x ((((w.alloc (.cells #[.int .u32 (a : Int), .int .i64 (d : Int)] 58)).alloc (.cells #[.int .i64 r, .int .i64 i] 129)).alloc (.cells #[.int .i64 x.o, .slice x.p.a x.p.n x.p.c, .int .u32 x.nx, .int .i64 x.md, .int .i64 x.pf, .slice x.c.a x.c.n x.c.c] 40))) := ⟨⟨(hal.block _ (lt_of_blk H.blk)).trans H.blk, H.tr.below hal, H.of.on (hal.block _ H.of.lt), hp, hh⟩, hxb⟩
  have hdr := (Below.refl ((((w.alloc (.cells #[.int .u32 (a : Int), .int .i64 (d : Int)] 58)).alloc (.cells #[.int .i64 r, .int .i64 i] 129)).alloc (.cells #[.int .i64 x.o, .slice x.p.a x.p.n x.p.c, .int .u32 x.nx, .int .i64 x.md, .int .i64 x.pf, .slice x.c.a x.c.n x.c.c] 40))).heap.size ((((w.alloc (.cells #[.int .u32 (a : Int), .int .i64 (d : Int)] 58)).alloc (.cells #[.int .i64 r, .int .i64 i] 129)).alloc (.cells #[.int .i64 x.o, .slice x.p.a x.p.n x.p.c, .int .u32 x.nx, .int .i64 x.md, .int .i64 x.pf, .slice x.c.a x.c.n x.c.c] 40)))).drew
  have F1 := Lib.hid (And.intro (bcall hal (Nat.le_refl _) hdr) (h0.keep hdr))
  have HA := Lib.hid hk.a
  have hgm := Tm.getM_any F1.out.2.t.tr a (d : Int) HA.out
  rw [hlk] at hgm
  have HH := Lib.hid H
  clear hal hp hh hxb hqk hk hG href hx hs hX hlk h0 hdr H
  obtain ⟨nn, hnn⟩ : ∃ z : Int, (G.length : Int) = z := ⟨_, rfl⟩
  rw [hnn] at F1
  have HNN := Lib.hid hnn
  clear hnn
  unfold pfx at hgm
  unfold AtV.v
  cases hM : R.M a d with
  | none =>
    rw [hM] at hgm
    simp only [Option.getD_none, Option.isSome_none] at hgm
    have HGM := Lib.hid hgm
    have hno : ∀ z ∈ G, z.key ≠ (r, pkN a d, i) := fun z hz e => by
      have h1 := HH.out.all z hz
      rw [(keyV_iff.1 e).2.1] at h1
      unfold pkN at h1
      rw [Int.toNat_natCast, hM] at h1
      cases h1
    have HNO := Lib.hid (show hasR (G.map RtV.rt) (⟨r, pkN a d, i, x.at⟩ : Rt).key = false from by
      rw [Bool.eq_false_iff]
      intro h
      obtain ⟨z, hz, e⟩ := hasR_map.1 h
      exact hno z hz e)
    have HM := Lib.hid hM
    clear hM hgm hno
    by_cases hfull : room ≤ nn
    · have e1 : (room ≤ nn) = True := eq_true hfull
      go_enter Tryz.func83, Tryz.ntmps83
      go_wp2_with fail
      refine wp_region_heldP (SeS R n asn room nn ref (cntV G) w.heap.size (w.heap.size + 1) (w.heap.size + 2) a d r i x) (by kernel_rfl) ?_
      generalize ((((w.alloc (.cells #[.int .u32 (a : Int), .int .i64 (d : Int)] 58)).alloc (.cells #[.int .i64 r, .int .i64 i] 129)).alloc (.cells #[.int .i64 x.o, .slice x.p.a x.p.n x.p.c, .int .u32 x.nx, .int .i64 x.md, .int .i64 x.pf, .slice x.c.a x.c.n x.c.c] 40))).drew = V at *
      refine held_reads [0, 1, 2, 3, 4] (g := 6) rfl (by kernel_rfl) F1.out.2 (fun _ _ d _ _ h => by cases d <;> exact h) ?_
      simp only [pick, List.getD_cons_zero, List.getD_cons_succ]
      iterate 4 ((with_reducible refine wpRead_step (fun K hK => ?_)); go_simp; first | ((with_reducible refine hK _ ?_); clear hK K) | (apply Exists.intro; (with_reducible refine ⟨fun w' hw' => ?_, hK _ ?_⟩); ((have f0 : w'.cell? ⟨R.b, 0, none⟩ = _ := cell_of hw'.t.blk rfl; go_simp; first | exact rfl | exact ⟨rfl, rfl⟩)); clear hK K))
      with_reducible refine wpRead_yes ?_ ?_
      rotate_left
      rfl
      intro K hK
      refine read_load 58 _ rfl w.heap.size 0 #[.int .u32 (a : Int), .int .i64 (d : Int)] rfl (fun w' hw' => rangeAt_block hw'.t.p 0 _ rfl) Tryz.underlying58 rfl (by kernel_rfl) (hK _ ?_)
      clear hK K
      with_reducible refine wpRead_nil ?_
      refine held_one 5 (by kernel_rfl) ?_
      simp only [pick, List.getD_cons_zero, List.getD_cons_succ]
      go_wp2_with fail
      refine (HGM.out).mono ?_
      rintro e W2 ⟨rfl, hb⟩
      have F2 := Lib.hid (And.intro (bcall F1.out.1 (Nat.le_refl _) hb) (F1.out.2.keep hb))
      clear hb F1 HGM
      go_wp2_with fail
      refine ⟨F2.out.2, ?_⟩
      refine held_reads [6, 7, 8, 9, 10] (g := 0) rfl (by kernel_rfl) F2.out.2 (fun _ _ d _ _ h => by cases d <;> exact h) ?_
      simp only [pick, List.getD_cons_zero, List.getD_cons_succ]
      iterate 5 ((with_reducible refine wpRead_step (fun K hK => ?_)); go_simp; first | ((with_reducible refine hK _ ?_); clear hK K) | (apply Exists.intro; (with_reducible refine ⟨fun w' hw' => ?_, hK _ ?_⟩); (first | exact rfl | exact ⟨rfl, rfl⟩); clear hK K))
      with_reducible refine wpRead_nil ?_
      refine wpAnyH_done (by kernel_rfl) ?_ _
      have c0 := cell_of (o := 0) F2.out.2.t.h rfl
      have c1 := cell_of (o := 1) F2.out.2.t.h rfl
      have hlu := paths_nil (k := (r, i)) HK.out.2.2.2.1 W2
      go_wp2_with (with_reducible refine halt_store 40 (x := .tmp 10) rfl ?_)
      refine Halted.go ?_
      have hal := (Below.refl W2.heap.size W2).alloc (Nat.le_refl _) (.cells #[.int .i64 0, .slice none 0 0, .int .u32 0, .int .i64 0, .int .i64 0, .slice none 0 0] 40)
      refine store_whole rfl 40 _ _ rfl W2.heap.size #[.int .i64 0, .slice none 0 0, .int .u32 0, .int .i64 0, .int .i64 0, .slice none 0 0] rfl rfl (hnew _ _) rfl (by kernel_rfl) (by simp [Value.oneCell']) ?_
      intro W3 hwz hsz
      have hzb : Below W2.heap.size W2 W3 := Below.trans hal (hsz.below (Nat.le_refl _))
      have hdr := (Below.refl W3.heap.size W3).drew
      have F3 := Lib.hid (And.intro (bcall (bcall F2.out.1 (Nat.le_refl _) hzb) (Nat.le_refl _) hdr) ((F2.out.2.keep hzb).keep hdr))
      clear hal hwz hsz hzb hlu c0 c1 F2 hdr
      go_wp2_with fail
      refine wp_region_heldP (SeS R n asn room nn ref (cntV G) w.heap.size (w.heap.size + 1) (w.heap.size + 2) a d r i x) (by kernel_rfl) ?_
      generalize W3.drew = V3 at *
      refine held_reads [0, 1, 2, 3, 4, 5, 6, 7, 8, 9, 10, 11, 12] (g := 0) rfl (by kernel_rfl) F3.out.2 (fun _ _ d _ _ h => by cases d <;> exact h) ?_
      simp only [pick, List.getD_cons_zero, List.getD_cons_succ]
      iterate 13 ((with_reducible refine wpRead_step (fun K hK => ?_)); go_simp; first | (rw [if_neg (by decide)]; (with_reducible refine hK _ ?_); clear hK K) | ((with_reducible refine hK _ ?_); clear hK K) | (apply Exists.intro; (with_reducible refine ⟨fun w' hw' => ?_, hK _ ?_⟩); ((have f0 : w'.cell? ⟨R.b, 2, none⟩ = _ := cell_of hw'.t.blk rfl; have f1 : w'.cell? ⟨R.b, 3, none⟩ = _ := cell_of hw'.t.blk rfl; go_simp; first | exact rfl | exact ⟨rfl, rfl⟩)); clear hK K))
      with_reducible refine wpRead_nil ?_
      refine wpAnyH_done (by kernel_rfl) ?_ _
      have c4 := cell_of (o := 4) F3.out.2.t.blk rfl
      have e4 : V3.frozen? ⟨R.b, 4, none⟩ = false := free_of F3.out.2.t.blk
      have hw4 : wrap64 (ref + 1) = ref + 1 := by have h1 := HK.out.2.2.1; unfold wrap64; omega
      have hbk := setCell_blk F3.out.2.t.blk 4 (.int .i64 (ref + 1))
      have hB : But V3 (V3.setCell ⟨R.b, 4, none⟩ (.int .i64 (ref + 1))) [R.b] := (But.refl V3 _).setCell (a := ⟨R.b, 4, none⟩) (.inr (by simp)) _
      have F4 := Lib.hid (And.intro (HH.out.blkset (ref' := ref + 1) (by rw [HNN.out]; exact hbk) (fun k hk hn => (hB.block k (Nat.lt_of_lt_of_le hk F3.out.1.size) (by simpa using hn)).trans (F3.out.1.block k hk)) (Nat.le_trans F3.out.1.size hB.size)) (show Moved w (V3.setCell ⟨R.b, 4, none⟩ (.int .i64 (ref + 1))) R.F R.F from ⟨hB.os.trans F3.out.1.os, hB.tape.trans F3.out.1.tape, hB.output.trans F3.out.1.output, Nat.le_trans F3.out.1.size hB.size, fun k hk hn => (hB.block k (Nat.lt_of_lt_of_le hk F3.out.1.size) (by intro hm; rw [List.mem_singleton] at hm; exact hn (.inl hm))).trans (F3.out.1.block k hk), fun k hk => .inl hk⟩))
      clear hbk hB
      go_wp2_with fail
      (try simp only [Exit.inBlock, Exit.then])
      refine bodyPost_ret (results_none rfl _ _ _) rfl ?_
      refine ⟨rfl, R, n, G, ref + 1, F4.out.1, ?_, rfl, F4.out.2⟩
      unfold setR
      rw [if_neg (by rw [HNO.out]; simp; rw [HNN.out]; omega)]
    · have e1 : (room ≤ nn) = False := eq_false hfull
      go_enter Tryz.func83, Tryz.ntmps83
      go_wp2_with fail
      refine wp_region_heldP (SeS R n asn room nn ref (cntV G) w.heap.size (w.heap.size + 1) (w.heap.size + 2) a d r i x) (by kernel_rfl) ?_
      generalize ((((w.alloc (.cells #[.int .u32 (a : Int), .int .i64 (d : Int)] 58)).alloc (.cells #[.int .i64 r, .int .i64 i] 129)).alloc (.cells #[.int .i64 x.o, .slice x.p.a x.p.n x.p.c, .int .u32 x.nx, .int .i64 x.md, .int .i64 x.pf, .slice x.c.a x.c.n x.c.c] 40))).drew = V at *
      refine held_reads [0, 1, 2, 3, 4] (g := 6) rfl (by kernel_rfl) F1.out.2 (fun _ _ d _ _ h => by cases d <;> exact h) ?_
      simp only [pick, List.getD_cons_zero, List.getD_cons_succ]
      iterate 4 ((with_reducible refine wpRead_step (fun K hK => ?_)); go_simp; first | ((with_reducible refine hK _ ?_); clear hK K) | (apply Exists.intro; (with_reducible refine ⟨fun w' hw' => ?_, hK _ ?_⟩); ((have f0 : w'.cell? ⟨R.b, 0, none⟩ = _ := cell_of hw'.t.blk rfl; go_simp; first | exact rfl | exact ⟨rfl, rfl⟩)); clear hK K))
      with_reducible refine wpRead_yes ?_ ?_
      rotate_left
      rfl
      intro K hK
      refine read_load 58 _ rfl w.heap.size 0 #[.int .u32 (a : Int), .int .i64 (d : Int)] rfl (fun w' hw' => rangeAt_block hw'.t.p 0 _ rfl) Tryz.underlying58 rfl (by kernel_rfl) (hK _ ?_)
      clear hK K
      with_reducible refine wpRead_nil ?_
      refine held_one 5 (by kernel_rfl) ?_
      simp only [pick, List.getD_cons_zero, List.getD_cons_succ]
      go_wp2_with fail
      refine (HGM.out).mono ?_
      rintro e W2 ⟨rfl, hb⟩
      have F2 := Lib.hid (And.intro (bcall F1.out.1 (Nat.le_refl _) hb) (F1.out.2.keep hb))
      clear hb F1 HGM
      go_wp2_with fail
      refine ⟨F2.out.2, ?_⟩
      refine held_reads [6, 7, 8, 9, 10] (g := 0) rfl (by kernel_rfl) F2.out.2 (fun _ _ d _ _ h => by cases d <;> exact h) ?_
      simp only [pick, List.getD_cons_zero, List.getD_cons_succ]
      iterate 5 ((with_reducible refine wpRead_step (fun K hK => ?_)); go_simp; first | ((with_reducible refine hK _ ?_); clear hK K) | (apply Exists.intro; (with_reducible refine ⟨fun w' hw' => ?_, hK _ ?_⟩); (first | exact rfl | exact ⟨rfl, rfl⟩); clear hK K))
      with_reducible refine wpRead_nil ?_
      refine wpAnyH_done (by kernel_rfl) ?_ _
      have c0 := cell_of (o := 0) F2.out.2.t.h rfl
      have c1 := cell_of (o := 1) F2.out.2.t.h rfl
      have hlu := paths_nil (k := (r, i)) HK.out.2.2.2.1 W2
      go_wp2_with (with_reducible refine halt_store 40 (x := .tmp 10) rfl ?_)
      refine Halted.go ?_
      have hal := (Below.refl W2.heap.size W2).alloc (Nat.le_refl _) (.cells #[.int .i64 0, .slice none 0 0, .int .u32 0, .int .i64 0, .int .i64 0, .slice none 0 0] 40)
      refine store_whole rfl 40 _ _ rfl W2.heap.size #[.int .i64 0, .slice none 0 0, .int .u32 0, .int .i64 0, .int .i64 0, .slice none 0 0] rfl rfl (hnew _ _) rfl (by kernel_rfl) (by simp [Value.oneCell']) ?_
      intro W3 hwz hsz
      have hzb : Below W2.heap.size W2 W3 := Below.trans hal (hsz.below (Nat.le_refl _))
      have hdr := (Below.refl W3.heap.size W3).drew
      have F3 := Lib.hid (And.intro (bcall (bcall F2.out.1 (Nat.le_refl _) hzb) (Nat.le_refl _) hdr) ((F2.out.2.keep hzb).keep hdr))
      clear hal hwz hsz hzb hlu c0 c1 F2 hdr
      go_wp2_with fail
      refine wp_region_heldP (SeS R n asn room nn ref (cntV G) w.heap.size (w.heap.size + 1) (w.heap.size + 2) a d r i x) (by kernel_rfl) ?_
      generalize W3.drew = V3 at *
      refine held_reads [0, 1, 2, 3, 4, 5, 6, 7, 8, 9, 10, 11, 12] (g := 0) rfl (by kernel_rfl) F3.out.2 (fun _ _ d _ _ h => by cases d <;> exact h) ?_
      simp only [pick, List.getD_cons_zero, List.getD_cons_succ]
      iterate 13 ((with_reducible refine wpRead_step (fun K hK => ?_)); go_simp; first | (rw [if_neg (by decide)]; (with_reducible refine hK _ ?_); clear hK K) | ((with_reducible refine hK _ ?_); clear hK K) | (apply Exists.intro; (with_reducible refine ⟨fun w' hw' => ?_, hK _ ?_⟩); ((have f0 : w'.cell? ⟨R.b, 2, none⟩ = _ := cell_of hw'.t.blk rfl; have f1 : w'.cell? ⟨R.b, 3, none⟩ = _ := cell_of hw'.t.blk rfl; go_simp; first | exact rfl | exact ⟨rfl, rfl⟩)); clear hK K))
      with_reducible refine wpRead_nil ?_
      refine wpAnyH_done (by kernel_rfl) ?_ _
      have HYES := Lib.hid (show (hasR (G.map RtV.rt) (⟨r, pkN a d, i, x.at⟩ : Rt).key || decide (((G.map RtV.rt).length : Int) < room)) = true from by
        rw [List.length_map, HNN.out]
        rw [Bool.or_eq_true, decide_eq_true_eq]
        right
        omega)
      have HD0 := Lib.hid (show dropV G (r, pkN a d, i) = G from dropV_none fun z hz e => by
        have h1 := hasR_map.2 ⟨z, hz, e⟩
        have h2 := HNO.out
        rw [show (⟨r, pkN a d, i, x.at⟩ : Rt).key = (r, pkN a d, i) from rfl, h1] at h2
        cases h2)
      have hnil : (binOp .eql 117 (.map none) (.map none)).run Tryz.prog V3 = .ok (.bool true) V3 := run_eql_map_nil V3 _ _ _ none Tryz.underlying117
      have hmm := @run_makeMap Tryz.prog
      have hal := (Below.refl V3.heap.size V3).alloc (Nat.le_refl _) (.map #[] 0)
      have hd4 := (Below.refl (V3.alloc (.map #[] 0)).heap.size (V3.alloc (.map #[] 0))).drew
      have hb4 := bcall hal (Nat.le_refl _) hd4
      have hm4 : MR.MapAt QN (V3.alloc (.map #[] 0)).drew V3.heap.size [] 0 := MR.mapAt_made QN (hnew _ _)
      have hst := Tm.setM_any ((F3.out.2.keep hb4).t.tr) a d HA.out HK.out.1.p (by have h1 := HH.out.nG; have h2 := HK.out.2.1; omega) (some V3.heap.size)
      rw [HM.out] at hst
      simp only [Option.isSome_none, Bool.false_eq_true, if_false] at hst
      unfold pfx at hst
      have HST := Lib.hid hst
      obtain ⟨E, hE1, hE2⟩ := HH.out.rf
      have hEi := Tm.ins_length (a, d) (some V3.heap.size) E hE1.sorted
      rw [if_neg (fun h => by have h2 := (hE1.some a d).2 h; rw [HM.out] at h2; cases h2)] at hEi
      have HRF := Lib.hid (show ∃ E', Tm.RefOk E' (upd R.M a d (some (some V3.heap.size))) ∧ E'.length = n + 1 from ⟨_, hE1.put (k := (a, d)) (by have h9 := (Tm.okP_key HA.out HK.out.1.p).1; exact h9) (some V3.heap.size), by rw [hEi, hE2]⟩)
      have F4 := Lib.hid (And.intro (bcall F3.out.1 (Nat.le_refl _) hb4) (And.intro (F3.out.2.keep hb4) (And.intro hm4 F3.out.1.size)))
      clear hal hd4 hb4 hm4 hst hE1 hE2 hEi E F3
      go_wp2_with fail
      clear hnil hmm
      refine wp_region_T 6 (SeS R n asn room nn ref (cntV G) w.heap.size (w.heap.size + 1) (w.heap.size + 2) a d r i x) (by kernel_rfl) ?_
      generalize (V3.alloc (.map #[] 0)).drew = V4 at *
      generalize V3.heap.size = m at *
      refine T_reads [0, 1, 2, 3, 4, 5] (g := 1) rfl (by kernel_rfl) F4.out.2.1 (fun _ _ d _ _ h => by cases d <;> exact h) ?_
      simp only [pick, List.getD_cons_zero, List.getD_cons_succ]
      iterate 4 ((with_reducible refine wpRead_step (fun K hK => ?_)); go_simp; first | ((with_reducible refine hK _ ?_); clear hK K) | (apply Exists.intro; (with_reducible refine ⟨fun w' hw' => ?_, hK _ ?_⟩); ((have f0 : w'.cell? ⟨R.b, 0, none⟩ = _ := cell_of hw'.t.blk rfl; go_simp; first | exact rfl | exact ⟨rfl, rfl⟩)); clear hK K))
      with_reducible refine wpRead_yes ?_ ?_
      rotate_left
      rfl
      intro K hK
      refine read_load 58 _ rfl w.heap.size 0 #[.int .u32 (a : Int), .int .i64 (d : Int)] rfl (fun w' hw' => rangeAt_block hw'.t.p 0 _ rfl) Tryz.underlying58 rfl (by kernel_rfl) (hK _ ?_)
      clear hK K
      ((with_reducible refine wpRead_step (fun K hK => ?_)); go_simp; first | ((with_reducible refine hK _ ?_); clear hK K) | (apply Exists.intro; (with_reducible refine ⟨fun w' hw' => ?_, hK _ ?_⟩); ((have f0 : w'.cell? ⟨R.b, 0, none⟩ = _ := cell_of hw'.t.blk rfl; go_simp; first | exact rfl | exact ⟨rfl, rfl⟩)); clear hK K))
      with_reducible refine wpRead_nil ?_
      refine T_one 6 (by kernel_rfl) ?_
      simp only [pick, List.getD_cons_zero, List.getD_cons_succ]
      go_wp2_with fail
      refine (HST.out).mono ?_
      rintro e2 W5 ⟨rfl, N', ht5, hm5⟩
      have hnf : ∀ k, w.heap.size ≤ k → ¬ foot R.bt R.N k := fun k hk hf => by have := HH.out.tr.lt hf; omega
      have hs4 : w.heap.size ≤ V4.heap.size := F4.out.1.size
      have hm5' : ∀ k : Nat, k < V4.heap.size → ¬ foot R.bt R.N k → W5.heap[k]? = V4.heap[k]? := hm5.same
      have hmm : m < V4.heap.size := lt_of_blk F4.out.2.2.1.blk
      have hfn : ∀ k, k < V4.heap.size → ¬ foot R.bt R.N k → ¬ foot R.bt N' k := fun k hk hn hf => (hm5.foot k hf).elim hn (fun h => by omega)
      have hmv5 : Moved w W5 R.F (Rb.F ⟨R.b, R.bt, R.bo, N', upd R.M a d (some (some m))⟩) := by
        refine ⟨hm5.os.trans F4.out.1.os, hm5.tape.trans F4.out.1.tape, hm5.output.trans F4.out.1.output, Nat.le_trans hs4 hm5.size, fun k hk hn => (hm5' k (Nat.lt_of_lt_of_le hk hs4) (fun hf => hn (.inr (.inr (.inl hf))))).trans (F4.out.1.block k hk), fun k hk => ?_⟩
        rcases hk with h | h | h | ⟨a', d', h⟩
        · exact .inl (.inl h)
        · exact .inl (.inr (.inl h))
        · exact (hm5.foot k h).elim (fun h1 => .inl (.inr (.inr (.inl h1)))) (fun h1 => .inr (Nat.le_trans hs4 h1))
        · by_cases e : a' = a ∧ d' = d
          · obtain ⟨rfl, rfl⟩ := e
            have h' : upd R.M a' d' (some (some m)) a' d' = some (some k) := h
            rw [upd_same] at h'
            injection h' with h'
            injection h' with h'
            exact .inr (by rw [← h']; exact F4.out.2.2.2)
          · have h' : upd R.M a d (some (some m)) a' d' = some (some k) := h
            rw [upd_other _ _ e] at h'
            exact .inl (.inr (.inr (.inr ⟨a', d', h'⟩)))
      have hat0 : atV G (pkN a d) = [] := by
        rw [List.eq_nil_iff_forall_not_mem]
        intro z hz
        obtain ⟨h1, h2⟩ := mem_atV.1 hz
        have h3 := HH.out.all z h1
        rw [h2] at h3
        unfold pkN at h3
        rw [Int.toNat_natCast, HM.out] at h3
        cases h3
      have hold5 : ∀ a' d' m', R.M a' d' = some (some m') → m' ≠ m := fun a' d' m' h e => by have h1 := HH.out.map_lt h; have h2 := F4.out.2.2.2; omega
      have F5 := Lib.hid (And.intro hmv5 (And.intro (show SeS ⟨R.b, R.bt, R.bo, N', upd R.M a d (some (some m))⟩ (n + 1) asn room nn ref (cntV G) w.heap.size (w.heap.size + 1) (w.heap.size + 2) a d r i x W5 from ⟨⟨(hm5' _ (lt_of_blk F4.out.2.1.t.blk) HH.out.b_foot).trans F4.out.2.1.t.blk, ht5, F4.out.2.1.t.of.on (hm5' _ F4.out.2.1.t.of.lt HH.out.bo_foot), (hm5' _ (lt_of_blk F4.out.2.1.t.p) (hnf _ (Nat.le_refl _))).trans F4.out.2.1.t.p, (hm5' _ (lt_of_blk F4.out.2.1.t.h) (hnf _ (by omega))).trans F4.out.2.1.t.h⟩, (hm5' _ (lt_of_blk F4.out.2.1.b) (hnf _ (by omega))).trans F4.out.2.1.b⟩) (And.intro (show PathsAt W5 m (atV G (pkN a d)) from by rw [hat0]; exact ⟨0, [], F4.out.2.2.1.blk_iff QN (hm5' m hmm (hnf _ F4.out.2.2.2)), Kl.Lay.nil⟩) (And.intro (show ∀ a' d' m', ¬ (a' = a ∧ d' = d) → R.M a' d' = some (some m') → W5.heap[m']? = w.heap[m']? from fun a' d' m' _ hm' => (hm5' m' (Nat.lt_of_lt_of_le (HH.out.map_lt hm') hs4) (HH.out.map_foot hm')).trans (F4.out.1.block m' (HH.out.map_lt hm'))) (And.intro (upd_same R.M a d (some (some m))) (And.intro (show m ≠ R.b from fun e => by have h1 := lt_of_blk HH.out.blk; have h2 := F4.out.2.2.2; omega) (And.intro (show m ≠ R.bo from fun e => by have h1 := HH.out.of.lt; have h2 := F4.out.2.2.2; omega) (And.intro (hfn m hmm (hnf _ F4.out.2.2.2)) (And.intro (show ∀ a' d', R.M a' d' = some (some m) → a' = a ∧ d' = d from fun a' d' h => absurd rfl (hold5 a' d' m h)) (And.intro (Lib.hid (fun a' d' (hne : ¬ (a' = a ∧ d' = d)) => upd_other R.M (some (some m)) hne)) (And.intro HRF.out (And.intro (hfn _ (lt_of_blk F4.out.2.1.t.blk) HH.out.b_foot) (hfn _ F4.out.2.1.t.of.lt HH.out.bo_foot)))))))))))))
      clear ht5 hm5 hnf hs4 hm5' hmm hfn hmv5 hat0 hold5 HST HRF F4
      go_wp2_with fail
      try refine ⟨fun h => absurd rfl h, ?_⟩
      refine T_done (by kernel_rfl) ?_ _
      have c3 : W5.cell? ⟨R.b, 3, none⟩ = some (.int .i64 nn) := cell_of (o := 3) F5.out.2.1.t.blk rfl
      have e3 : W5.frozen? ⟨R.b, 3, none⟩ = false := free_of F5.out.2.1.t.blk
      have hw1 : wrap64 (nn + 1) = nn + 1 := by
        have h1 := HNN.out
        have h3 := HK.out.2.1
        unfold wrap64
        omega
      obtain ⟨cz, hcz⟩ : ∃ z, cntV G r + 1 = z := ⟨_, rfl⟩
      have hwc : IntKind.i64.wrap (cntV G r + 1) = cz := by
        have h3 := HK.out.2.1
        have h4 := cntV_in G r
        rw [IntWalk.i64_in _ (by omega), hcz]
      have H9 := Lib.hid hcz
      have hm := F5.out.2.2.2.2
      have hbk2 := setCell_blk F5.out.2.1.t.blk 3 (.int .i64 (nn + 1))
      have hoth : ∀ k, k ≠ R.b → (W5.setCell ⟨R.b, 3, none⟩ (.int .i64 (nn + 1))).heap[k]? = W5.heap[k]? := fun k hk => Below.heap_setCell _ _ _ _ hk
      have hBc : But W5 (W5.setCell ⟨R.b, 3, none⟩ (.int .i64 (nn + 1))) [R.b] := (But.refl W5 _).setCell (a := ⟨R.b, 3, none⟩) (.inr (by simp)) _
      have hmvc : Moved w (W5.setCell ⟨R.b, 3, none⟩ (.int .i64 (nn + 1))).drew R.F (Rb.F ⟨R.b, R.bt, R.bo, N', (upd R.M a d (some (some m)))⟩) := (F5.out.1.trans ⟨hBc.os, hBc.tape, hBc.output, hBc.size, fun k hk hn => hoth k (fun e => hn (.inl e)), fun k hk => .inl hk⟩).drew
      have hltb := lt_of_blk HH.out.blk
      have hq1 : R.b ≠ w.heap.size ∧ R.b ≠ w.heap.size + 1 ∧ R.b ≠ w.heap.size + 2 := by omega
      have F6 := Lib.hid (And.intro hmvc (And.intro (show SeS ⟨R.b, R.bt, R.bo, N', (upd R.M a d (some (some m)))⟩ (n + 1) asn room (nn + 1) ref (cntV G) w.heap.size (w.heap.size + 1) (w.heap.size + 2) a d r i x (W5.setCell ⟨R.b, 3, none⟩ (.int .i64 (nn + 1))).drew from ⟨⟨hbk2, (F5.out.2.1.t.tr.keep fun k hk => hoth k (fun e => hm.2.2.2.2.2.2.2.1 (e ▸ hk))).below ((Below.refl _ _).drew), F5.out.2.1.t.of.on (hoth _ HH.out.bo_b), (hoth _ (Ne.symm hq1.1)).trans F5.out.2.1.t.p, (hoth _ (Ne.symm hq1.2.1)).trans F5.out.2.1.t.h⟩, (hoth _ (Ne.symm hq1.2.2)).trans F5.out.2.1.b⟩) (And.intro (F5.out.2.2.1.on (w' := (W5.setCell ⟨R.b, 3, none⟩ (.int .i64 (nn + 1))).drew) (hoth _ hm.2.1)) (And.intro (show ∀ a' d' m', ¬ (a' = a ∧ d' = d) → R.M a' d' = some (some m') → (W5.setCell ⟨R.b, 3, none⟩ (.int .i64 (nn + 1))).drew.heap[m']? = w.heap[m']? from fun a' d' m' hne hm' => (hoth m' (HH.out.map_b hm')).trans (F5.out.2.2.2.1 a' d' m' hne hm')) hm))))
      clear hm hbk2 hoth hBc hmvc hltb hq1 hcz
      go_wp2_with fail
      clear c3 e3 hw1 F5
      refine wp_region_T 8 (SeS ⟨R.b, R.bt, R.bo, N', (upd R.M a d (some (some m)))⟩ (n + 1) asn room (nn + 1) ref (cntV G) w.heap.size (w.heap.size + 1) (w.heap.size + 2) a d r i x) (by kernel_rfl) ?_
      generalize (W5.setCell ⟨R.b, 3, none⟩ (.int .i64 (nn + 1))).drew = V6 at *
      refine T_reads [0, 1, 2, 3, 4, 5, 6, 7] (g := 1) rfl (by kernel_rfl) F6.out.2.1 (fun _ _ d _ _ h => by cases d <;> exact h) ?_
      simp only [pick, List.getD_cons_zero, List.getD_cons_succ]
      iterate 8 ((with_reducible refine wpRead_step (fun K hK => ?_)); go_simp; first | ((with_reducible refine hK _ ?_); clear hK K) | (apply Exists.intro; (with_reducible refine ⟨fun w' hw' => ?_, hK _ ?_⟩); ((have f0 : w'.cell? ⟨R.b, 5, none⟩ = _ := cell_of hw'.t.blk rfl; have f1 := hw'.t.of.lookup HRW.out w' rfl; have f2 : w'.cell? ⟨w.heap.size + 1, 0, none⟩ = _ := cell_of hw'.t.h rfl; go_simp; first | exact rfl | exact ⟨rfl, rfl⟩)); clear hK K))
      with_reducible refine wpRead_nil ?_
      clear hwc
      obtain ⟨O2, hup, ho2⟩ := F6.out.2.1.t.of.update HRW.out cz
      have hup : (Instr.mapUpdate 118 (.map (some R.bo)) (.int .i64 r) (.int .i64 cz)).run Tryz.prog V6 = .ok () (setBlock V6 R.bo O2) := hup
      have hsb2 := setBlock_setB (w := V6) (b := R.bo) (o := O2)
      have hm := F6.out.2.2.2.2
      have hltb := HH.out.of.lt
      have hq1 : w.heap.size ≠ R.bo ∧ w.heap.size + 1 ≠ R.bo ∧ w.heap.size + 2 ≠ R.bo := by omega
      have F7 := Lib.hid (And.intro (F6.out.1.trans (Moved.of_set hsb2 (.inr (.inl rfl)))) (And.intro (show SeS ⟨R.b, R.bt, R.bo, N', (upd R.M a d (some (some m)))⟩ (n + 1) asn room (nn + 1) ref (fun j => if j = r then cz else cntV G j) w.heap.size (w.heap.size + 1) (w.heap.size + 2) a d r i x (setBlock V6 R.bo O2) from ⟨⟨(hsb2.other (Ne.symm HH.out.bo_b)).trans F6.out.2.1.t.blk, F6.out.2.1.t.tr.keep (fun k hk => hsb2.other (fun e => hm.2.2.2.2.2.2.2.2 (e ▸ hk))), ho2, (hsb2.other hq1.1).trans F6.out.2.1.t.p, (hsb2.other hq1.2.1).trans F6.out.2.1.t.h⟩, (hsb2.other hq1.2.2).trans F6.out.2.1.b⟩) (And.intro (F6.out.2.2.1.on (hsb2.other hm.2.2.1)) (And.intro (show ∀ a' d' m', ¬ (a' = a ∧ d' = d) → R.M a' d' = some (some m') → (setBlock V6 R.bo O2).heap[m']? = w.heap[m']? from fun a' d' m' hne hm' => (hsb2.other (fun e => HH.out.ofne a' d' (by rw [← e]; exact hm'))).trans (F6.out.2.2.2.1 a' d' m' hne hm')) hm))))
      clear hsb2 hm hltb hq1 ho2
      refine T_one 8 (by kernel_rfl) ?_
      simp only [pick, List.getD_cons_zero, List.getD_cons_succ]
      go_wp2_with fail
      try refine ⟨fun h => absurd rfl h, ?_⟩
      refine T_done (by kernel_rfl) ?_ _
      clear hup F6
      generalize setBlock V6 R.bo O2 = W7 at *
      go_wp2_with fail
      refine wp_region_T 4 (SeS ⟨R.b, R.bt, R.bo, N', (upd R.M a d (some (some m)))⟩ (n + 1) asn room (nn + 1) ref (fun j => if j = r then cz else cntV G j) w.heap.size (w.heap.size + 1) (w.heap.size + 2) a d r i x) (by kernel_rfl) ?_
      have hdr := (Below.refl W7.heap.size W7).drew
      have hmw : Moved w W7.drew R.F (Rb.F ⟨R.b, R.bt, R.bo, N', (upd R.M a d (some (some m)))⟩) := F7.out.1.drew
      have hok := (HK.out.2.2.2.2.1.moved (hmw.union X)).now
      have HC := rcopyOf_any (x := x) hok HK.out.2.2.2.2.2.1
      unfold AtV.v at HC
      have HC := Lib.hid HC
      have F8 := Lib.hid (And.intro hmw (And.intro (F7.out.2.1.keep hdr) (And.intro (F7.out.2.2.1.keep hdr) (And.intro (show ∀ a' d' m', ¬ (a' = a ∧ d' = d) → R.M a' d' = some (some m') → W7.drew.heap[m']? = w.heap[m']? from F7.out.2.2.2.1) (And.intro F7.out.2.2.2.2 (show AtOk W7.drew x from hok))))))
      clear hdr hmw hok F7
      generalize W7.drew = V8 at *
      refine T_reads [0, 1, 2] (g := 2) rfl (by kernel_rfl) F8.out.2.1 (fun _ _ d _ _ h => by cases d <;> exact h) ?_
      simp only [pick, List.getD_cons_zero, List.getD_cons_succ]
      ((with_reducible refine wpRead_step (fun K hK => ?_)); go_simp; first | ((with_reducible refine hK _ ?_); clear hK K) | (apply Exists.intro; (with_reducible refine ⟨fun w' hw' => ?_, hK _ ?_⟩); (first | exact rfl | exact ⟨rfl, rfl⟩); clear hK K))
      with_reducible refine wpRead_yes ?_ ?_
      rotate_left
      rfl
      intro K hK
      refine read_load 129 _ rfl (w.heap.size + 1) 0 #[.int .i64 r, .int .i64 i] rfl (fun w' hw' => rangeAt_block hw'.t.h 0 _ rfl) Tryz.underlying129 rfl (by kernel_rfl) (hK _ ?_)
      clear hK K
      with_reducible refine wpRead_yes ?_ ?_
      rotate_left
      rfl
      intro K hK
      refine read_load 40 _ rfl (w.heap.size + 2) 0 #[.int .i64 x.o, .slice x.p.a x.p.n x.p.c, .int .u32 x.nx, .int .i64 x.md, .int .i64 x.pf, .slice x.c.a x.c.n x.c.c] rfl (fun w' hw' => rangeAt_block hw'.b 0 _ rfl) Tryz.underlying40 rfl (by kernel_rfl) (hK _ ?_)
      clear hK K
      with_reducible refine wpRead_nil ?_
      refine T_one 3 (by kernel_rfl) ?_
      simp only [pick, List.getD_cons_zero, List.getD_cons_succ]
      go_wp2_with fail
      refine (HC.out).mono ?_
      rintro e2 W9 ⟨y, rfl, hy1, hy2, hy3, hb9⟩
      have hpw := F8.out.2.2.1.keep hb9
      have hqq := put_paths hpw.nd (⟨r, pkN a d, i, y⟩ : RtV)
      obtain ⟨O, hput, hpn⟩ := hpw.put (x := (⟨r, pkN a d, i, y⟩ : RtV)) HK.out.2.2.2.1 hqq.1 hqq.2
      dsimp only at hput
      have hpn : PathsAt (setBlock W9 m O) m (atV (dropV G (r, pkN a d, i) ++ [⟨r, pkN a d, i, y⟩]) (pkN a d)) := by
        rw [put_at]
        exact hpn
      have HPN := Lib.hid (And.intro hpn (And.intro hy1 (And.intro hy2 (And.intro hy3 hb9))))
      have FS := Lib.hid (F8.out.2.1.keep hb9)
      clear hqq hpw hpn hy1 hy2 hy3 hb9 HC
      go_wp2_with fail
      try refine ⟨fun _ => FS.out, ?_⟩
      refine T_one 4 (by kernel_rfl) ?_
      simp only [pick, List.getD_cons_zero, List.getD_cons_succ]
      go_wp2_with fail
      try refine ⟨fun h => absurd rfl h, ?_⟩
      refine T_done (by kernel_rfl) ?_ _
      clear hput
      go_wp2_with fail
      go_end0
      have hm := F8.out.2.2.2.2.1
      have hsb := setBlock_setB (w := W9) (b := m) (o := O)
      have hb9 := HPN.out.2.2.2.2
      have hlt8 : ∀ k, Rb.FX ⟨R.b, R.bt, R.bo, N', (upd R.M a d (some (some m)))⟩ X k → k < V8.heap.size := fun k hk => by
        rcases hk with (h | h | h | ⟨a', d', h⟩) | h
        · have h2 : k = R.b := h
          rw [h2]; exact lt_of_blk F8.out.2.1.t.blk
        · have h2 : k = R.bo := h
          rw [h2]; exact F8.out.2.1.t.of.lt
        · exact F8.out.2.1.t.tr.lt h
        · by_cases e : a' = a ∧ d' = d
          · have h' : (upd R.M a d (some (some m))) a' d' = some (some k) := h
            rw [e.1, e.2, hm.1] at h'
            injection h' with h'
            injection h' with h'
            rw [← h']
            exact F8.out.2.2.1.lt
          · have h' : (upd R.M a d (some (some m))) a' d' = some (some k) := h
            rw [hm.2.2.2.2.2.1.out a' d' e] at h'
            exact Nat.lt_of_lt_of_le (HH.out.map_lt h') F8.out.1.size
        · exact Nat.lt_of_lt_of_le (HK.out.2.2.2.2.2.2 k h) F8.out.1.size
      have hmF : Rb.FX ⟨R.b, R.bt, R.bo, N', (upd R.M a d (some (some m)))⟩ X m := .inl (.inr (.inr (.inr ⟨a, d, hm.1⟩)))
      have hold9 : HoldF (Rb.FX ⟨R.b, R.bt, R.bo, N', (upd R.M a d (some (some m)))⟩ X) W9 fun W => AtOk W y := HPN.out.2.1.hold (HPN.out.2.2.1.out hlt8)
      have hblk9 := (hsb.other (Ne.symm hm.2.1)).trans FS.out.t.blk
      have hmv9 : Moved w (setBlock W9 m O) R.F (Rb.F ⟨R.b, R.bt, R.bo, N', (upd R.M a d (some (some m)))⟩) := (F8.out.1.trans (Moved.of_below hb9 _)).trans (Moved.of_set hsb (.inr (.inr (.inr ⟨a, d, hm.1⟩))))
      have hlen : ((dropV G (r, pkN a d, i) ++ [(⟨r, pkN a d, i, y⟩ : RtV)]).length : Int) = (nn + 1) ∧ ∀ j, (fun j => if j = r then cz else cntV G j) j = cntV (dropV G (r, pkN a d, i) ++ [(⟨r, pkN a d, i, y⟩ : RtV)]) j := by
        rw [HD0.out]
        have h1 := HNN.out
        refine ⟨by rw [List.length_append, List.length_singleton]; omega, fun j => ?_⟩
        rw [put_cnt]
        show (if j = r then cz else cntV G j) = _
        rw [← H9.out]
      refine ⟨rfl, ⟨R.b, R.bt, R.bo, N', (upd R.M a d (some (some m)))⟩, (n + 1), dropV G (r, pkN a d, i) ++ [(⟨r, pkN a d, i, y⟩ : RtV)], ref, ?_, ?_, rfl, hmv9⟩
      · refine HH.out.step (N' := N') (M' := (upd R.M a d (some (some m)))) (a := a) (d := d) hmv9 (by rw [hlen.1]; exact hblk9) (FS.out.t.tr.keep fun k hk => hsb.other (fun e => hm.2.2.2.1 (e ▸ hk))) hm.2.2.2.2.2.2.1 hm.2.2.2.2.2.1.out (fun a' d' m' hne hm' => ?_) (fun a' d' hne => put_other y fun e => hne (pkN_inj e)) ?_ (fun z _ _ => by rw [hm.1]; rfl) ((FS.out.t.of.on (hsb.other (Ne.symm hm.2.2.1))).as hlen.2) ?_ (put_nd HH.out.nd (⟨r, pkN a d, i, y⟩ : RtV)) ?_
        · have hlt := HH.out.map_lt hm'
          refine (hsb.other (fun e => hne (hm.2.2.2.2.1 a' d' (by rw [← e]; exact hm')))).trans ((hb9.block _ (Nat.lt_of_lt_of_le hlt F8.out.1.size)).trans (F8.out.2.2.2.1 a' d' m' hne hm'))
        · intro z hz
          rw [hm.1] at hz
          injection hz with hz
          refine ⟨m, hz.symm, HPN.out.1.on rfl, ?_, hm.2.2.1, hm.2.2.2.2.1⟩
          rw [put_at]
          simp
        · intro z hz
          rcases List.mem_append.1 hz with hz | hz
          · exact HH.out.okx z (dropV_sub hz)
          · rw [List.mem_singleton] at hz
            subst hz
            exact HK.out.1
        · intro z hz
          rcases List.mem_append.1 hz with hz | hz
          · exact .inl (dropV_sub hz)
          · rw [List.mem_singleton] at hz
            subst hz
            refine .inr ⟨hold9.turn (by rw [hsb.size]; exact Nat.le_refl _) (fun k _ hn => hsb.other (fun e => hn (e ▸ hmF))) (fun k hk => .inl hk), SmA.of HK.out.2.2.2.2.2.1 HPN.out.2.1 F8.out.2.2.2.2.2 HPN.out.2.2.2.1⟩
      · unfold setR
        rw [if_pos HYES.out, List.map_append, dropV_map]
        show (_, ref) = (dropR _ (r, pkN a d, i) ++ [_], ref)
        have he : RtV.rt ⟨r, pkN a d, i, y⟩ = ⟨r, pkN a d, i, x.at⟩ := by
          show (⟨r, pkN a d, i, y.at⟩ : Rt) = _
          rw [HPN.out.2.2.2.1]
        rw [List.map_cons, List.map_nil, he]
  | some y =>
    obtain ⟨m, rfl, hpm, hne⟩ := HH.out.mp a d y hM
    rw [hM] at hgm
    simp only [Option.getD_some, Option.isSome_some] at hgm
    have HGM := Lib.hid hgm
    have HM := Lib.hid (And.intro hM hpm)
    clear hM hgm hne
    cases hlo : Kl.look RtV.pi (atV G (pkN a d)) (r, i) with
    | none =>
      have hno := look_pi.2 hlo
      have HNO := Lib.hid (show hasR (G.map RtV.rt) (⟨r, pkN a d, i, x.at⟩ : Rt).key = false from by
        rw [Bool.eq_false_iff]
        intro h
        obtain ⟨z, hz, e⟩ := hasR_map.1 h
        exact hno z hz e)
      have hh0 : hasP14 (atV G (pkN a d)) (r, i) = false := by unfold hasP14; rw [hlo]; rfl
      have HH0 := Lib.hid hh0
      obtain ⟨ga, hga⟩ : ∃ g, getP14 (atV G (pkN a d)) (r, i) = g := ⟨_, rfl⟩
      have HGA := Lib.hid hga
      clear hno hlo hh0 hga hpm
      by_cases hfull : room ≤ nn
      · have e1 : (room ≤ nn) = True := eq_true hfull
        go_enter Tryz.func83, Tryz.ntmps83
        go_wp2_with fail
        refine wp_region_heldP (SeS R n asn room nn ref (cntV G) w.heap.size (w.heap.size + 1) (w.heap.size + 2) a d r i x) (by kernel_rfl) ?_
        generalize ((((w.alloc (.cells #[.int .u32 (a : Int), .int .i64 (d : Int)] 58)).alloc (.cells #[.int .i64 r, .int .i64 i] 129)).alloc (.cells #[.int .i64 x.o, .slice x.p.a x.p.n x.p.c, .int .u32 x.nx, .int .i64 x.md, .int .i64 x.pf, .slice x.c.a x.c.n x.c.c] 40))).drew = V at *
        refine held_reads [0, 1, 2, 3, 4] (g := 6) rfl (by kernel_rfl) F1.out.2 (fun _ _ d _ _ h => by cases d <;> exact h) ?_
        simp only [pick, List.getD_cons_zero, List.getD_cons_succ]
        iterate 4 ((with_reducible refine wpRead_step (fun K hK => ?_)); go_simp; first | ((with_reducible refine hK _ ?_); clear hK K) | (apply Exists.intro; (with_reducible refine ⟨fun w' hw' => ?_, hK _ ?_⟩); ((have f0 : w'.cell? ⟨R.b, 0, none⟩ = _ := cell_of hw'.t.blk rfl; go_simp; first | exact rfl | exact ⟨rfl, rfl⟩)); clear hK K))
        with_reducible refine wpRead_yes ?_ ?_
        rotate_left
        rfl
        intro K hK
        refine read_load 58 _ rfl w.heap.size 0 #[.int .u32 (a : Int), .int .i64 (d : Int)] rfl (fun w' hw' => rangeAt_block hw'.t.p 0 _ rfl) Tryz.underlying58 rfl (by kernel_rfl) (hK _ ?_)
        clear hK K
        with_reducible refine wpRead_nil ?_
        refine held_one 5 (by kernel_rfl) ?_
        simp only [pick, List.getD_cons_zero, List.getD_cons_succ]
        go_wp2_with fail
        refine (HGM.out).mono ?_
        rintro e W2 ⟨rfl, hb⟩
        have F2 := Lib.hid (And.intro (bcall F1.out.1 (Nat.le_refl _) hb) (F1.out.2.keep hb))
        clear hb F1 HGM
        go_wp2_with fail
        refine ⟨F2.out.2, ?_⟩
        refine held_reads [6, 7, 8, 9, 10] (g := 0) rfl (by kernel_rfl) F2.out.2 (fun _ _ d _ _ h => by cases d <;> exact h) ?_
        simp only [pick, List.getD_cons_zero, List.getD_cons_succ]
        iterate 5 ((with_reducible refine wpRead_step (fun K hK => ?_)); go_simp; first | ((with_reducible refine hK _ ?_); clear hK K) | (apply Exists.intro; (with_reducible refine ⟨fun w' hw' => ?_, hK _ ?_⟩); (first | exact rfl | exact ⟨rfl, rfl⟩); clear hK K))
        with_reducible refine wpRead_nil ?_
        refine wpAnyH_done (by kernel_rfl) ?_ _
        have c0 := cell_of (o := 0) F2.out.2.t.h rfl
        have c1 := cell_of (o := 1) F2.out.2.t.h rfl
        have hlu := (show PathsAt W2 m (atV G (pkN a d)) from HM.out.2.keep F2.out.1).lookup HK.out.2.2.2.1 W2 rfl
        rw [HH0.out, HGA.out] at hlu
        go_wp2_with (with_reducible refine halt_store 40 (x := .tmp 10) rfl ?_)
        refine Halted.go ?_
        have hal := (Below.refl W2.heap.size W2).alloc (Nat.le_refl _) (.cells #[.int .i64 0, .slice none 0 0, .int .u32 0, .int .i64 0, .int .i64 0, .slice none 0 0] 40)
        refine store_whole rfl 40 _ _ rfl W2.heap.size #[.int .i64 ga.o, .slice ga.p.a ga.p.n ga.p.c, .int .u32 ga.nx, .int .i64 ga.md, .int .i64 ga.pf, .slice ga.c.a ga.c.n ga.c.c] rfl rfl (hnew _ _) rfl (by kernel_rfl) (by simp [Value.oneCell']) ?_
        intro W3 hwz hsz
        have hzb : Below W2.heap.size W2 W3 := Below.trans hal (hsz.below (Nat.le_refl _))
        have hdr := (Below.refl W3.heap.size W3).drew
        have F3 := Lib.hid (And.intro (bcall (bcall F2.out.1 (Nat.le_refl _) hzb) (Nat.le_refl _) hdr) ((F2.out.2.keep hzb).keep hdr))
        clear hal hwz hsz hzb hlu c0 c1 F2 hdr
        go_wp2_with fail
        refine wp_region_heldP (SeS R n asn room nn ref (cntV G) w.heap.size (w.heap.size + 1) (w.heap.size + 2) a d r i x) (by kernel_rfl) ?_
        generalize W3.drew = V3 at *
        refine held_reads [0, 1, 2, 3, 4, 5, 6, 7, 8, 9, 10, 11, 12] (g := 0) rfl (by kernel_rfl) F3.out.2 (fun _ _ d _ _ h => by cases d <;> exact h) ?_
        simp only [pick, List.getD_cons_zero, List.getD_cons_succ]
        iterate 13 ((with_reducible refine wpRead_step (fun K hK => ?_)); go_simp; first | (rw [if_neg (by decide)]; (with_reducible refine hK _ ?_); clear hK K) | ((with_reducible refine hK _ ?_); clear hK K) | (apply Exists.intro; (with_reducible refine ⟨fun w' hw' => ?_, hK _ ?_⟩); ((have f0 : w'.cell? ⟨R.b, 2, none⟩ = _ := cell_of hw'.t.blk rfl; have f1 : w'.cell? ⟨R.b, 3, none⟩ = _ := cell_of hw'.t.blk rfl; go_simp; first | exact rfl | exact ⟨rfl, rfl⟩)); clear hK K))
        with_reducible refine wpRead_nil ?_
        refine wpAnyH_done (by kernel_rfl) ?_ _
        have c4 := cell_of (o := 4) F3.out.2.t.blk rfl
        have e4 : V3.frozen? ⟨R.b, 4, none⟩ = false := free_of F3.out.2.t.blk
        have hw4 : wrap64 (ref + 1) = ref + 1 := by have h1 := HK.out.2.2.1; unfold wrap64; omega
        have hbk := setCell_blk F3.out.2.t.blk 4 (.int .i64 (ref + 1))
        have hB : But V3 (V3.setCell ⟨R.b, 4, none⟩ (.int .i64 (ref + 1))) [R.b] := (But.refl V3 _).setCell (a := ⟨R.b, 4, none⟩) (.inr (by simp)) _
        have F4 := Lib.hid (And.intro (HH.out.blkset (ref' := ref + 1) (by rw [HNN.out]; exact hbk) (fun k hk hn => (hB.block k (Nat.lt_of_lt_of_le hk F3.out.1.size) (by simpa using hn)).trans (F3.out.1.block k hk)) (Nat.le_trans F3.out.1.size hB.size)) (show Moved w (V3.setCell ⟨R.b, 4, none⟩ (.int .i64 (ref + 1))) R.F R.F from ⟨hB.os.trans F3.out.1.os, hB.tape.trans F3.out.1.tape, hB.output.trans F3.out.1.output, Nat.le_trans F3.out.1.size hB.size, fun k hk hn => (hB.block k (Nat.lt_of_lt_of_le hk F3.out.1.size) (by intro hm; rw [List.mem_singleton] at hm; exact hn (.inl hm))).trans (F3.out.1.block k hk), fun k hk => .inl hk⟩))
        clear hbk hB
        go_wp2_with fail
        (try simp only [Exit.inBlock, Exit.then])
        refine bodyPost_ret (results_none rfl _ _ _) rfl ?_
        refine ⟨rfl, R, n, G, ref + 1, F4.out.1, ?_, rfl, F4.out.2⟩
        unfold setR
        rw [if_neg (by rw [HNO.out]; simp; rw [HNN.out]; omega)]
      · have e1 : (room ≤ nn) = False := eq_false hfull
        go_enter Tryz.func83, Tryz.ntmps83
        go_wp2_with fail
        refine wp_region_heldP (SeS R n asn room nn ref (cntV G) w.heap.size (w.heap.size + 1) (w.heap.size + 2) a d r i x) (by kernel_rfl) ?_
        generalize ((((w.alloc (.cells #[.int .u32 (a : Int), .int .i64 (d : Int)] 58)).alloc (.cells #[.int .i64 r, .int .i64 i] 129)).alloc (.cells #[.int .i64 x.o, .slice x.p.a x.p.n x.p.c, .int .u32 x.nx, .int .i64 x.md, .int .i64 x.pf, .slice x.c.a x.c.n x.c.c] 40))).drew = V at *
        refine held_reads [0, 1, 2, 3, 4] (g := 6) rfl (by kernel_rfl) F1.out.2 (fun _ _ d _ _ h => by cases d <;> exact h) ?_
        simp only [pick, List.getD_cons_zero, List.getD_cons_succ]
        iterate 4 ((with_reducible refine wpRead_step (fun K hK => ?_)); go_simp; first | ((with_reducible refine hK _ ?_); clear hK K) | (apply Exists.intro; (with_reducible refine ⟨fun w' hw' => ?_, hK _ ?_⟩); ((have f0 : w'.cell? ⟨R.b, 0, none⟩ = _ := cell_of hw'.t.blk rfl; go_simp; first | exact rfl | exact ⟨rfl, rfl⟩)); clear hK K))
        with_reducible refine wpRead_yes ?_ ?_
        rotate_left
        rfl
        intro K hK
        refine read_load 58 _ rfl w.heap.size 0 #[.int .u32 (a : Int), .int .i64 (d : Int)] rfl (fun w' hw' => rangeAt_block hw'.t.p 0 _ rfl) Tryz.underlying58 rfl (by kernel_rfl) (hK _ ?_)
        clear hK K
        with_reducible refine wpRead_nil ?_
        refine held_one 5 (by kernel_rfl) ?_
        simp only [pick, List.getD_cons_zero, List.getD_cons_succ]
        go_wp2_with fail
        refine (HGM.out).mono ?_
        rintro e W2 ⟨rfl, hb⟩
        have F2 := Lib.hid (And.intro (bcall F1.out.1 (Nat.le_refl _) hb) (F1.out.2.keep hb))
        clear hb F1 HGM
        go_wp2_with fail
        refine ⟨F2.out.2, ?_⟩
        refine held_reads [6, 7, 8, 9, 10] (g := 0) rfl (by kernel_rfl) F2.out.2 (fun _ _ d _ _ h => by cases d <;> exact h) ?_
        simp only [pick, List.getD_cons_zero, List.getD_cons_succ]
        iterate 5 ((with_reducible refine wpRead_step (fun K hK => ?_)); go_simp; first | ((with_reducible refine hK _ ?_); clear hK K) | (apply Exists.intro; (with_reducible refine ⟨fun w' hw' => ?_, hK _ ?_⟩); (first | exact rfl | exact ⟨rfl, rfl⟩); clear hK K))
        with_reducible refine wpRead_nil ?_
        refine wpAnyH_done (by kernel_rfl) ?_ _
        have c0 := cell_of (o := 0) F2.out.2.t.h rfl
        have c1 := cell_of (o := 1) F2.out.2.t.h rfl
        have hlu := (show PathsAt W2 m (atV G (pkN a d)) from HM.out.2.keep F2.out.1).lookup HK.out.2.2.2.1 W2 rfl
        rw [HH0.out, HGA.out] at hlu
        go_wp2_with (with_reducible refine halt_store 40 (x := .tmp 10) rfl ?_)
        refine Halted.go ?_
        have hal := (Below.refl W2.heap.size W2).alloc (Nat.le_refl _) (.cells #[.int .i64 0, .slice none 0 0, .int .u32 0, .int .i64 0, .int .i64 0, .slice none 0 0] 40)
        refine store_whole rfl 40 _ _ rfl W2.heap.size #[.int .i64 ga.o, .slice ga.p.a ga.p.n ga.p.c, .int .u32 ga.nx, .int .i64 ga.md, .int .i64 ga.pf, .slice ga.c.a ga.c.n ga.c.c] rfl rfl (hnew _ _) rfl (by kernel_rfl) (by simp [Value.oneCell']) ?_
        intro W3 hwz hsz
        have hzb : Below W2.heap.size W2 W3 := Below.trans hal (hsz.below (Nat.le_refl _))
        have hdr := (Below.refl W3.heap.size W3).drew
        have F3 := Lib.hid (And.intro (bcall (bcall F2.out.1 (Nat.le_refl _) hzb) (Nat.le_refl _) hdr) ((F2.out.2.keep hzb).keep hdr))
        clear hal hwz hsz hzb hlu c0 c1 F2 hdr
        go_wp2_with fail
        refine wp_region_heldP (SeS R n asn room nn ref (cntV G) w.heap.size (w.heap.size + 1) (w.heap.size + 2) a d r i x) (by kernel_rfl) ?_
        generalize W3.drew = V3 at *
        refine held_reads [0, 1, 2, 3, 4, 5, 6, 7, 8, 9, 10, 11, 12] (g := 0) rfl (by kernel_rfl) F3.out.2 (fun _ _ d _ _ h => by cases d <;> exact h) ?_
        simp only [pick, List.getD_cons_zero, List.getD_cons_succ]
        iterate 13 ((with_reducible refine wpRead_step (fun K hK => ?_)); go_simp; first | (rw [if_neg (by decide)]; (with_reducible refine hK _ ?_); clear hK K) | ((with_reducible refine hK _ ?_); clear hK K) | (apply Exists.intro; (with_reducible refine ⟨fun w' hw' => ?_, hK _ ?_⟩); ((have f0 : w'.cell? ⟨R.b, 2, none⟩ = _ := cell_of hw'.t.blk rfl; have f1 : w'.cell? ⟨R.b, 3, none⟩ = _ := cell_of hw'.t.blk rfl; go_simp; first | exact rfl | exact ⟨rfl, rfl⟩)); clear hK K))
        with_reducible refine wpRead_nil ?_
        refine wpAnyH_done (by kernel_rfl) ?_ _
        have HYES := Lib.hid (show (hasR (G.map RtV.rt) (⟨r, pkN a d, i, x.at⟩ : Rt).key || decide (((G.map RtV.rt).length : Int) < room)) = true from by
          rw [List.length_map, HNN.out]
          rw [Bool.or_eq_true, decide_eq_true_eq]
          right
          omega)
        have HD0 := Lib.hid (show dropV G (r, pkN a d, i) = G from dropV_none fun z hz e => by
          have h1 := hasR_map.2 ⟨z, hz, e⟩
          have h2 := HNO.out
          rw [show (⟨r, pkN a d, i, x.at⟩ : Rt).key = (r, pkN a d, i) from rfl, h1] at h2
          cases h2)
        obtain ⟨M', hM'⟩ : ∃ M', M' = R.M := ⟨_, rfl⟩
        have F5 := Lib.hid (And.intro (show Moved w V3 R.F (Rb.F ⟨R.b, R.bt, R.bo, R.N, M'⟩) from by subst hM'; exact Moved.of_below F3.out.1 _) (And.intro (show SeS ⟨R.b, R.bt, R.bo, R.N, M'⟩ n asn room nn ref (cntV G) w.heap.size (w.heap.size + 1) (w.heap.size + 2) a d r i x V3 from ⟨⟨F3.out.2.t.blk, by subst hM'; exact F3.out.2.t.tr, F3.out.2.t.of, F3.out.2.t.p, F3.out.2.t.h⟩, F3.out.2.b⟩) (And.intro (show PathsAt V3 m (atV G (pkN a d)) from HM.out.2.keep F3.out.1) (And.intro (show ∀ a' d' m', ¬ (a' = a ∧ d' = d) → R.M a' d' = some (some m') → V3.heap[m']? = w.heap[m']? from fun a' d' m' _ hm' => F3.out.1.block m' (HH.out.map_lt hm')) (And.intro (show M' a d = some (some m) from by rw [hM']; exact HM.out.1) (And.intro (HH.out.map_b HM.out.1) (And.intro (show m ≠ R.bo from fun e => HH.out.ofne a d (by rw [← e]; exact HM.out.1)) (And.intro (HH.out.map_foot HM.out.1) (And.intro (show ∀ a' d', R.M a' d' = some (some m) → a' = a ∧ d' = d from fun a' d' h => HH.out.inj _ _ _ _ _ h HM.out.1) (And.intro (Lib.hid (show ∀ a' d', ¬ (a' = a ∧ d' = d) → M' a' d' = R.M a' d' from fun _ _ _ => by rw [hM'])) (And.intro (show ∃ E, Tm.RefOk E M' ∧ E.length = n from by rw [hM']; exact HH.out.rf) (And.intro HH.out.b_foot HH.out.bo_foot))))))))))))
        have hnil : (binOp .eql 117 (.map (some m)) (.map none)).run Tryz.prog V3 = .ok (.bool false) V3 := run_eql_map_nil V3 _ _ _ (some m) Tryz.underlying117
        clear F3 hM'
        have c3 : V3.cell? ⟨R.b, 3, none⟩ = some (.int .i64 nn) := cell_of (o := 3) F5.out.2.1.t.blk rfl
        have e3 : V3.frozen? ⟨R.b, 3, none⟩ = false := free_of F5.out.2.1.t.blk
        have hw1 : wrap64 (nn + 1) = nn + 1 := by
          have h1 := HNN.out
          have h3 := HK.out.2.1
          unfold wrap64
          omega
        obtain ⟨cz, hcz⟩ : ∃ z, cntV G r + 1 = z := ⟨_, rfl⟩
        have hwc : IntKind.i64.wrap (cntV G r + 1) = cz := by
          have h3 := HK.out.2.1
          have h4 := cntV_in G r
          rw [IntWalk.i64_in _ (by omega), hcz]
        have H9 := Lib.hid hcz
        have hm := F5.out.2.2.2.2
        have hbk2 := setCell_blk F5.out.2.1.t.blk 3 (.int .i64 (nn + 1))
        have hoth : ∀ k, k ≠ R.b → (V3.setCell ⟨R.b, 3, none⟩ (.int .i64 (nn + 1))).heap[k]? = V3.heap[k]? := fun k hk => Below.heap_setCell _ _ _ _ hk
        have hBc : But V3 (V3.setCell ⟨R.b, 3, none⟩ (.int .i64 (nn + 1))) [R.b] := (But.refl V3 _).setCell (a := ⟨R.b, 3, none⟩) (.inr (by simp)) _
        have hmvc : Moved w (V3.setCell ⟨R.b, 3, none⟩ (.int .i64 (nn + 1))).drew R.F (Rb.F ⟨R.b, R.bt, R.bo, R.N, M'⟩) := (F5.out.1.trans ⟨hBc.os, hBc.tape, hBc.output, hBc.size, fun k hk hn => hoth k (fun e => hn (.inl e)), fun k hk => .inl hk⟩).drew
        have hltb := lt_of_blk HH.out.blk
        have hq1 : R.b ≠ w.heap.size ∧ R.b ≠ w.heap.size + 1 ∧ R.b ≠ w.heap.size + 2 := by omega
        have F6 := Lib.hid (And.intro hmvc (And.intro (show SeS ⟨R.b, R.bt, R.bo, R.N, M'⟩ n asn room (nn + 1) ref (cntV G) w.heap.size (w.heap.size + 1) (w.heap.size + 2) a d r i x (V3.setCell ⟨R.b, 3, none⟩ (.int .i64 (nn + 1))).drew from ⟨⟨hbk2, (F5.out.2.1.t.tr.keep fun k hk => hoth k (fun e => hm.2.2.2.2.2.2.2.1 (e ▸ hk))).below ((Below.refl _ _).drew), F5.out.2.1.t.of.on (hoth _ HH.out.bo_b), (hoth _ (Ne.symm hq1.1)).trans F5.out.2.1.t.p, (hoth _ (Ne.symm hq1.2.1)).trans F5.out.2.1.t.h⟩, (hoth _ (Ne.symm hq1.2.2)).trans F5.out.2.1.b⟩) (And.intro (F5.out.2.2.1.on (w' := (V3.setCell ⟨R.b, 3, none⟩ (.int .i64 (nn + 1))).drew) (hoth _ hm.2.1)) (And.intro (show ∀ a' d' m', ¬ (a' = a ∧ d' = d) → R.M a' d' = some (some m') → (V3.setCell ⟨R.b, 3, none⟩ (.int .i64 (nn + 1))).drew.heap[m']? = w.heap[m']? from fun a' d' m' hne hm' => (hoth m' (HH.out.map_b hm')).trans (F5.out.2.2.2.1 a' d' m' hne hm')) hm))))
        clear hm hbk2 hoth hBc hmvc hltb hq1 hcz
        go_wp2_with fail
        clear hnil
        clear c3 e3 hw1 F5
        refine wp_region_T 8 (SeS ⟨R.b, R.bt, R.bo, R.N, M'⟩ n asn room (nn + 1) ref (cntV G) w.heap.size (w.heap.size + 1) (w.heap.size + 2) a d r i x) (by kernel_rfl) ?_
        generalize (V3.setCell ⟨R.b, 3, none⟩ (.int .i64 (nn + 1))).drew = V6 at *
        refine T_reads [0, 1, 2, 3, 4, 5, 6, 7] (g := 1) rfl (by kernel_rfl) F6.out.2.1 (fun _ _ d _ _ h => by cases d <;> exact h) ?_
        simp only [pick, List.getD_cons_zero, List.getD_cons_succ]
        iterate 8 ((with_reducible refine wpRead_step (fun K hK => ?_)); go_simp; first | ((with_reducible refine hK _ ?_); clear hK K) | (apply Exists.intro; (with_reducible refine ⟨fun w' hw' => ?_, hK _ ?_⟩); ((have f0 : w'.cell? ⟨R.b, 5, none⟩ = _ := cell_of hw'.t.blk rfl; have f1 := hw'.t.of.lookup HRW.out w' rfl; have f2 : w'.cell? ⟨w.heap.size + 1, 0, none⟩ = _ := cell_of hw'.t.h rfl; go_simp; first | exact rfl | exact ⟨rfl, rfl⟩)); clear hK K))
        with_reducible refine wpRead_nil ?_
        clear hwc
        obtain ⟨O2, hup, ho2⟩ := F6.out.2.1.t.of.update HRW.out cz
        have hup : (Instr.mapUpdate 118 (.map (some R.bo)) (.int .i64 r) (.int .i64 cz)).run Tryz.prog V6 = .ok () (setBlock V6 R.bo O2) := hup
        have hsb2 := setBlock_setB (w := V6) (b := R.bo) (o := O2)
        have hm := F6.out.2.2.2.2
        have hltb := HH.out.of.lt
        have hq1 : w.heap.size ≠ R.bo ∧ w.heap.size + 1 ≠ R.bo ∧ w.heap.size + 2 ≠ R.bo := by omega
        have F7 := Lib.hid (And.intro (F6.out.1.trans (Moved.of_set hsb2 (.inr (.inl rfl)))) (And.intro (show SeS ⟨R.b, R.bt, R.bo, R.N, M'⟩ n asn room (nn + 1) ref (fun j => if j = r then cz else cntV G j) w.heap.size (w.heap.size + 1) (w.heap.size + 2) a d r i x (setBlock V6 R.bo O2) from ⟨⟨(hsb2.other (Ne.symm HH.out.bo_b)).trans F6.out.2.1.t.blk, F6.out.2.1.t.tr.keep (fun k hk => hsb2.other (fun e => hm.2.2.2.2.2.2.2.2 (e ▸ hk))), ho2, (hsb2.other hq1.1).trans F6.out.2.1.t.p, (hsb2.other hq1.2.1).trans F6.out.2.1.t.h⟩, (hsb2.other hq1.2.2).trans F6.out.2.1.b⟩) (And.intro (F6.out.2.2.1.on (hsb2.other hm.2.2.1)) (And.intro (show ∀ a' d' m', ¬ (a' = a ∧ d' = d) → R.M a' d' = some (some m') → (setBlock V6 R.bo O2).heap[m']? = w.heap[m']? from fun a' d' m' hne hm' => (hsb2.other (fun e => HH.out.ofne a' d' (by rw [← e]; exact hm'))).trans (F6.out.2.2.2.1 a' d' m' hne hm')) hm))))
        clear hsb2 hm hltb hq1 ho2
        refine T_one 8 (by kernel_rfl) ?_
        simp only [pick, List.getD_cons_zero, List.getD_cons_succ]
        go_wp2_with fail
        try refine ⟨fun h => absurd rfl h, ?_⟩
        refine T_done (by kernel_rfl) ?_ _
        clear hup F6
        generalize setBlock V6 R.bo O2 = W7 at *
        go_wp2_with fail
        refine wp_region_T 4 (SeS ⟨R.b, R.bt, R.bo, R.N, M'⟩ n asn room (nn + 1) ref (fun j => if j = r then cz else cntV G j) w.heap.size (w.heap.size + 1) (w.heap.size + 2) a d r i x) (by kernel_rfl) ?_
        have hdr := (Below.refl W7.heap.size W7).drew
        have hmw : Moved w W7.drew R.F (Rb.F ⟨R.b, R.bt, R.bo, R.N, M'⟩) := F7.out.1.drew
        have hok := (HK.out.2.2.2.2.1.moved (hmw.union X)).now
        have HC := rcopyOf_any (x := x) hok HK.out.2.2.2.2.2.1
        unfold AtV.v at HC
        have HC := Lib.hid HC
        have F8 := Lib.hid (And.intro hmw (And.intro (F7.out.2.1.keep hdr) (And.intro (F7.out.2.2.1.keep hdr) (And.intro (show ∀ a' d' m', ¬ (a' = a ∧ d' = d) → R.M a' d' = some (some m') → W7.drew.heap[m']? = w.heap[m']? from F7.out.2.2.2.1) (And.intro F7.out.2.2.2.2 (show AtOk W7.drew x from hok))))))
        clear hdr hmw hok F7
        generalize W7.drew = V8 at *
        refine T_reads [0, 1, 2] (g := 2) rfl (by kernel_rfl) F8.out.2.1 (fun _ _ d _ _ h => by cases d <;> exact h) ?_
        simp only [pick, List.getD_cons_zero, List.getD_cons_succ]
        ((with_reducible refine wpRead_step (fun K hK => ?_)); go_simp; first | ((with_reducible refine hK _ ?_); clear hK K) | (apply Exists.intro; (with_reducible refine ⟨fun w' hw' => ?_, hK _ ?_⟩); (first | exact rfl | exact ⟨rfl, rfl⟩); clear hK K))
        with_reducible refine wpRead_yes ?_ ?_
        rotate_left
        rfl
        intro K hK
        refine read_load 129 _ rfl (w.heap.size + 1) 0 #[.int .i64 r, .int .i64 i] rfl (fun w' hw' => rangeAt_block hw'.t.h 0 _ rfl) Tryz.underlying129 rfl (by kernel_rfl) (hK _ ?_)
        clear hK K
        with_reducible refine wpRead_yes ?_ ?_
        rotate_left
        rfl
        intro K hK
        refine read_load 40 _ rfl (w.heap.size + 2) 0 #[.int .i64 x.o, .slice x.p.a x.p.n x.p.c, .int .u32 x.nx, .int .i64 x.md, .int .i64 x.pf, .slice x.c.a x.c.n x.c.c] rfl (fun w' hw' => rangeAt_block hw'.b 0 _ rfl) Tryz.underlying40 rfl (by kernel_rfl) (hK _ ?_)
        clear hK K
        with_reducible refine wpRead_nil ?_
        refine T_one 3 (by kernel_rfl) ?_
        simp only [pick, List.getD_cons_zero, List.getD_cons_succ]
        go_wp2_with fail
        refine (HC.out).mono ?_
        rintro e2 W9 ⟨y, rfl, hy1, hy2, hy3, hb9⟩
        have hpw := F8.out.2.2.1.keep hb9
        have hqq := put_paths hpw.nd (⟨r, pkN a d, i, y⟩ : RtV)
        obtain ⟨O, hput, hpn⟩ := hpw.put (x := (⟨r, pkN a d, i, y⟩ : RtV)) HK.out.2.2.2.1 hqq.1 hqq.2
        dsimp only at hput
        have hpn : PathsAt (setBlock W9 m O) m (atV (dropV G (r, pkN a d, i) ++ [⟨r, pkN a d, i, y⟩]) (pkN a d)) := by
          rw [put_at]
          exact hpn
        have HPN := Lib.hid (And.intro hpn (And.intro hy1 (And.intro hy2 (And.intro hy3 hb9))))
        have FS := Lib.hid (F8.out.2.1.keep hb9)
        clear hqq hpw hpn hy1 hy2 hy3 hb9 HC
        go_wp2_with fail
        try refine ⟨fun _ => FS.out, ?_⟩
        refine T_one 4 (by kernel_rfl) ?_
        simp only [pick, List.getD_cons_zero, List.getD_cons_succ]
        go_wp2_with fail
        try refine ⟨fun h => absurd rfl h, ?_⟩
        refine T_done (by kernel_rfl) ?_ _
        clear hput
        go_wp2_with fail
        go_end0
        have hm := F8.out.2.2.2.2.1
        have hsb := setBlock_setB (w := W9) (b := m) (o := O)
        have hb9 := HPN.out.2.2.2.2
        have hlt8 : ∀ k, Rb.FX ⟨R.b, R.bt, R.bo, R.N, M'⟩ X k → k < V8.heap.size := fun k hk => by
          rcases hk with (h | h | h | ⟨a', d', h⟩) | h
          · have h2 : k = R.b := h
            rw [h2]; exact lt_of_blk F8.out.2.1.t.blk
          · have h2 : k = R.bo := h
            rw [h2]; exact F8.out.2.1.t.of.lt
          · exact F8.out.2.1.t.tr.lt h
          · by_cases e : a' = a ∧ d' = d
            · have h' : M' a' d' = some (some k) := h
              rw [e.1, e.2, hm.1] at h'
              injection h' with h'
              injection h' with h'
              rw [← h']
              exact F8.out.2.2.1.lt
            · have h' : M' a' d' = some (some k) := h
              rw [hm.2.2.2.2.2.1.out a' d' e] at h'
              exact Nat.lt_of_lt_of_le (HH.out.map_lt h') F8.out.1.size
          · exact Nat.lt_of_lt_of_le (HK.out.2.2.2.2.2.2 k h) F8.out.1.size
        have hmF : Rb.FX ⟨R.b, R.bt, R.bo, R.N, M'⟩ X m := .inl (.inr (.inr (.inr ⟨a, d, hm.1⟩)))
        have hold9 : HoldF (Rb.FX ⟨R.b, R.bt, R.bo, R.N, M'⟩ X) W9 fun W => AtOk W y := HPN.out.2.1.hold (HPN.out.2.2.1.out hlt8)
        have hblk9 := (hsb.other (Ne.symm hm.2.1)).trans FS.out.t.blk
        have hmv9 : Moved w (setBlock W9 m O) R.F (Rb.F ⟨R.b, R.bt, R.bo, R.N, M'⟩) := (F8.out.1.trans (Moved.of_below hb9 _)).trans (Moved.of_set hsb (.inr (.inr (.inr ⟨a, d, hm.1⟩))))
        have hlen : ((dropV G (r, pkN a d, i) ++ [(⟨r, pkN a d, i, y⟩ : RtV)]).length : Int) = (nn + 1) ∧ ∀ j, (fun j => if j = r then cz else cntV G j) j = cntV (dropV G (r, pkN a d, i) ++ [(⟨r, pkN a d, i, y⟩ : RtV)]) j := by
          rw [HD0.out]
          have h1 := HNN.out
          refine ⟨by rw [List.length_append, List.length_singleton]; omega, fun j => ?_⟩
          rw [put_cnt]
          show (if j = r then cz else cntV G j) = _
          rw [← H9.out]
        refine ⟨rfl, ⟨R.b, R.bt, R.bo, R.N, M'⟩, n, dropV G (r, pkN a d, i) ++ [(⟨r, pkN a d, i, y⟩ : RtV)], ref, ?_, ?_, rfl, hmv9⟩
        · refine HH.out.step (N' := R.N) (M' := M') (a := a) (d := d) hmv9 (by rw [hlen.1]; exact hblk9) (FS.out.t.tr.keep fun k hk => hsb.other (fun e => hm.2.2.2.1 (e ▸ hk))) hm.2.2.2.2.2.2.1 hm.2.2.2.2.2.1.out (fun a' d' m' hne hm' => ?_) (fun a' d' hne => put_other y fun e => hne (pkN_inj e)) ?_ (fun z _ _ => by rw [hm.1]; rfl) ((FS.out.t.of.on (hsb.other (Ne.symm hm.2.2.1))).as hlen.2) ?_ (put_nd HH.out.nd (⟨r, pkN a d, i, y⟩ : RtV)) ?_
          · have hlt := HH.out.map_lt hm'
            refine (hsb.other (fun e => hne (hm.2.2.2.2.1 a' d' (by rw [← e]; exact hm')))).trans ((hb9.block _ (Nat.lt_of_lt_of_le hlt F8.out.1.size)).trans (F8.out.2.2.2.1 a' d' m' hne hm'))
          · intro z hz
            rw [hm.1] at hz
            injection hz with hz
            refine ⟨m, hz.symm, HPN.out.1.on rfl, ?_, hm.2.2.1, hm.2.2.2.2.1⟩
            rw [put_at]
            simp
          · intro z hz
            rcases List.mem_append.1 hz with hz | hz
            · exact HH.out.okx z (dropV_sub hz)
            · rw [List.mem_singleton] at hz
              subst hz
              exact HK.out.1
          · intro z hz
            rcases List.mem_append.1 hz with hz | hz
            · exact .inl (dropV_sub hz)
            · rw [List.mem_singleton] at hz
              subst hz
              refine .inr ⟨hold9.turn (by rw [hsb.size]; exact Nat.le_refl _) (fun k _ hn => hsb.other (fun e => hn (e ▸ hmF))) (fun k hk => .inl hk), SmA.of HK.out.2.2.2.2.2.1 HPN.out.2.1 F8.out.2.2.2.2.2 HPN.out.2.2.2.1⟩
        · unfold setR
          rw [if_pos HYES.out, List.map_append, dropV_map]
          show (_, ref) = (dropR _ (r, pkN a d, i) ++ [_], ref)
          have he : RtV.rt ⟨r, pkN a d, i, y⟩ = ⟨r, pkN a d, i, x.at⟩ := by
            show (⟨r, pkN a d, i, y.at⟩ : Rt) = _
            rw [HPN.out.2.2.2.1]
          rw [List.map_cons, List.map_nil, he]
    | some x0 =>
      have hx0 : x0 ∈ G ∧ x0.key = (r, pkN a d, i) := by
        obtain ⟨h1, h2⟩ := Kl.look_mem hlo
        obtain ⟨h3, h4⟩ := mem_atV.1 h1
        exact ⟨h3, keyV_iff.2 ⟨(piV_iff.1 h2).1, h4, (piV_iff.1 h2).2⟩⟩
      have HX0 := Lib.hid hx0
      have HYES := Lib.hid (show (hasR (G.map RtV.rt) (⟨r, pkN a d, i, x.at⟩ : Rt).key || decide (((G.map RtV.rt).length : Int) < room)) = true from by
        rw [Bool.or_eq_true]
        left
        exact hasR_map.2 ⟨x0, hx0⟩)
      have hh0 : hasP14 (atV G (pkN a d)) (r, i) = true := by unfold hasP14; rw [hlo]; rfl
      have HH0 := Lib.hid hh0
      obtain ⟨ga, hga⟩ : ∃ g, getP14 (atV G (pkN a d)) (r, i) = g := ⟨_, rfl⟩
      have HGA := Lib.hid hga
      clear hlo hh0 hga hpm hx0
      go_enter Tryz.func83, Tryz.ntmps83
      go_wp2_with fail
      refine wp_region_heldP (SeS R n asn room nn ref (cntV G) w.heap.size (w.heap.size + 1) (w.heap.size + 2) a d r i x) (by kernel_rfl) ?_
      generalize ((((w.alloc (.cells #[.int .u32 (a : Int), .int .i64 (d : Int)] 58)).alloc (.cells #[.int .i64 r, .int .i64 i] 129)).alloc (.cells #[.int .i64 x.o, .slice x.p.a x.p.n x.p.c, .int .u32 x.nx, .int .i64 x.md, .int .i64 x.pf, .slice x.c.a x.c.n x.c.c] 40))).drew = V at *
      refine held_reads [0, 1, 2, 3, 4] (g := 6) rfl (by kernel_rfl) F1.out.2 (fun _ _ d _ _ h => by cases d <;> exact h) ?_
      simp only [pick, List.getD_cons_zero, List.getD_cons_succ]
      iterate 4 ((with_reducible refine wpRead_step (fun K hK => ?_)); go_simp; first | ((with_reducible refine hK _ ?_); clear hK K) | (apply Exists.intro; (with_reducible refine ⟨fun w' hw' => ?_, hK _ ?_⟩); ((have f0 : w'.cell? ⟨R.b, 0, none⟩ = _ := cell_of hw'.t.blk rfl; go_simp; first | exact rfl | exact ⟨rfl, rfl⟩)); clear hK K))
      with_reducible refine wpRead_yes ?_ ?_
      rotate_left
      rfl
      intro K hK
      refine read_load 58 _ rfl w.heap.size 0 #[.int .u32 (a : Int), .int .i64 (d : Int)] rfl (fun w' hw' => rangeAt_block hw'.t.p 0 _ rfl) Tryz.underlying58 rfl (by kernel_rfl) (hK _ ?_)
      clear hK K
      with_reducible refine wpRead_nil ?_
      refine held_one 5 (by kernel_rfl) ?_
      simp only [pick, List.getD_cons_zero, List.getD_cons_succ]
      go_wp2_with fail
      refine (HGM.out).mono ?_
      rintro e W2 ⟨rfl, hb⟩
      have F2 := Lib.hid (And.intro (bcall F1.out.1 (Nat.le_refl _) hb) (F1.out.2.keep hb))
      clear hb F1 HGM
      go_wp2_with fail
      refine ⟨F2.out.2, ?_⟩
      refine held_reads [6, 7, 8, 9, 10] (g := 0) rfl (by kernel_rfl) F2.out.2 (fun _ _ d _ _ h => by cases d <;> exact h) ?_
      simp only [pick, List.getD_cons_zero, List.getD_cons_succ]
      iterate 5 ((with_reducible refine wpRead_step (fun K hK => ?_)); go_simp; first | ((with_reducible refine hK _ ?_); clear hK K) | (apply Exists.intro; (with_reducible refine ⟨fun w' hw' => ?_, hK _ ?_⟩); (first | exact rfl | exact ⟨rfl, rfl⟩); clear hK K))
      with_reducible refine wpRead_nil ?_
      refine wpAnyH_done (by kernel_rfl) ?_ _
      have c0 := cell_of (o := 0) F2.out.2.t.h rfl
      have c1 := cell_of (o := 1) F2.out.2.t.h rfl
      have hlu := (show PathsAt W2 m (atV G (pkN a d)) from HM.out.2.keep F2.out.1).lookup HK.out.2.2.2.1 W2 rfl
      rw [HH0.out, HGA.out] at hlu
      go_wp2_with (with_reducible refine halt_store 40 (x := .tmp 10) rfl ?_)
      refine Halted.go ?_
      have hal := (Below.refl W2.heap.size W2).alloc (Nat.le_refl _) (.cells #[.int .i64 0, .slice none 0 0, .int .u32 0, .int .i64 0, .int .i64 0, .slice none 0 0] 40)
      refine store_whole rfl 40 _ _ rfl W2.heap.size #[.int .i64 ga.o, .slice ga.p.a ga.p.n ga.p.c, .int .u32 ga.nx, .int .i64 ga.md, .int .i64 ga.pf, .slice ga.c.a ga.c.n ga.c.c] rfl rfl (hnew _ _) rfl (by kernel_rfl) (by simp [Value.oneCell']) ?_
      intro W3 hwz hsz
      have hzb : Below W2.heap.size W2 W3 := Below.trans hal (hsz.below (Nat.le_refl _))
      have hdr := (Below.refl W3.heap.size W3).drew
      have F3 := Lib.hid (And.intro (bcall (bcall F2.out.1 (Nat.le_refl _) hzb) (Nat.le_refl _) hdr) ((F2.out.2.keep hzb).keep hdr))
      clear hal hwz hsz hzb hlu c0 c1 F2 hdr
      go_wp2_with fail
      refine wp_region_heldP (SeS R n asn room nn ref (cntV G) w.heap.size (w.heap.size + 1) (w.heap.size + 2) a d r i x) (by kernel_rfl) ?_
      generalize W3.drew = V3 at *
      refine held_reads [0, 1, 2, 3, 4, 5, 6, 7, 8, 9, 10, 11, 12] (g := 0) rfl (by kernel_rfl) F3.out.2 (fun _ _ d _ _ h => by cases d <;> exact h) ?_
      simp only [pick, List.getD_cons_zero, List.getD_cons_succ]
      iterate 13 ((with_reducible refine wpRead_step (fun K hK => ?_)); go_simp; first | (rw [if_neg (by decide)]; (with_reducible refine hK _ ?_); clear hK K) | ((with_reducible refine hK _ ?_); clear hK K) | (apply Exists.intro; (with_reducible refine ⟨fun w' hw' => ?_, hK _ ?_⟩); ((have f0 : w'.cell? ⟨R.b, 2, none⟩ = _ := cell_of hw'.t.blk rfl; have f1 : w'.cell? ⟨R.b, 3, none⟩ = _ := cell_of hw'.t.blk rfl; go_simp; first | exact rfl | exact ⟨rfl, rfl⟩)); clear hK K))
      with_reducible refine wpRead_nil ?_
      refine wpAnyH_done (by kernel_rfl) ?_ _
      obtain ⟨M', hM'⟩ : ∃ M', M' = R.M := ⟨_, rfl⟩
      have F5 := Lib.hid (And.intro (show Moved w V3 R.F (Rb.F ⟨R.b, R.bt, R.bo, R.N, M'⟩) from by subst hM'; exact Moved.of_below F3.out.1 _) (And.intro (show SeS ⟨R.b, R.bt, R.bo, R.N, M'⟩ n asn room nn ref (cntV G) w.heap.size (w.heap.size + 1) (w.heap.size + 2) a d r i x V3 from ⟨⟨F3.out.2.t.blk, by subst hM'; exact F3.out.2.t.tr, F3.out.2.t.of, F3.out.2.t.p, F3.out.2.t.h⟩, F3.out.2.b⟩) (And.intro (show PathsAt V3 m (atV G (pkN a d)) from HM.out.2.keep F3.out.1) (And.intro (show ∀ a' d' m', ¬ (a' = a ∧ d' = d) → R.M a' d' = some (some m') → V3.heap[m']? = w.heap[m']? from fun a' d' m' _ hm' => F3.out.1.block m' (HH.out.map_lt hm')) (And.intro (show M' a d = some (some m) from by rw [hM']; exact HM.out.1) (And.intro (HH.out.map_b HM.out.1) (And.intro (show m ≠ R.bo from fun e => HH.out.ofne a d (by rw [← e]; exact HM.out.1)) (And.intro (HH.out.map_foot HM.out.1) (And.intro (show ∀ a' d', R.M a' d' = some (some m) → a' = a ∧ d' = d from fun a' d' h => HH.out.inj _ _ _ _ _ h HM.out.1) (And.intro (Lib.hid (show ∀ a' d', ¬ (a' = a ∧ d' = d) → M' a' d' = R.M a' d' from fun _ _ _ => by rw [hM'])) (And.intro (show ∃ E, Tm.RefOk E M' ∧ E.length = n from by rw [hM']; exact HH.out.rf) (And.intro HH.out.b_foot HH.out.bo_foot))))))))))))
      have hnil : (binOp .eql 117 (.map (some m)) (.map none)).run Tryz.prog V3 = .ok (.bool false) V3 := run_eql_map_nil V3 _ _ _ (some m) Tryz.underlying117
      clear F3 hM'
      go_wp2_with fail
      clear hnil
      refine wp_region_T 4 (SeS ⟨R.b, R.bt, R.bo, R.N, M'⟩ n asn room nn ref (cntV G) w.heap.size (w.heap.size + 1) (w.heap.size + 2) a d r i x) (by kernel_rfl) ?_
      have hdr := (Below.refl V3.heap.size V3).drew
      have hmw : Moved w V3.drew R.F (Rb.F ⟨R.b, R.bt, R.bo, R.N, M'⟩) := F5.out.1.drew
      have hok := (HK.out.2.2.2.2.1.moved (hmw.union X)).now
      have HC := rcopyOf_any (x := x) hok HK.out.2.2.2.2.2.1
      unfold AtV.v at HC
      have HC := Lib.hid HC
      have F8 := Lib.hid (And.intro hmw (And.intro (F5.out.2.1.keep hdr) (And.intro (F5.out.2.2.1.keep hdr) (And.intro (show ∀ a' d' m', ¬ (a' = a ∧ d' = d) → R.M a' d' = some (some m') → V3.drew.heap[m']? = w.heap[m']? from F5.out.2.2.2.1) (And.intro F5.out.2.2.2.2 (show AtOk V3.drew x from hok))))))
      clear hdr hmw hok F5
      generalize V3.drew = V8 at *
      refine T_reads [0, 1, 2] (g := 2) rfl (by kernel_rfl) F8.out.2.1 (fun _ _ d _ _ h => by cases d <;> exact h) ?_
      simp only [pick, List.getD_cons_zero, List.getD_cons_succ]
      ((with_reducible refine wpRead_step (fun K hK => ?_)); go_simp; first | ((with_reducible refine hK _ ?_); clear hK K) | (apply Exists.intro; (with_reducible refine ⟨fun w' hw' => ?_, hK _ ?_⟩); (first | exact rfl | exact ⟨rfl, rfl⟩); clear hK K))
      with_reducible refine wpRead_yes ?_ ?_
      rotate_left
      rfl
      intro K hK
      refine read_load 129 _ rfl (w.heap.size + 1) 0 #[.int .i64 r, .int .i64 i] rfl (fun w' hw' => rangeAt_block hw'.t.h 0 _ rfl) Tryz.underlying129 rfl (by kernel_rfl) (hK _ ?_)
      clear hK K
      with_reducible refine wpRead_yes ?_ ?_
      rotate_left
      rfl
      intro K hK
      refine read_load 40 _ rfl (w.heap.size + 2) 0 #[.int .i64 x.o, .slice x.p.a x.p.n x.p.c, .int .u32 x.nx, .int .i64 x.md, .int .i64 x.pf, .slice x.c.a x.c.n x.c.c] rfl (fun w' hw' => rangeAt_block hw'.b 0 _ rfl) Tryz.underlying40 rfl (by kernel_rfl) (hK _ ?_)
      clear hK K
      with_reducible refine wpRead_nil ?_
      refine T_one 3 (by kernel_rfl) ?_
      simp only [pick, List.getD_cons_zero, List.getD_cons_succ]
      go_wp2_with fail
      refine (HC.out).mono ?_
      rintro e2 W9 ⟨y, rfl, hy1, hy2, hy3, hb9⟩
      have hpw := F8.out.2.2.1.keep hb9
      have hqq := put_paths hpw.nd (⟨r, pkN a d, i, y⟩ : RtV)
      obtain ⟨O, hput, hpn⟩ := hpw.put (x := (⟨r, pkN a d, i, y⟩ : RtV)) HK.out.2.2.2.1 hqq.1 hqq.2
      dsimp only at hput
      have hpn : PathsAt (setBlock W9 m O) m (atV (dropV G (r, pkN a d, i) ++ [⟨r, pkN a d, i, y⟩]) (pkN a d)) := by
        rw [put_at]
        exact hpn
      have HPN := Lib.hid (And.intro hpn (And.intro hy1 (And.intro hy2 (And.intro hy3 hb9))))
      have FS := Lib.hid (F8.out.2.1.keep hb9)
      clear hqq hpw hpn hy1 hy2 hy3 hb9 HC
      go_wp2_with fail
      try refine ⟨fun _ => FS.out, ?_⟩
      refine T_one 4 (by kernel_rfl) ?_
      simp only [pick, List.getD_cons_zero, List.getD_cons_succ]
      go_wp2_with fail
      try refine ⟨fun h => absurd rfl h, ?_⟩
      refine T_done (by kernel_rfl) ?_ _
      clear hput
      go_wp2_with fail
      go_end0
      have hm := F8.out.2.2.2.2.1
      have hsb := setBlock_setB (w := W9) (b := m) (o := O)
      have hb9 := HPN.out.2.2.2.2
      have hlt8 : ∀ k, Rb.FX ⟨R.b, R.bt, R.bo, R.N, M'⟩ X k → k < V8.heap.size := fun k hk => by
        rcases hk with (h | h | h | ⟨a', d', h⟩) | h
        · have h2 : k = R.b := h
          rw [h2]; exact lt_of_blk F8.out.2.1.t.blk
        · have h2 : k = R.bo := h
          rw [h2]; exact F8.out.2.1.t.of.lt
        · exact F8.out.2.1.t.tr.lt h
        · by_cases e : a' = a ∧ d' = d
          · have h' : M' a' d' = some (some k) := h
            rw [e.1, e.2, hm.1] at h'
            injection h' with h'
            injection h' with h'
            rw [← h']
            exact F8.out.2.2.1.lt
          · have h' : M' a' d' = some (some k) := h
            rw [hm.2.2.2.2.2.1.out a' d' e] at h'
            exact Nat.lt_of_lt_of_le (HH.out.map_lt h') F8.out.1.size
        · exact Nat.lt_of_lt_of_le (HK.out.2.2.2.2.2.2 k h) F8.out.1.size
      have hmF : Rb.FX ⟨R.b, R.bt, R.bo, R.N, M'⟩ X m := .inl (.inr (.inr (.inr ⟨a, d, hm.1⟩)))
      have hold9 : HoldF (Rb.FX ⟨R.b, R.bt, R.bo, R.N, M'⟩ X) W9 fun W => AtOk W y := HPN.out.2.1.hold (HPN.out.2.2.1.out hlt8)
      have hblk9 := (hsb.other (Ne.symm hm.2.1)).trans FS.out.t.blk
      have hmv9 : Moved w (setBlock W9 m O) R.F (Rb.F ⟨R.b, R.bt, R.bo, R.N, M'⟩) := (F8.out.1.trans (Moved.of_below hb9 _)).trans (Moved.of_set hsb (.inr (.inr (.inr ⟨a, d, hm.1⟩))))
      have hlen : ((dropV G (r, pkN a d, i) ++ [(⟨r, pkN a d, i, y⟩ : RtV)]).length : Int) = nn ∧ ∀ j, (cntV G) j = cntV (dropV G (r, pkN a d, i) ++ [(⟨r, pkN a d, i, y⟩ : RtV)]) j := by
        have h1 := drop_count HH.out.nd HX0.out.1
        rw [HX0.out.2] at h1
        have hr : x0.r = r := (keyV_iff.1 HX0.out.2).1
        have h2 := HNN.out
        refine ⟨by rw [List.length_append, List.length_singleton]; omega, fun j => ?_⟩
        rw [put_cnt]
        show cntV G j = if j = r then cntV (dropV G (r, pkN a d, i)) r + 1 else cntV (dropV G (r, pkN a d, i)) j
        rw [h1.2 j, h1.2 r, hr, if_pos rfl]
        by_cases e : j = r
        · subst e; rw [if_pos rfl]; omega
        · rw [if_neg e, if_neg e]
      refine ⟨rfl, ⟨R.b, R.bt, R.bo, R.N, M'⟩, n, dropV G (r, pkN a d, i) ++ [(⟨r, pkN a d, i, y⟩ : RtV)], ref, ?_, ?_, rfl, hmv9⟩
      · refine HH.out.step (N' := R.N) (M' := M') (a := a) (d := d) hmv9 (by rw [hlen.1]; exact hblk9) (FS.out.t.tr.keep fun k hk => hsb.other (fun e => hm.2.2.2.1 (e ▸ hk))) hm.2.2.2.2.2.2.1 hm.2.2.2.2.2.1.out (fun a' d' m' hne hm' => ?_) (fun a' d' hne => put_other y fun e => hne (pkN_inj e)) ?_ (fun z _ _ => by rw [hm.1]; rfl) ((FS.out.t.of.on (hsb.other (Ne.symm hm.2.2.1))).as hlen.2) ?_ (put_nd HH.out.nd (⟨r, pkN a d, i, y⟩ : RtV)) ?_
        · have hlt := HH.out.map_lt hm'
          refine (hsb.other (fun e => hne (hm.2.2.2.2.1 a' d' (by rw [← e]; exact hm')))).trans ((hb9.block _ (Nat.lt_of_lt_of_le hlt F8.out.1.size)).trans (F8.out.2.2.2.1 a' d' m' hne hm'))
        · intro z hz
          rw [hm.1] at hz
          injection hz with hz
          refine ⟨m, hz.symm, HPN.out.1.on rfl, ?_, hm.2.2.1, hm.2.2.2.2.1⟩
          rw [put_at]
          simp
        · intro z hz
          rcases List.mem_append.1 hz with hz | hz
          · exact HH.out.okx z (dropV_sub hz)
          · rw [List.mem_singleton] at hz
            subst hz
            exact HK.out.1
        · intro z hz
          rcases List.mem_append.1 hz with hz | hz
          · exact .inl (dropV_sub hz)
          · rw [List.mem_singleton] at hz
            subst hz
            refine .inr ⟨hold9.turn (by rw [hsb.size]; exact Nat.le_refl _) (fun k _ hn => hsb.other (fun e => hn (e ▸ hmF))) (fun k hk => .inl hk), SmA.of HK.out.2.2.2.2.2.1 HPN.out.2.1 F8.out.2.2.2.2.2 HPN.out.2.2.2.1⟩
      · unfold setR
        rw [if_pos HYES.out, List.map_append, dropV_map]
        show (_, ref) = (dropR _ (r, pkN a d, i) ++ [_], ref)
        have he : RtV.rt ⟨r, pkN a d, i, y⟩ = ⟨r, pkN a d, i, x.at⟩ := by
          show (⟨r, pkN a d, i, y.at⟩ : Rt) = _
          rw [HPN.out.2.2.2.1]
        rw [List.map_cons, List.map_nil, he]
end Go.Proofs.YtadoflcomienoaaGreat

