/- Tables: what drop does. -/
import Derived.Test.YtadoflcomienoaaGreatZao
import Derived.Test.YtadoflcomienoaaGreatZah
import Derived.Shelf.SlLaysF0
import Derived.Test.YtadoflcomienoaaGreatProg
namespace Go.Proofs.YtadoflcomienoaaGreat
open Go.RowKit
open Go.ChangeMaps (setBlock)

/-- a table's own cells, and two boxes: a prefix, a path -/
structure TbS (R : Rb) (n : Nat) (asn room nn ref : Int) (f : Int → Int) (q4 q5 a d : Nat) (r i : Int) (W : World) : Prop where
  blk : W.heap[R.b]? = some (.cells #[.pointer (some ⟨R.bt, 0, none⟩), .int .i64 asn, .int .i64 room, .int .i64 nn, .int .i64 ref, .map (some R.bo)] 120)
  tr : Tm.TrieM W R.bt R.N n R.M
  of : OfAt W R.bo f
  p : W.heap[q4]? = some (.cells #[.int .u32 (a : Int), .int .i64 (d : Int)] 58)
  h : W.heap[q5]? = some (.cells #[.int .i64 r, .int .i64 i] 129)
theorem TbS.keep {R : Rb} {n : Nat} {asn room nn ref : Int} {f : Int → Int} {q4 q5 a d : Nat} {r i : Int} {W W' : World} (h : TbS R n asn room nn ref f q4 q5 a d r i W) (hb : Below W.heap.size W W') : TbS R n asn room nn ref f q4 q5 a d r i W' :=
  ⟨(hb.block _ (lt_of_blk h.blk)).trans h.blk, h.tr.below hb, h.of.on (hb.block _ h.of.lt), (hb.block _ (lt_of_blk h.p)).trans h.p, (hb.block _ (lt_of_blk h.h)).trans h.h⟩
theorem setBlock_setB {w : World} {b : Nat} {o : Obj} : SetB w (setBlock w b o) b o := ⟨rfl, rfl, rfl, rfl⟩
theorem keyV_iff {x : RtV} {r : Int} {k : PK} {i : Int} : x.key = (r, k, i) ↔ x.r = r ∧ x.k = k ∧ x.i = i :=
  ⟨fun h => ⟨congrArg (·.1) h, congrArg (·.2.1) h, congrArg (·.2.2) h⟩, by rintro ⟨rfl, rfl, rfl⟩; rfl⟩
theorem piV_iff {x : RtV} {r i : Int} : x.pi = (r, i) ↔ x.r = r ∧ x.i = i :=
  ⟨fun h => ⟨congrArg (·.1) h, congrArg (·.2) h⟩, by rintro ⟨rfl, rfl⟩; rfl⟩
theorem dropV_none {G : List RtV} {q : RKey} (h : ∀ x ∈ G, x.key ≠ q) : dropV G q = G := by
  unfold dropV
  rw [List.filter_eq_self]
  intro x hx
  simpa using h x hx
theorem look_pi {G : List RtV} {a d : Nat} {r i : Int} : (∀ x ∈ G, x.key ≠ (r, pkN a d, i)) ↔ Kl.look RtV.pi (atV G (pkN a d)) (r, i) = none := by
  constructor
  · intro h
    refine Kl.look_no fun x hx e => ?_
    obtain ⟨h1, h2⟩ := mem_atV.1 hx
    refine h x h1 ?_
    unfold RtV.pi at e
    unfold RtV.key
    rw [Prod.mk.injEq] at e
    rw [h2, e.1, e.2]
  · intro h x hx e
    unfold RtV.key at e
    rw [Prod.mk.injEq, Prod.mk.injEq] at e
    refine Kl.look_none h (mem_atV.2 ⟨hx, e.2.1⟩) ?_
    unfold RtV.pi
    rw [e.1, e.2.2]
theorem atV_drop {G : List RtV} {a d : Nat} {r i : Int} : atV (dropV G (r, pkN a d, i)) (pkN a d) = (atV G (pkN a d)).filter fun x => decide (x.pi ≠ (r, i)) := by
  unfold atV dropV
  rw [List.filter_filter, List.filter_filter]
  refine List.filter_congr fun x _ => ?_
  rw [Bool.eq_iff_iff]
  simp only [Bool.and_eq_true, decide_eq_true_eq, ne_eq, keyV_iff, piV_iff]
  constructor
  · rintro ⟨h1, h2⟩; exact ⟨fun h3 => h2 ⟨h3.1, h1, h3.2⟩, h1⟩
  · rintro ⟨h1, h2⟩; exact ⟨h2, fun h3 => h1 ⟨h3.1, h3.2.2⟩⟩
theorem atV_other {G : List RtV} {k k' : PK} {r i : Int} (h : k' ≠ k) : atV (dropV G (r, k, i)) k' = atV G k' := by
  unfold atV dropV
  rw [List.filter_filter]
  refine List.filter_congr fun x _ => ?_
  rw [Bool.eq_iff_iff]
  simp only [Bool.and_eq_true, decide_eq_true_eq, ne_eq, keyV_iff]
  constructor
  · rintro ⟨h1, _⟩; exact h1
  · intro h1; exact ⟨h1, fun h3 => h (h1.symm.trans h3.2.1)⟩
theorem pkN_inj {a d a' d' : Nat} (h : pkN a d = pkN a' d') : a = a' ∧ d = d' := by
  unfold pkN at h
  rw [Prod.mk.injEq] at h
  omega
theorem cntV_in (G : List RtV) (r : Int) : 0 ≤ cntV G r ∧ cntV G r ≤ (G.length : Int) := by
  unfold cntV
  have := List.length_filter_le (fun x : RtV => decide (x.r = r)) G
  omega
theorem OfAt.as {w : World} {bo : Nat} {f g : Int → Int} (h : OfAt w bo f) (e : ∀ j, f j = g j) : OfAt w bo g := by
  obtain ⟨clk, es, h1, h2⟩ := h
  exact ⟨clk, es, h1, fun k => (h2 k).trans (by rw [e])⟩
theorem dropV_sub {G : List RtV} {q : RKey} {x : RtV} (h : x ∈ dropV G q) : x ∈ G := (List.mem_filter.1 h).1
theorem drop_count {G : List RtV} (hn : (G.map RtV.key).Nodup) {x : RtV} (hx : x ∈ G) : (dropV G x.key).length + 1 = G.length ∧ ∀ j, cntV (dropV G x.key) j = if j = x.r then cntV G x.r - 1 else cntV G j := by
  have hp : (x :: dropV G x.key).Perm G := by
    have hG := MR.nodup_of_map hn
    unfold dropV
    rw [List.perm_ext_iff_of_nodup (List.nodup_cons.2 ⟨fun h => by
      rw [List.mem_filter, decide_eq_true_eq] at h
      exact h.2 rfl, hG.filter _⟩) hG]
    intro y
    rw [List.mem_cons, List.mem_filter, decide_eq_true_eq]
    constructor
    · rintro (rfl | h)
      · exact hx
      · exact h.1
    · intro hy
      by_cases e : y.key = x.key
      · exact .inl (MR.inj_of_nodup hn hy hx e)
      · exact .inr ⟨hy, e⟩
  refine ⟨by simpa using hp.length_eq, fun j => ?_⟩
  have h2 := (hp.filter fun y => decide (y.r = j)).length_eq
  unfold cntV
  rw [List.filter_cons] at h2
  by_cases e : j = x.r
  · subst e
    rw [if_pos (by simp), List.length_cons] at h2
    rw [if_pos rfl, ← h2]
    omega
  · rw [if_neg (by simpa using Ne.symm e)] at h2
    rw [if_neg e, h2]
set_option maxRecDepth 100000 in
set_option maxHeartbeats 8000000 in
theorem drop_map {w : World} {R : Rb} {X : Nat → Prop} {n : Nat} {asn room ref : Int} {G : List RtV} (H : RibAt w R X n asn room ref G) {r i : Int} {a d : Nat} (hk : KOk r (pkN a d) i) (hG : G.length ≤ 100000000) : Calls Tryz.prog 81 #[.pointer (some ⟨R.b, 0, none⟩), .agg #[.int .u32 (a : Int), .int .i64 (d : Int)], .agg #[.int .i64 r, .int .i64 i]] w fun e w' => e = .returned (.tuple #[]) ∧ ∃ R' n', RibAt w' R' X n' asn room ref (dropV G (r, pkN a d, i)) ∧ R'.b = R.b ∧ Moved w w' R.F R'.F ∧ (∀ a' d', R'.M a' d' = R.M a' d' ∨ R'.M a' d' = none) ∧ ∀ m clk es, R.M a d = some (some m) → MR.MapAt QN w m es clk → MR.MapAt QN w' m (MR.del es (r, i)) clk := by
  have hal := ((Below.refl w.heap.size w).alloc (Nat.le_refl _) (.cells #[.int .u32 (a : Int), .int .i64 (d : Int)] 58)).alloc (by simp) (.cells #[.int .i64 r, .int .i64 i] 129)
  have hp : ((w.alloc (.cells #[.int .u32 (a : Int), .int .i64 (d : Int)] 58)).alloc (.cells #[.int .i64 r, .int .i64 i] 129)).heap[w.heap.size]? = some (.cells #[.int .u32 (a : Int), .int .i64 (d : Int)] 58) := hold (hnew _ _)
  have hh : ((w.alloc (.cells #[.int .u32 (a : Int), .int .i64 (d : Int)] 58)).alloc (.cells #[.int .i64 r, .int .i64 i] 129)).heap[w.heap.size + 1]? = some (.cells #[.int .i64 r, .int .i64 i] 129) := hnewAt (by simp)
  have hlt : R.b < w.heap.size := lt_of_blk H.blk
  have hqk : QN.ok (r, i) := ⟨wfI ⟨by have := hk.r; omega, by have := hk.r; omega⟩, wfI ⟨by have := hk.i; omega, by have := hk.i; omega⟩⟩
  have HRW := Lib.hid hqk.1
  have HK := Lib.hid (And.intro hk (And.intro hG hqk))
  have hlk : look R.M a (d : Int) = R.M a d := by unfold look; rw [show okP a (d : Int) = true from hk.p, if_pos rfl, Int.toNat_natCast]
  have HLK := Lib.hid hlk
  have ha : a < 4294967296 := hk.a
  have F0 := Lib.hid (And.intro hal (And.intro (show TbS R n asn room (G.length : Int) ref (cntV G) w.heap.size (w.heap.size + 1) a d r i ((w.alloc (.cells #[.int .u32 (a : Int), .int .i64 (d : Int)] 58)).alloc (.cells #[.int .i64 r, .int .i64 i] 129)) from ⟨(hal.block _ (lt_of_blk H.blk)).trans H.blk, H.tr.below hal, H.of.on (hal.block _ H.of.lt), hp, hh⟩) H))
  have HA := Lib.hid ha
  clear hal hp hh hlt hqk hk hG hlk ha H
  have hdr := (Below.refl ((w.alloc (.cells #[.int .u32 (a : Int), .int .i64 (d : Int)] 58)).alloc (.cells #[.int .i64 r, .int .i64 i] 129)).heap.size ((w.alloc (.cells #[.int .u32 (a : Int), .int .i64 (d : Int)] 58)).alloc (.cells #[.int .i64 r, .int .i64 i] 129))).drew
  have F1 := Lib.hid (And.intro (bcall F0.out.1 (Nat.le_refl _) hdr) (F0.out.2.1.keep hdr))
  have hgm := Tm.getM_any F1.out.2.tr a (d : Int) HA.out
  rw [HLK.out] at hgm
  have HH := Lib.hid F0.out.2.2
  clear hdr F0 HLK
  obtain ⟨nn, hnn⟩ : ∃ z : Int, (G.length : Int) = z := ⟨_, rfl⟩
  rw [hnn] at F1
  have HNN := Lib.hid hnn
  clear hnn
  unfold pfx at hgm
  cases hM : R.M a d with
  | none =>
    rw [hM] at hgm
    simp only [Option.getD_none, Option.isSome_none] at hgm
    have HGM := Lib.hid hgm
    have HE := Lib.hid (show dropV G (r, pkN a d, i) = G from dropV_none fun x hx e => by
      have h1 := HH.out.all x hx
      unfold RtV.key at e
      rw [Prod.mk.injEq, Prod.mk.injEq] at e
      rw [e.2.1] at h1
      unfold pkN at h1
      rw [Int.toNat_natCast, hM] at h1
      cases h1)
    have HM0 := Lib.hid hM
    clear hM hgm
    go_enter Tryz.func81, Tryz.ntmps81
    go_wp2_with fail
    refine wp_region_heldP (TbS R n asn room nn ref (cntV G) w.heap.size (w.heap.size + 1) a d r i) (by kernel_rfl) ?_
    generalize ((w.alloc (.cells #[.int .u32 (a : Int), .int .i64 (d : Int)] 58)).alloc (.cells #[.int .i64 r, .int .i64 i] 129)).drew = V at *
    refine held_reads [0, 1, 2, 3, 4] (g := 6) rfl (by kernel_rfl) F1.out.2 (fun _ _ d _ _ h => by cases d <;> exact h) ?_
    simp only [pick, List.getD_cons_zero, List.getD_cons_succ]
    iterate 4 ((with_reducible refine wpRead_step (fun K hK => ?_)); go_simp; first | ((with_reducible refine hK _ ?_); clear hK K) | (apply Exists.intro; (with_reducible refine ⟨fun w' hw' => ?_, hK _ ?_⟩); ((have f0 : w'.cell? ⟨R.b, 0, none⟩ = _ := cell_of hw'.blk rfl; go_simp; first | exact rfl | exact ⟨rfl, rfl⟩)); clear hK K))
    with_reducible refine wpRead_yes ?_ ?_
    rotate_left
    rfl
    intro K hK
    refine read_load 58 _ rfl w.heap.size 0 #[.int .u32 (a : Int), .int .i64 (d : Int)] rfl (fun w' hw' => rangeAt_block hw'.p 0 _ rfl) Tryz.underlying58 rfl (by kernel_rfl) (hK _ ?_)
    clear hK K
    with_reducible refine wpRead_nil ?_
    refine held_one 5 (by kernel_rfl) ?_
    simp only [pick, List.getD_cons_zero, List.getD_cons_succ]
    go_wp2_with fail
    refine (HGM.out).mono ?_
    rintro e W2 ⟨rfl, hb⟩
    have F2 := Lib.hid (And.intro (bcall F1.out.1 (Nat.le_refl _) hb) (F1.out.2.keep hb))
    clear hb F1
    go_wp2_with fail
    refine ⟨F2.out.2, ?_⟩
    refine held_reads [6, 7, 8, 9, 10] (g := 0) rfl (by kernel_rfl) F2.out.2 (fun _ _ d _ _ h => by cases d <;> exact h) ?_
    simp only [pick, List.getD_cons_zero, List.getD_cons_succ]
    iterate 5 ((with_reducible refine wpRead_step (fun K hK => ?_)); go_simp; first | ((with_reducible refine hK _ ?_); clear hK K) | (apply Exists.intro; (with_reducible refine ⟨fun w' hw' => ?_, hK _ ?_⟩); (first | exact rfl | exact ⟨rfl, rfl⟩); clear hK K))
    with_reducible refine wpRead_nil ?_
    refine wpAnyH_done (by kernel_rfl) ?_ _
    have c0 := cell_of (o := 0) F2.out.2.h rfl
    have c1 := cell_of (o := 1) F2.out.2.h rfl
    have hlu := paths_nil (k := (r, i)) HK.out.2.2 W2
    go_wp2_with (with_reducible refine halt_store 40 (x := .tmp 8) rfl ?_)
    refine Halted.go ?_
    have hal := (Below.refl W2.heap.size W2).alloc (Nat.le_refl _) (.cells #[.int .i64 0, .slice none 0 0, .int .u32 0, .int .i64 0, .int .i64 0, .slice none 0 0] 40)
    refine store_whole rfl 40 _ _ rfl W2.heap.size #[.int .i64 0, .slice none 0 0, .int .u32 0, .int .i64 0, .int .i64 0, .slice none 0 0] rfl rfl (hnew _ _) rfl (by kernel_rfl) (by simp [Value.oneCell']) ?_
    intro W3 hwz hsz
    have hzb : Below W2.heap.size W2 W3 := Below.trans hal (hsz.below (Nat.le_refl _))
    have F3 := Lib.hid (And.intro (bcall F2.out.1 (Nat.le_refl _) hzb) (F2.out.2.keep hzb))
    clear hal hwz hsz hzb hlu c0 c1
    go_wp2_with fail
    (try simp only [Exit.inBlock, Exit.then])
    refine bodyPost_ret (results_none rfl _ _ _) rfl ?_
    exact ⟨rfl, R, n, HE.out.symm ▸ HH.out.below F3.out.1, rfl, Moved.of_below F3.out.1 _, fun _ _ => .inl rfl, fun m clk es hm => by cases hm⟩
  | some y =>
    obtain ⟨m, rfl, hpm, hne⟩ := HH.out.mp a d y hM
    rw [hM] at hgm
    simp only [Option.getD_some, Option.isSome_some] at hgm
    have HGM := Lib.hid hgm
    have HM := Lib.hid (And.intro hM (And.intro hpm hne))
    clear hM hgm hpm hne
    go_enter Tryz.func81, Tryz.ntmps81
    go_wp2_with fail
    refine wp_region_heldP (TbS R n asn room nn ref (cntV G) w.heap.size (w.heap.size + 1) a d r i) (by kernel_rfl) ?_
    generalize ((w.alloc (.cells #[.int .u32 (a : Int), .int .i64 (d : Int)] 58)).alloc (.cells #[.int .i64 r, .int .i64 i] 129)).drew = V at *
    refine held_reads [0, 1, 2, 3, 4] (g := 6) rfl (by kernel_rfl) F1.out.2 (fun _ _ d _ _ h => by cases d <;> exact h) ?_
    simp only [pick, List.getD_cons_zero, List.getD_cons_succ]
    iterate 4 ((with_reducible refine wpRead_step (fun K hK => ?_)); go_simp; first | ((with_reducible refine hK _ ?_); clear hK K) | (apply Exists.intro; (with_reducible refine ⟨fun w' hw' => ?_, hK _ ?_⟩); ((have f0 : w'.cell? ⟨R.b, 0, none⟩ = _ := cell_of hw'.blk rfl; go_simp; first | exact rfl | exact ⟨rfl, rfl⟩)); clear hK K))
    with_reducible refine wpRead_yes ?_ ?_
    rotate_left
    rfl
    intro K hK
    refine read_load 58 _ rfl w.heap.size 0 #[.int .u32 (a : Int), .int .i64 (d : Int)] rfl (fun w' hw' => rangeAt_block hw'.p 0 _ rfl) Tryz.underlying58 rfl (by kernel_rfl) (hK _ ?_)
    clear hK K
    with_reducible refine wpRead_nil ?_
    refine held_one 5 (by kernel_rfl) ?_
    simp only [pick, List.getD_cons_zero, List.getD_cons_succ]
    go_wp2_with fail
    refine (HGM.out).mono ?_
    rintro e W2 ⟨rfl, hb⟩
    have F2 := Lib.hid (And.intro (bcall F1.out.1 (Nat.le_refl _) hb) (F1.out.2.keep hb))
    clear hb F1
    go_wp2_with fail
    refine ⟨F2.out.2, ?_⟩
    refine held_reads [6, 7, 8, 9, 10] (g := 0) rfl (by kernel_rfl) F2.out.2 (fun _ _ d _ _ h => by cases d <;> exact h) ?_
    simp only [pick, List.getD_cons_zero, List.getD_cons_succ]
    iterate 5 ((with_reducible refine wpRead_step (fun K hK => ?_)); go_simp; first | ((with_reducible refine hK _ ?_); clear hK K) | (apply Exists.intro; (with_reducible refine ⟨fun w' hw' => ?_, hK _ ?_⟩); (first | exact rfl | exact ⟨rfl, rfl⟩); clear hK K))
    with_reducible refine wpRead_nil ?_
    refine wpAnyH_done (by kernel_rfl) ?_ _
    have c0 := cell_of (o := 0) F2.out.2.h rfl
    have c1 := cell_of (o := 1) F2.out.2.h rfl
    have hpm2 : PathsAt W2 m (atV G (pkN a d)) := HM.out.2.1.keep F2.out.1
    cases hlo : Kl.look RtV.pi (atV G (pkN a d)) (r, i) with
    | none =>
      have hh0 : hasP14 (atV G (pkN a d)) (r, i) = false := by unfold hasP14; rw [hlo]; rfl
      have hlu := hpm2.lookup HK.out.2.2 W2 rfl
      rw [hh0] at hlu
      have HE := Lib.hid (show dropV G (r, pkN a d, i) = G from dropV_none (look_pi.2 hlo))
      obtain ⟨ga, hga⟩ : ∃ g, getP14 (atV G (pkN a d)) (r, i) = g := ⟨_, rfl⟩
      rw [hga] at hlu
      have HLO := Lib.hid hlo
      clear hga hlo hh0 hpm2
      go_wp2_with (with_reducible refine halt_store 40 (x := .tmp 8) rfl ?_)
      refine Halted.go ?_
      have hal := (Below.refl W2.heap.size W2).alloc (Nat.le_refl _) (.cells #[.int .i64 0, .slice none 0 0, .int .u32 0, .int .i64 0, .int .i64 0, .slice none 0 0] 40)
      refine store_whole rfl 40 _ _ rfl W2.heap.size #[.int .i64 ga.o, .slice ga.p.a ga.p.n ga.p.c, .int .u32 ga.nx, .int .i64 ga.md, .int .i64 ga.pf, .slice ga.c.a ga.c.n ga.c.c] rfl rfl (hnew _ _) rfl (by kernel_rfl) (by simp [Value.oneCell']) ?_
      intro W3 hwz hsz
      have hzb : Below W2.heap.size W2 W3 := Below.trans hal (hsz.below (Nat.le_refl _))
      have F3 := Lib.hid (And.intro (bcall F2.out.1 (Nat.le_refl _) hzb) (F2.out.2.keep hzb))
      clear hal hwz hsz hzb hlu c0 c1
      go_wp2_with fail
      (try simp only [Exit.inBlock, Exit.then])
      refine bodyPost_ret (results_none rfl _ _ _) rfl ?_
      refine ⟨rfl, R, n, HE.out.symm ▸ HH.out.below F3.out.1, rfl, Moved.of_below F3.out.1 _, fun _ _ => .inl rfl, fun m' clk es hm hmp => ?_⟩
      injection hm with hm
      injection hm with hm
      subst hm
      have hd0 : MR.del es (r, i) = es := MR.del_none (by
        intro hin
        obtain ⟨clk', es', k2, k3⟩ := HM.out.2.1
        obtain ⟨rfl, rfl⟩ := mapAt_unique k2 hmp
        obtain ⟨e, he, hee⟩ := List.mem_map.1 hin
        have h1 := MR.get?_mem k3.ne he
        rw [hee, k3.get, HLO.out] at h1
        cases h1)
      rw [hd0]
      exact hmp.blk_iff QN (F3.out.1.block _ (HH.out.map_lt HM.out.1))
    | some x0 =>
      have hh0 : hasP14 (atV G (pkN a d)) (r, i) = true := by unfold hasP14; rw [hlo]; rfl
      have hlu := hpm2.lookup HK.out.2.2 W2 rfl
      rw [hh0] at hlu
      have hx0 : x0 ∈ G ∧ x0.key = (r, pkN a d, i) := by
        obtain ⟨h1, h2⟩ := Kl.look_mem hlo
        obtain ⟨h3, h4⟩ := mem_atV.1 h1
        refine ⟨h3, ?_⟩
        unfold RtV.pi at h2
        unfold RtV.key
        rw [Prod.mk.injEq] at h2
        rw [h4, h2.1, h2.2]
      have HX := Lib.hid hx0
      obtain ⟨ga, hga⟩ : ∃ g, getP14 (atV G (pkN a d)) (r, i) = g := ⟨_, rfl⟩
      rw [hga] at hlu
      clear hga hlo hh0 hpm2 hx0
      go_wp2_with (with_reducible refine halt_store 40 (x := .tmp 8) rfl ?_)
      refine Halted.go ?_
      have hal := (Below.refl W2.heap.size W2).alloc (Nat.le_refl _) (.cells #[.int .i64 0, .slice none 0 0, .int .u32 0, .int .i64 0, .int .i64 0, .slice none 0 0] 40)
      refine store_whole rfl 40 _ _ rfl W2.heap.size #[.int .i64 ga.o, .slice ga.p.a ga.p.n ga.p.c, .int .u32 ga.nx, .int .i64 ga.md, .int .i64 ga.pf, .slice ga.c.a ga.c.n ga.c.c] rfl rfl (hnew _ _) rfl (by kernel_rfl) (by simp [Value.oneCell']) ?_
      intro W3 hwz hsz
      have hzb : Below W2.heap.size W2 W3 := Below.trans hal (hsz.below (Nat.le_refl _))
      have F3 := Lib.hid (And.intro (bcall F2.out.1 (Nat.le_refl _) hzb) (F2.out.2.keep hzb))
      clear hal hwz hsz hzb hlu c0 c1
      -- the deletion
      have hpm3 : PathsAt W3 m (atV G (pkN a d)) := HM.out.2.1.keep F3.out.1
      obtain ⟨O1, hdel, hp1, hmd⟩ := hpm3.delete HK.out.2.2
      rw [← atV_drop] at hp1
      have c0 := cell_of (o := 0) F3.out.2.h rfl
      have c1 := cell_of (o := 1) F3.out.2.h rfl
      have hmb : R.b ≠ m := Ne.symm (HH.out.map_b HM.out.1)
      have hmo : R.bo ≠ m := fun e => HH.out.ofne a d (by rw [e]; exact HM.out.1)
      have hsb := setBlock_setB (w := W3) (b := m) (o := O1)
      have hbk1 : (setBlock W3 m O1).heap[R.b]? = some (.cells #[.pointer (some ⟨R.bt, 0, none⟩), .int .i64 asn, .int .i64 room, .int .i64 nn, .int .i64 ref, .map (some R.bo)] 120) := (hsb.other hmb).trans F3.out.2.blk
      have c3 : (setBlock W3 m O1).cell? ⟨R.b, 3, none⟩ = some (.int .i64 nn) := cell_of hbk1 rfl
      have e3 : (setBlock W3 m O1).frozen? ⟨R.b, 3, none⟩ = false := free_of hbk1
      obtain ⟨n1, hn1⟩ : ∃ z : Int, nn - 1 = z := ⟨_, rfl⟩
      have hln := drop_count HH.out.nd HX.out.1
      rw [HX.out.2] at hln
      have hw1 : wrap64 n1 = n1 := by
        have h1 := HNN.out
        have h2 := hln.1
        have h3 := HK.out.2.1
        unfold wrap64
        omega
      have hbk2 := setCell_blk hbk1 3 (.int .i64 n1)
      have hB1 : But W3 ((setBlock W3 m O1).setCell ⟨R.b, 3, none⟩ (.int .i64 n1)) [m, R.b, R.bo] := ((But.refl W3 [m, R.b, R.bo]).setBlock (b := m) (.inr (by simp)) O1).setCell (a := ⟨R.b, 3, none⟩) (.inr (by simp)) _
      have hB1m : ((setBlock W3 m O1).setCell ⟨R.b, 3, none⟩ (.int .i64 n1)).heap[m]? = (setBlock W3 m O1).heap[m]? := Below.heap_setCell _ _ _ _ (Ne.symm hmb)
      have hB1o : ((setBlock W3 m O1).setCell ⟨R.b, 3, none⟩ (.int .i64 n1)).heap[R.bo]? = W3.heap[R.bo]? := (Below.heap_setCell _ _ _ _ HH.out.bo_b).trans (hsb.other hmo)
      have htr1 : Tm.TrieM ((setBlock W3 m O1).setCell ⟨R.b, 3, none⟩ (.int .i64 n1)) R.bt R.N n R.M := F3.out.2.tr.keep fun k hk => hB1.block k (F3.out.2.tr.lt hk) (by
        intro hm
        simp only [List.mem_cons, List.not_mem_nil, or_false] at hm
        rcases hm with rfl | rfl | rfl
        · exact HH.out.map_foot HM.out.1 hk
        · exact HH.out.b_foot hk
        · exact HH.out.bo_foot hk)
      have hbx : ∀ q, w.heap.size ≤ q → q < W3.heap.size → ((setBlock W3 m O1).setCell ⟨R.b, 3, none⟩ (.int .i64 n1)).heap[q]? = W3.heap[q]? := fun q hq hq2 => hB1.block q hq2 (by
        intro hm
        simp only [List.mem_cons, List.not_mem_nil, or_false] at hm
        have h1 := HH.out.map_lt HM.out.1
        have h2 := lt_of_blk HH.out.blk
        have h3 := HH.out.of.lt
        omega)
      have hle := cntV_in G r
      obtain ⟨cz, hc1⟩ : ∃ z, cntV G r - 1 = z := ⟨_, rfl⟩
      have hwc : IntKind.i64.wrap (cntV G r - 1) = cz := by
        have h3 := HK.out.2.1
        rw [IntWalk.i64_in _ (by omega), hc1]
      have F4 := Lib.hid (And.intro hB1.drew (And.intro (show TbS R n asn room n1 ref (cntV G) w.heap.size (w.heap.size + 1) a d r i ((setBlock W3 m O1).setCell ⟨R.b, 3, none⟩ (.int .i64 n1)).drew from ⟨hbk2, htr1.below ((Below.refl _ _).drew), F3.out.2.of.on hB1o, (hbx _ (Nat.le_refl _) (lt_of_blk F3.out.2.p)).trans F3.out.2.p, (hbx _ (Nat.le_succ _) (lt_of_blk F3.out.2.h)).trans F3.out.2.h⟩) (And.intro ((hp1.on hB1m).on (w' := ((setBlock W3 m O1).setCell ⟨R.b, 3, none⟩ (.int .i64 n1)).drew) rfl) (And.intro hln (And.intro hn1 (And.intro hc1 (And.intro hmo (show ∀ clk es, MR.MapAt QN w m es clk → MR.MapAt QN ((setBlock W3 m O1).setCell ⟨R.b, 3, none⟩ (.int .i64 n1)).drew m (MR.del es (r, i)) clk from fun clk es h => (hmd clk es (h.blk_iff QN (F3.out.1.block _ (HH.out.map_lt HM.out.1)))).blk_iff QN hB1m))))))))
      have hdl := hdel 129
      clear hp1 hmb hmo hsb hbk1 hbk2 hB1 hB1m hB1o htr1 hbx hpm3 hln hdel hle hc1 hmd
      go_wp2_with fail
      refine wp_region_T 8 (TbS R n asn room n1 ref (cntV G) w.heap.size (w.heap.size + 1) a d r i) (by kernel_rfl) ?_
      clear hdl c0 c1 c3 e3 hw1
      generalize ((setBlock W3 m O1).setCell ⟨R.b, 3, none⟩ (.int .i64 n1)).drew = V4 at *
      refine T_reads [0, 1, 2, 3, 4, 5, 6, 7] (g := 1) rfl (by kernel_rfl) F4.out.2.1 (fun _ _ d _ _ h => by cases d <;> exact h) ?_
      simp only [pick, List.getD_cons_zero, List.getD_cons_succ]
      iterate 8 ((with_reducible refine wpRead_step (fun K hK => ?_)); go_simp; first | ((with_reducible refine hK _ ?_); clear hK K) | (apply Exists.intro; (with_reducible refine ⟨fun w' hw' => ?_, hK _ ?_⟩); ((have f0 : w'.cell? ⟨R.b, 5, none⟩ = _ := cell_of hw'.blk rfl; have f1 := hw'.of.lookup HRW.out w' rfl; have f2 : w'.cell? ⟨w.heap.size + 1, 0, none⟩ = _ := cell_of hw'.h rfl; go_simp; first | exact rfl | exact ⟨rfl, rfl⟩)); clear hK K))
      with_reducible refine wpRead_nil ?_
      clear hwc
      obtain ⟨O2, hup, ho2⟩ := F4.out.2.1.of.update HRW.out cz
      have hup1 : (Instr.mapUpdate 118 (.map (some R.bo)) (.int .i64 r) (.int .i64 cz)).run Tryz.prog V4 = .ok () (setBlock V4 R.bo O2) := hup
      have hof : OfAt (setBlock V4 R.bo O2) R.bo (cntV (dropV G (r, pkN a d, i))) := ho2.as fun j => by
        have h1 := F4.out.2.2.2.1.2 j
        have hr : x0.r = r := congrArg (·.1) HX.out.2
        rw [hr] at h1
        rw [h1, F4.out.2.2.2.2.2.1]
      have hsb2 := setBlock_setB (w := V4) (b := R.bo) (o := O2)
      have hmo := F4.out.2.2.2.2.2.2.1
      have hB2 : But V4 (setBlock V4 R.bo O2) [m, R.b, R.bo] := (But.refl V4 _).setBlock (b := R.bo) (.inr (by simp)) O2
      have hV4 : W3.heap.size ≤ V4.heap.size := F4.out.1.size
      have hT5 : TbS R n asn room n1 ref (cntV (dropV G (r, pkN a d, i))) w.heap.size (w.heap.size + 1) a d r i (setBlock V4 R.bo O2) := ⟨(hsb2.other (Ne.symm HH.out.bo_b)).trans F4.out.2.1.blk, F4.out.2.1.tr.keep (fun k hk => hsb2.other (fun e => HH.out.bo_foot (e ▸ hk))), hof, (hsb2.other (by have := HH.out.of.lt; omega)).trans F4.out.2.1.p, (hsb2.other (by have := HH.out.of.lt; omega)).trans F4.out.2.1.h⟩
      have hp5 : PathsAt (setBlock V4 R.bo O2) m (atV (dropV G (r, pkN a d, i)) (pkN a d)) := F4.out.2.2.1.on (hsb2.other (Ne.symm hmo))
      have hlen := fun ty => hp5.len (setBlock V4 R.bo O2) rfl ty
      have F5 := Lib.hid (And.intro (F4.out.1.trans hB2) (And.intro hT5 (And.intro hp5 F4.out.2.2.2)))
      have HMD := Lib.hid (show ∀ clk es, MR.MapAt QN w m es clk → MR.MapAt QN (setBlock V4 R.bo O2) m (MR.del es (r, i)) clk from fun clk es h => (F4.out.2.2.2.2.2.2.2 clk es h).blk_iff QN (hsb2.other (Ne.symm hmo)))
      clear hof hsb2 hmo hB2 hV4 hT5 hp5 ho2
      refine T_one 8 (by kernel_rfl) ?_
      simp only [pick, List.getD_cons_zero, List.getD_cons_succ]
      go_wp2_with fail
      refine ⟨fun h => absurd rfl h, ?_⟩
      refine T_done (by kernel_rfl) ?_ _
      clear hup hup1
      obtain ⟨ln, hln⟩ : ∃ z, (atV (dropV G (r, pkN a d, i)) (pkN a d)).length = z := ⟨_, rfl⟩
      rw [hln] at hlen
      generalize setBlock V4 R.bo O2 = W5 at *
      have hmv5 : Moved w W5 R.F R.F := by
        have h1 := F3.out.1
        have h2 := F5.out.1
        refine ⟨h2.os.trans h1.os, h2.tape.trans h1.tape, h2.output.trans h1.output, Nat.le_trans h1.size h2.size, fun k hk hn => (h2.block k (Nat.lt_of_lt_of_le hk h1.size) ?_).trans (h1.block k hk), fun k hk => .inl hk⟩
        intro hm
        simp only [List.mem_cons, List.not_mem_nil, or_false] at hm
        rcases hm with rfl | rfl | rfl
        · exact hn (.inr (.inr (.inr ⟨a, d, HM.out.1⟩)))
        · exact hn (.inl rfl)
        · exact hn (.inr (.inl rfl))
      have hsame5 : ∀ a' d' m', ¬ (a' = a ∧ d' = d) → R.M a' d' = some (some m') → W5.heap[m']? = w.heap[m']? := fun a' d' m' hne hm' => by
        have hlt := HH.out.map_lt hm'
        refine (F5.out.1.block m' (Nat.lt_of_lt_of_le hlt F3.out.1.size) ?_).trans (F3.out.1.block m' hlt)
        intro hm
        simp only [List.mem_cons, List.not_mem_nil, or_false] at hm
        rcases hm with rfl | rfl | rfl
        · exact hne (HH.out.inj _ _ _ _ _ hm' HM.out.1)
        · exact HH.out.map_b hm' rfl
        · exact HH.out.ofne a' d' hm'
      have hcnt : n1 = ((dropV G (r, pkN a d, i)).length : Int) := by
        have h1 := F5.out.2.2.2.1.1
        have h2 := F5.out.2.2.2.2.1
        have h3 := HNN.out
        omega
      have hnd : ((dropV G (r, pkN a d, i)).map RtV.key).Nodup := Kl.nodup_filter HH.out.nd _
      have G5 := Lib.hid (And.intro hmv5 (And.intro hsame5 (And.intro hcnt (And.intro hnd hln))))
      clear hmv5 hsame5 hcnt hnd
      cases ln with
      | succ l2 =>
        have e1 : (((l2 + 1 : Nat) : Int) == 0) = false := by rw [beq_eq_false_iff_ne]; omega
        clear hln
        go_wp2_with fail
        go_end0
        refine ⟨rfl, R, n, ?_, rfl, G5.out.1, fun _ _ => .inl rfl, fun m' clk es hm hmp => by injection hm with hm; injection hm with hm; subst hm; exact HMD.out clk es hmp⟩
        refine HH.out.step (N' := R.N) (M' := R.M) (a := a) (d := d) G5.out.1 (by rw [← G5.out.2.2.1]; exact F5.out.2.1.blk) F5.out.2.1.tr HH.out.rf (fun _ _ _ => rfl) G5.out.2.1 (fun a' d' hne => atV_other fun e => hne (pkN_inj e)) ?_ (fun x _ _ => by rw [HM.out.1]; rfl) F5.out.2.1.of (fun x hx => HH.out.okx x (dropV_sub hx)) G5.out.2.2.2.1 fun x hx => .inl (dropV_sub hx)
        · intro x hx
          rw [HM.out.1] at hx
          injection hx with hx
          refine ⟨m, hx.symm, F5.out.2.2.1, ?_, fun e => HH.out.ofne a d (by rw [← e]; exact HM.out.1), fun a' d' h => HH.out.inj _ _ _ _ _ h HM.out.1⟩
          intro e
          have h1 := G5.out.2.2.2.2
          rw [e] at h1
          cases h1
      | zero =>
        have e1 : (((0 : Nat) : Int) == 0) = true := rfl
        clear hln
        have hd := (Below.refl W5.heap.size W5).drew
        obtain ⟨E, hE1, hE2⟩ := HH.out.rf
        have hmem : (a, d) ∈ E.map (·.1) := (hE1.some a d).1 (by rw [HM.out.1]; rfl)
        have hdl := Tm.del_length (a, d) E hE1.sorted
        rw [if_pos hmem] at hdl
        obtain ⟨n0, hn0⟩ : ∃ k, (Tm.delE (a, d) E).length = k := ⟨_, rfl⟩
        have hnn0 : n = n0 + 1 := by omega
        subst hnn0
        have hnb : n0 < 4611686018427387904 := by have h1 := HH.out.nG; have h2 := HK.out.2.1; omega
        have F6 := Lib.hid (And.intro (F5.out.2.1.keep hd) (And.intro (Moved.of_below hd (foot R.bt R.N)) (And.intro (show ∃ E, Tm.RefOk E (upd R.M a d none) ∧ E.length = n0 from ⟨_, hE1.del (a, d), hn0⟩) hnb)))
        have HD := Lib.hid (Tm.delM_yes F6.out.1.tr a d HA.out HK.out.1.p F6.out.2.2.2 (some m) HM.out.1)
        unfold pfx at HD
        clear hd hE1 hE2 hmem hdl hn0 hnb E
        go_wp2_with fail
        refine wp_region_T 5 (TbS R (n0 + 1) asn room n1 ref (cntV (dropV G (r, pkN a d, i))) w.heap.size (w.heap.size + 1) a d r i) (by kernel_rfl) ?_
        have hmv6 : Moved w W5.drew R.F R.F := G5.out.1.drew
        have hs6 : ∀ k : Nat, W5.drew.heap[k]? = W5.heap[k]? := fun _ => rfl
        have F7 := Lib.hid (And.intro hmv6 hs6)
        clear hmv6 hs6
        generalize W5.drew = V6 at *
        refine T_reads [0, 1, 2, 3, 4] (g := 1) rfl (by kernel_rfl) F6.out.1 (fun _ _ d _ _ h => by cases d <;> exact h) ?_
        simp only [pick, List.getD_cons_zero, List.getD_cons_succ]
        iterate 4 ((with_reducible refine wpRead_step (fun K hK => ?_)); go_simp; first | ((with_reducible refine hK _ ?_); clear hK K) | (apply Exists.intro; (with_reducible refine ⟨fun w' hw' => ?_, hK _ ?_⟩); ((have f0 : w'.cell? ⟨R.b, 0, none⟩ = _ := cell_of hw'.blk rfl; go_simp; first | exact rfl | exact ⟨rfl, rfl⟩)); clear hK K))
        with_reducible refine wpRead_yes ?_ ?_
        rotate_left
        rfl
        intro K hK
        refine read_load 58 _ rfl w.heap.size 0 #[.int .u32 (a : Int), .int .i64 (d : Int)] rfl (fun w' hw' => rangeAt_block hw'.p 0 _ rfl) Tryz.underlying58 rfl (by kernel_rfl) (hK _ ?_)
        clear hK K
        with_reducible refine wpRead_nil ?_
        refine T_one 5 (by kernel_rfl) ?_
        simp only [pick, List.getD_cons_zero, List.getD_cons_succ]
        go_wp2_with fail
        refine (HD.out).mono ?_
        rintro e W7 ⟨rfl, N', ht7, hm7⟩
        have hw6 : w.heap.size ≤ V6.heap.size := F7.out.1.size
        have hmv8 : Moved w W7 R.F (Rb.F ⟨R.b, R.bt, R.bo, N', upd R.M a d none⟩) := by
          refine ⟨hm7.os.trans F7.out.1.os, hm7.tape.trans F7.out.1.tape, hm7.output.trans F7.out.1.output, Nat.le_trans hw6 hm7.size, fun k hk hn => (hm7.same k (Nat.lt_of_lt_of_le hk hw6) (fun hf => hn (.inr (.inr (.inl hf))))).trans (F7.out.1.same k hk hn), fun k hk => ?_⟩
          rcases hk with h | h | h | ⟨a', d', h⟩
          · exact .inl (.inl h)
          · exact .inl (.inr (.inl h))
          · exact (hm7.foot k h).elim (fun h1 => .inl (.inr (.inr (.inl h1)))) (fun h1 => .inr (Nat.le_trans hw6 h1))
          · by_cases e : a' = a ∧ d' = d
            · obtain ⟨rfl, rfl⟩ := e
              have h' : upd R.M a' d' none a' d' = some (some k) := h
              rw [upd_same] at h'
              cases h'
            · have h' : upd R.M a d none a' d' = some (some k) := h
              rw [upd_other _ _ e] at h'
              exact .inl (.inr (.inr (.inr ⟨a', d', h'⟩)))
        have hbk7 : W7.heap[R.b]? = some (.cells #[.pointer (some ⟨R.bt, 0, none⟩), .int .i64 asn, .int .i64 room, .int .i64 n1, .int .i64 ref, .map (some R.bo)] 120) := (hm7.same _ (lt_of_blk F6.out.1.blk) HH.out.b_foot).trans F6.out.1.blk
        have F8 := Lib.hid (And.intro hmv8 (And.intro hbk7 (And.intro ht7 (show ∀ k : Nat, k < w.heap.size → ¬ foot R.bt R.N k → W7.heap[k]? = W5.heap[k]? from fun k hk hn => (hm7.same k (Nat.lt_of_lt_of_le hk hw6) hn).trans (F7.out.2 k)))))
        clear ht7 hm7 hw6 hmv8 hbk7
        go_wp2_with fail
        refine ⟨fun h => absurd rfl h, ?_⟩
        refine T_done (by kernel_rfl) ?_ _
        go_wp2_with fail
        go_end0
        refine ⟨rfl, ⟨R.b, R.bt, R.bo, N', upd R.M a d none⟩, n0, ?_, rfl, F8.out.1, fun a' d' => ?_, fun m' clk es hm hmp => ?_⟩
        rotate_left 1
        · by_cases e : a' = a ∧ d' = d
          · exact .inr (by show upd R.M a d none a' d' = none; rw [e.1, e.2, upd_same])
          · exact .inl (upd_other _ _ e)
        · injection hm with hm
          injection hm with hm
          subst hm
          exact (HMD.out clk es hmp).blk_iff QN (F8.out.2.2.2 _ (HH.out.map_lt HM.out.1) (HH.out.map_foot HM.out.1))
        refine HH.out.step (N' := N') (M' := upd R.M a d none) (a := a) (d := d) F8.out.1 (by rw [← G5.out.2.2.1]; exact F8.out.2.1) F8.out.2.2.1 F6.out.2.2.1 (fun a' d' hne => upd_other _ _ hne) (fun a' d' m' hne hm' => (F8.out.2.2.2 m' (HH.out.map_lt hm') (HH.out.map_foot hm')).trans (G5.out.2.1 a' d' m' hne hm')) (fun a' d' hne => atV_other fun e => hne (pkN_inj e)) ?_ ?_ (F6.out.1.of.on ?_) (fun x hx => HH.out.okx x (dropV_sub hx)) G5.out.2.2.2.1 fun x hx => .inl (dropV_sub hx)
        · intro x hx
          rw [upd_same] at hx
          cases hx
        · intro x hx e
          have h1 : x ∈ atV (dropV G (r, pkN a d, i)) (pkN a d) := mem_atV.2 ⟨hx, e⟩
          have h2 := G5.out.2.2.2.2
          rw [List.length_eq_zero_iff.1 h2] at h1
          cases h1
        · have h1 := F8.out.2.2.2 R.bo HH.out.of.lt HH.out.bo_foot
          rw [h1, F7.out.2]
theorem drop_any {w : World} {R : Rb} {X : Nat → Prop} {n : Nat} {asn room ref : Int} {G : List RtV} (H : RibAt w R X n asn room ref G) {r i : Int} {a d : Nat} (hk : KOk r (pkN a d) i) (hG : G.length ≤ 100000000) : Calls Tryz.prog 81 #[.pointer (some ⟨R.b, 0, none⟩), .agg #[.int .u32 (a : Int), .int .i64 (d : Int)], .agg #[.int .i64 r, .int .i64 i]] w fun e w' => e = .returned (.tuple #[]) ∧ ∃ R' n', RibAt w' R' X n' asn room ref (dropV G (r, pkN a d, i)) ∧ R'.b = R.b ∧ Moved w w' R.F R'.F :=
  (drop_map H hk hG).mono fun _e _w' ⟨h1, R', n', h2, h3, h4, _⟩ => ⟨h1, R', n', h2, h3, h4⟩
end Go.Proofs.YtadoflcomienoaaGreat
/- slices.SortFunc of routes, of prefixes, by the library's contract. -/
namespace Go.Proofs.YtadoflcomienoaaGreat
open Go.Shelf
def sortRt_ren : Go.Shelf.Ren := ⟨fun | 6 => 86 | 15 => 133 | 14 => 132 | 28 => 167 | 29 => 168 | 20 => 159 | 21 => 160 | 22 => 161 | 23 => 162 | 24 => 163 | 25 => 164 | 26 => 165 | 27 => 166 | 46 => 198 | 47 => 199 | 48 => 200 | 49 => 201 | 50 => 202 | 57 => 212 | n => n, fun | 22 => 72 | 24 => 93 | 25 => 144 | 3 => 3 | 39 => 146 | 0 => 0 | 53 => 37 | 55 => 225 | 4 => 4 | 46 => 218 | 45 => 217 | 50 => 130 | 5 => 5 | 9 => 9 | 66 => 251 | 70 => 255 | 76 => 264 | 77 => 265 | n => n, fun  | n => n⟩
theorem sortRt : SlLaysF0.n6 Tryz.prog sortRt_ren := {
  mixed := by kernel_rfl
  f6 := ⟨Tryz.f86.name, by decide, Tryz.func86.trans (congrArg some (by kernel_rfl))⟩
  f14 := ⟨Tryz.f132.name, by decide, Tryz.func132.trans (congrArg some (by kernel_rfl))⟩
  f15 := Tryz.func133.trans (congrArg some (by kernel_rfl))
  f20 := ⟨Tryz.f159.name, by decide, Tryz.func159.trans (congrArg some (by kernel_rfl))⟩
  f21 := ⟨Tryz.f160.name, by decide, Tryz.func160.trans (congrArg some (by kernel_rfl))⟩
  f22 := ⟨Tryz.f161.name, by decide, Tryz.func161.trans (congrArg some (by kernel_rfl))⟩
  f23 := ⟨Tryz.f162.name, by decide, Tryz.func162.trans (congrArg some (by kernel_rfl))⟩
  f24 := ⟨Tryz.f163.name, by decide, Tryz.func163.trans (congrArg some (by kernel_rfl))⟩
  f25 := ⟨Tryz.f164.name, by decide, Tryz.func164.trans (congrArg some (by kernel_rfl))⟩
  f26 := ⟨Tryz.f165.name, by decide, Tryz.func165.trans (congrArg some (by kernel_rfl))⟩
  f27 := ⟨Tryz.f166.name, by decide, Tryz.func166.trans (congrArg some (by kernel_rfl))⟩
  f28 := Tryz.func167.trans (congrArg some (by kernel_rfl))
  f29 := Tryz.func168.trans (congrArg some (by kernel_rfl))
  f46 := ⟨Tryz.f198.name, by decide, Tryz.func198.trans (congrArg some (by kernel_rfl))⟩
  f47 := Tryz.func199.trans (congrArg some (by kernel_rfl))
  f48 := Tryz.func200.trans (congrArg some (by kernel_rfl))
  f49 := ⟨Tryz.f201.name, by decide, Tryz.func201.trans (congrArg some (by kernel_rfl))⟩
  f50 := ⟨Tryz.f202.name, by decide, Tryz.func202.trans (congrArg some (by kernel_rfl))⟩
  f57 := ⟨Tryz.f212.name, by decide, Tryz.func212.trans (congrArg some (by kernel_rfl))⟩
  t0 := Tryz.underlying0
  a0 := Tryz.isAgg0
  z0 := Tryz.sizeOf0
  v0 := Tryz.zeroValue0
  t3 := Tryz.underlying3
  a3 := Tryz.isAgg3
  z3 := Tryz.sizeOf3
  v3 := Tryz.zeroValue3
  t4 := Tryz.underlying4
  a4 := Tryz.isAgg4
  z4 := Tryz.sizeOf4
  v4 := Tryz.zeroValue4
  t5 := Tryz.underlying5
  a5 := Tryz.isAgg5
  z5 := Tryz.sizeOf5
  v5 := Tryz.zeroValue5
  t9 := Tryz.underlying9
  a9 := Tryz.isAgg9
  z9 := Tryz.sizeOf9
  v9 := Tryz.zeroValue9
  t22 := Tryz.underlying72
  a22 := Tryz.isAgg72
  z22 := Tryz.sizeOf72
  v22 := Tryz.zeroValue72
  t25 := Tryz.underlying144
  a25 := Tryz.isAgg144
  z25 := Tryz.sizeOf144
  v25 := Tryz.zeroValue144
  t39 := Tryz.underlying146
  a39 := Tryz.isAgg146
  z39 := Tryz.sizeOf146
  v39 := Tryz.zeroValue146
  t45 := Tryz.underlying217
  a45 := Tryz.isAgg217
  z45 := Tryz.sizeOf217
  v45 := Tryz.zeroValue217
  t46 := Tryz.underlying218
  a46 := Tryz.isAgg218
  z46 := Tryz.sizeOf218
  v46 := Tryz.zeroValue218
  t50 := Tryz.underlying130
  a50 := Tryz.isAgg130
  z50 := Tryz.sizeOf130
  v50 := Tryz.zeroValue130
  t53 := Tryz.underlying37
  a53 := Tryz.isAgg37
  z53 := Tryz.sizeOf37
  v53 := Tryz.zeroValue37
  t55 := Tryz.underlying225
  a55 := Tryz.isAgg225
  z55 := Tryz.sizeOf225
  v55 := Tryz.zeroValue225
  t66 := Tryz.underlying251
  a66 := Tryz.isAgg251
  z66 := Tryz.sizeOf251
  v66 := Tryz.zeroValue251
  t70 := Tryz.underlying255
  a70 := Tryz.isAgg255
  z70 := Tryz.sizeOf255
  v70 := Tryz.zeroValue255
  t76 := Tryz.underlying264
  a76 := Tryz.isAgg264
  z76 := Tryz.sizeOf264
  v76 := Tryz.zeroValue264
  t77 := Tryz.underlying265
  a77 := Tryz.isAgg265
  z77 := Tryz.sizeOf265
  v77 := Tryz.zeroValue265 }
def sortPf_ren : Go.Shelf.Ren := ⟨fun | 6 => 130 | 15 => 133 | 14 => 157 | 28 => 167 | 29 => 168 | 20 => 188 | 21 => 189 | 22 => 190 | 23 => 191 | 24 => 192 | 25 => 193 | 26 => 194 | 27 => 195 | 46 => 209 | 47 => 199 | 48 => 200 | 49 => 210 | 50 => 211 | 57 => 215 | n => n, fun | 22 => 67 | 24 => 58 | 25 => 113 | 3 => 3 | 39 => 146 | 0 => 0 | 53 => 37 | 55 => 225 | 4 => 4 | 46 => 218 | 45 => 217 | 50 => 130 | 5 => 5 | 9 => 9 | 66 => 251 | 70 => 255 | 76 => 264 | 77 => 265 | n => n, fun  | n => n⟩
theorem sortPf : SlLaysF0.n6 Tryz.prog sortPf_ren := {
  mixed := by kernel_rfl
  f6 := ⟨Tryz.f130.name, by decide, Tryz.func130.trans (congrArg some (by kernel_rfl))⟩
  f14 := ⟨Tryz.f157.name, by decide, Tryz.func157.trans (congrArg some (by kernel_rfl))⟩
  f15 := Tryz.func133.trans (congrArg some (by kernel_rfl))
  f20 := ⟨Tryz.f188.name, by decide, Tryz.func188.trans (congrArg some (by kernel_rfl))⟩
  f21 := ⟨Tryz.f189.name, by decide, Tryz.func189.trans (congrArg some (by kernel_rfl))⟩
  f22 := ⟨Tryz.f190.name, by decide, Tryz.func190.trans (congrArg some (by kernel_rfl))⟩
  f23 := ⟨Tryz.f191.name, by decide, Tryz.func191.trans (congrArg some (by kernel_rfl))⟩
  f24 := ⟨Tryz.f192.name, by decide, Tryz.func192.trans (congrArg some (by kernel_rfl))⟩
  f25 := ⟨Tryz.f193.name, by decide, Tryz.func193.trans (congrArg some (by kernel_rfl))⟩
  f26 := ⟨Tryz.f194.name, by decide, Tryz.func194.trans (congrArg some (by kernel_rfl))⟩
  f27 := ⟨Tryz.f195.name, by decide, Tryz.func195.trans (congrArg some (by kernel_rfl))⟩
  f28 := Tryz.func167.trans (congrArg some (by kernel_rfl))
  f29 := Tryz.func168.trans (congrArg some (by kernel_rfl))
  f46 := ⟨Tryz.f209.name, by decide, Tryz.func209.trans (congrArg some (by kernel_rfl))⟩
  f47 := Tryz.func199.trans (congrArg some (by kernel_rfl))
  f48 := Tryz.func200.trans (congrArg some (by kernel_rfl))
  f49 := ⟨Tryz.f210.name, by decide, Tryz.func210.trans (congrArg some (by kernel_rfl))⟩
  f50 := ⟨Tryz.f211.name, by decide, Tryz.func211.trans (congrArg some (by kernel_rfl))⟩
  f57 := ⟨Tryz.f215.name, by decide, Tryz.func215.trans (congrArg some (by kernel_rfl))⟩
  t0 := Tryz.underlying0
  a0 := Tryz.isAgg0
  z0 := Tryz.sizeOf0
  v0 := Tryz.zeroValue0
  t3 := Tryz.underlying3
  a3 := Tryz.isAgg3
  z3 := Tryz.sizeOf3
  v3 := Tryz.zeroValue3
  t4 := Tryz.underlying4
  a4 := Tryz.isAgg4
  z4 := Tryz.sizeOf4
  v4 := Tryz.zeroValue4
  t5 := Tryz.underlying5
  a5 := Tryz.isAgg5
  z5 := Tryz.sizeOf5
  v5 := Tryz.zeroValue5
  t9 := Tryz.underlying9
  a9 := Tryz.isAgg9
  z9 := Tryz.sizeOf9
  v9 := Tryz.zeroValue9
  t22 := Tryz.underlying67
  a22 := Tryz.isAgg67
  z22 := Tryz.sizeOf67
  v22 := Tryz.zeroValue67
  t25 := Tryz.underlying113
  a25 := Tryz.isAgg113
  z25 := Tryz.sizeOf113
  v25 := Tryz.zeroValue113
  t39 := Tryz.underlying146
  a39 := Tryz.isAgg146
  z39 := Tryz.sizeOf146
  v39 := Tryz.zeroValue146
  t45 := Tryz.underlying217
  a45 := Tryz.isAgg217
  z45 := Tryz.sizeOf217
  v45 := Tryz.zeroValue217
  t46 := Tryz.underlying218
  a46 := Tryz.isAgg218
  z46 := Tryz.sizeOf218
  v46 := Tryz.zeroValue218
  t50 := Tryz.underlying130
  a50 := Tryz.isAgg130
  z50 := Tryz.sizeOf130
  v50 := Tryz.zeroValue130
  t53 := Tryz.underlying37
  a53 := Tryz.isAgg37
  z53 := Tryz.sizeOf37
  v53 := Tryz.zeroValue37
  t55 := Tryz.underlying225
  a55 := Tryz.isAgg225
  z55 := Tryz.sizeOf225
  v55 := Tryz.zeroValue225
  t66 := Tryz.underlying251
  a66 := Tryz.isAgg251
  z66 := Tryz.sizeOf251
  v66 := Tryz.zeroValue251
  t70 := Tryz.underlying255
  a70 := Tryz.isAgg255
  z70 := Tryz.sizeOf255
  v70 := Tryz.zeroValue255
  t76 := Tryz.underlying264
  a76 := Tryz.isAgg264
  z76 := Tryz.sizeOf264
  v76 := Tryz.zeroValue264
  t77 := Tryz.underlying265
  a77 := Tryz.isAgg265
  z77 := Tryz.sizeOf265
  v77 := Tryz.zeroValue265 }
end Go.Proofs.YtadoflcomienoaaGreat
