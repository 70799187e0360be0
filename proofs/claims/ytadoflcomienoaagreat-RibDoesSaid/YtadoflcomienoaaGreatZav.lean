/- Get; Prefixes; what nobody's table tells. -/
import Derived.Test.YtadoflcomienoaaGreatZas
import Derived.Test.YtadoflcomienoaaGreatZau
namespace Go.Proofs.YtadoflcomienoaaGreat
open Go.RowKit
open Go.ChangeMaps (setBlock)

theorem ret_cell2 {P : Program} {a : Act} {w : World} {fn : Func} {R : Ending → World → Prop} {p q : Tmp} {ty T : TypeId} {b : Nat} {cells : Array Value} {fr : Nat × Nat} (hr : fn.results = #[.cell p ty, .tmp q]) (hp : a.tmps.getD p undef = .pointer (some ⟨b, 0, none⟩)) (hd : a.defers = [])
    (hb : w.heap[b]? = some (.cells cells T fr)) {d : TypeDesc} (hu : P.underlying ty = some d) (hdr : d.isRow = true) (hi : (P.info? ty).map (·.size) = some cells.size) (h : R (.returned (.tuple #[.agg cells, a.tmps.getD q undef])) w) : bodyPost P fn R .ret a w := by
  refine bodyPost_ret ?_ hd h
  simp only [results, hr]
  have hp' : a.tmps[p]?.getD undef = .pointer (some ⟨b, 0, none⟩) := by simpa using hp
  simp [asAddr, hp', run_load_whole (P := P) hb hu hdr hi]

structure RoS (R : Rb) (n : Nat) (asn room nn ref : Int) (f : Int → Int) (W : World) : Prop where
  blk : W.heap[R.b]? = some (.cells #[.pointer (some ⟨R.bt, 0, none⟩), .int .i64 asn, .int .i64 room, .int .i64 nn, .int .i64 ref, .map (some R.bo)] 120)
  tr : Tm.TrieM W R.bt R.N n R.M
  of : OfAt W R.bo f
theorem RoS.keep {R : Rb} {n : Nat} {asn room nn ref : Int} {f : Int → Int} {W W' : World} (h : RoS R n asn room nn ref f W) (hb : Below W.heap.size W W') : RoS R n asn room nn ref f W' :=
  ⟨(hb.block _ (lt_of_blk h.blk)).trans h.blk, h.tr.below hb, h.of.on (hb.block _ h.of.lt)⟩
structure GeS (R : Rb) (n : Nat) (asn room nn ref : Int) (f : Int → Int) (q4 : Nat) (r : Int) (k : PK) (i : Int) (W : World) : Prop where
  t : RoS R n asn room nn ref f W
  k : W.heap[q4]? = some (.cells #[.int .i64 r, .int .u32 (k.1 : Int), .int .i64 k.2, .int .i64 i] 62)
theorem GeS.keep {R : Rb} {n : Nat} {asn room nn ref : Int} {f : Int → Int} {q4 : Nat} {r : Int} {k : PK} {i : Int} {W W' : World} (h : GeS R n asn room nn ref f q4 r k i W) (hb : Below W.heap.size W W') : GeS R n asn room nn ref f q4 r k i W' := ⟨h.t.keep hb, (hb.block _ (lt_of_blk h.k)).trans h.k⟩
/-- what is said of a key -/
def lookR (S : List Rt) (q : RKey) : Option Rt := Kl.look Rt.key S q
theorem look14 {G : List RtV} {r i : Int} {k : PK} : lookR (G.map RtV.rt) (r, k, i) = (Kl.look RtV.pi (atV G k) (r, i)).map RtV.rt := by
  unfold lookR Kl.look atV
  rw [List.find?_map, List.find?_filter]
  congr 1
  congr 1
  funext x
  show decide (x.key = (r, k, i)) = decide (decide (x.k = k) = true ∧ decide (x.pi = (r, i)) = true)
  rw [Bool.eq_iff_iff]
  simp only [decide_eq_true_eq, keyV_iff, piV_iff]
  constructor
  · rintro ⟨h1, h2, h3⟩; exact ⟨h2, h1, h3⟩
  · rintro ⟨h1, h2, h3⟩; exact ⟨h2, h1, h3⟩
set_option maxRecDepth 100000 in
set_option maxHeartbeats 8000000 in
theorem get14_any {w : World} {R : Rb} {X : Nat → Prop} {n : Nat} {asn room ref : Int} {G : List RtV} (H : RibAt w R X n asn room ref G) {r i : Int} {k : PK} (hk : k.1 < 4294967296 ∧ I64 k.2) (hr : I64 r) (hi : I64 i) : Calls Tryz.prog 27 #[.pointer (some ⟨R.b, 0, none⟩), .agg #[.int .i64 r, .int .u32 (k.1 : Int), .int .i64 k.2, .int .i64 i]] w fun e w' => ∃ y : AtV, e = .returned (.tuple #[y.v, .bool (lookR (G.map RtV.rt) (r, k, i)).isSome]) ∧ y.at = ((lookR (G.map RtV.rt) (r, k, i)).map Rt.a).getD atZ ∧ AtOk w' y ∧ NewA w.heap.size y ∧ Below w.heap.size w w' := by
  have hal := ((Below.refl w.heap.size w).alloc (Nat.le_refl _) (.cells #[.int .i64 r, .int .u32 (k.1 : Int), .int .i64 k.2, .int .i64 i] 62)).alloc (by simp) (.cells #[.int .i64 0, .slice none 0 0, .int .u32 0, .int .i64 0, .int .i64 0, .slice none 0 0] 40)
  have hp : ((w.alloc (.cells #[.int .i64 r, .int .u32 (k.1 : Int), .int .i64 k.2, .int .i64 i] 62)).alloc (.cells #[.int .i64 0, .slice none 0 0, .int .u32 0, .int .i64 0, .int .i64 0, .slice none 0 0] 40)).heap[w.heap.size]? = some (.cells #[.int .i64 r, .int .u32 (k.1 : Int), .int .i64 k.2, .int .i64 i] 62) := hold (hnew _ _)
  have hz : ((w.alloc (.cells #[.int .i64 r, .int .u32 (k.1 : Int), .int .i64 k.2, .int .i64 i] 62)).alloc (.cells #[.int .i64 0, .slice none 0 0, .int .u32 0, .int .i64 0, .int .i64 0, .slice none 0 0] 40)).heap[w.heap.size + 1]? = some (.cells #[.int .i64 0, .slice none 0 0, .int .u32 0, .int .i64 0, .int .i64 0, .slice none 0 0] 40) := hnewAt (by simp)
  have HM := Lib.hid (made_any14 (H.below hal))
  have hdr := (Below.refl ((w.alloc (.cells #[.int .i64 r, .int .u32 (k.1 : Int), .int .i64 k.2, .int .i64 i] 62)).alloc (.cells #[.int .i64 0, .slice none 0 0, .int .u32 0, .int .i64 0, .int .i64 0, .slice none 0 0] 40)).heap.size ((w.alloc (.cells #[.int .i64 r, .int .u32 (k.1 : Int), .int .i64 k.2, .int .i64 i] 62)).alloc (.cells #[.int .i64 0, .slice none 0 0, .int .u32 0, .int .i64 0, .int .i64 0, .slice none 0 0] 40))).drew
  have h0 : GeS R n asn room (G.length : Int) ref (cntV G) w.heap.size r k i ((w.alloc (.cells #[.int .i64 r, .int .u32 (k.1 : Int), .int .i64 k.2, .int .i64 i] 62)).alloc (.cells #[.int .i64 0, .slice none 0 0, .int .u32 0, .int .i64 0, .int .i64 0, .slice none 0 0] 40)) := ⟨⟨(hal.block _ (lt_of_blk H.blk)).trans H.blk, H.tr.below hal, H.of.on (hal.block _ H.of.lt)⟩, hp⟩
  have F1 := Lib.hid (And.intro (bcall hal (Nat.le_refl _) hdr) (And.intro (h0.keep hdr) (show ((w.alloc (.cells #[.int .i64 r, .int .u32 (k.1 : Int), .int .i64 k.2, .int .i64 i] 62)).alloc (.cells #[.int .i64 0, .slice none 0 0, .int .u32 0, .int .i64 0, .int .i64 0, .slice none 0 0] 40)).drew.heap[w.heap.size + 1]? = some (.cells #[.int .i64 0, .slice none 0 0, .int .u32 0, .int .i64 0, .int .i64 0, .slice none 0 0] 40) from hz)))
  have hgm := Tm.getM_any F1.out.2.1.t.tr k.1 k.2 hk.1
  have hqk : QN.ok (r, i) := ⟨wfI hr, wfI hi⟩
  have HH := Lib.hid (And.intro H (And.intro hk hqk))
  have HS : Hid (∀ W : World, Below w.heap.size w W → w.heap.size + 1 < ((w.alloc (.cells #[.int .i64 r, .int .u32 (k.1 : Int), .int .i64 k.2, .int .i64 i] 62)).alloc (.cells #[.int .i64 0, .slice none 0 0, .int .u32 0, .int .i64 0, .int .i64 0, .slice none 0 0] 40)).heap.size) := Lib.hid (fun W _ => by simp)
  clear hal hp hz hdr h0 H hk hqk hr hi HS
  unfold pfx at hgm
  obtain ⟨nn, hnn⟩ : ∃ z : Int, (G.length : Int) = z := ⟨_, rfl⟩
  rw [hnn] at F1
  clear hnn
  cases hM : look R.M k.1 k.2 with
  | none =>
    rw [hM] at hgm
    simp only [Option.getD_none, Option.isSome_none] at hgm
    have HGM := Lib.hid hgm
    have hln : lookR (G.map RtV.rt) (r, k, i) = none := by
      rw [look14]
      have h1 : atV G k = [] := by
        rw [List.eq_nil_iff_forall_not_mem]
        intro x hx
        obtain ⟨h1, h2⟩ := mem_atV.1 hx
        have h3 := HH.out.1.all x h1
        have h4 := (HH.out.1.okx x h1).p
        rw [h2] at h3 h4
        unfold look at hM
        rw [h4, if_pos rfl] at hM
        rw [hM] at h3
        cases h3
      rw [h1]
      rfl
    rw [hln]
    clear hM hgm hln
    go_enter Tryz.func27, Tryz.ntmps27
    go_wp2_with fail
    refine (HM.out).mono ?_
    rintro e W9 ⟨rfl, hw⟩
    have hw := hw.symm
    subst hw
    clear HM
    go_wp2_with fail
    refine wp_region_heldP (GeS R n asn room nn ref (cntV G) w.heap.size r k i) (by kernel_rfl) ?_
    generalize ((w.alloc (.cells #[.int .i64 r, .int .u32 (k.1 : Int), .int .i64 k.2, .int .i64 i] 62)).alloc (.cells #[.int .i64 0, .slice none 0 0, .int .u32 0, .int .i64 0, .int .i64 0, .slice none 0 0] 40)).drew = V at *
    refine held_reads [0, 1, 2, 3, 4, 5] (g := 6) rfl (by kernel_rfl) F1.out.2.1 (fun _ _ d _ _ h => by cases d <;> exact h) ?_
    simp only [pick, List.getD_cons_zero, List.getD_cons_succ]
    iterate 4 ((with_reducible refine wpRead_step (fun K hK => ?_)); go_simp; first | ((with_reducible refine hK _ ?_); clear hK K) | (apply Exists.intro; (with_reducible refine ⟨fun w' hw' => ?_, hK _ ?_⟩); ((have f0 : w'.cell? ⟨R.b, 0, none⟩ = _ := cell_of hw'.t.blk rfl; go_simp; first | exact rfl | exact ⟨rfl, rfl⟩)); clear hK K))
    ((with_reducible refine wpRead_step (fun K hK => ?_)); go_simp; first | ((with_reducible refine hK _ ?_); clear hK K) | (apply Exists.intro; (with_reducible refine ⟨fun w' hw' => ?_, hK _ ?_⟩); (first | exact rfl | exact ⟨rfl, rfl⟩); clear hK K))
    with_reducible refine wpRead_yes ?_ ?_
    rotate_left
    rfl
    intro K hK
    refine read_load 58 _ rfl w.heap.size 1 #[.int .u32 (k.1 : Int), .int .i64 k.2] rfl (fun w' hw' => rangeAt_block hw'.k 1 _ rfl) Tryz.underlying58 rfl (by kernel_rfl) (hK _ ?_)
    clear hK K
    with_reducible refine wpRead_nil ?_
    refine held_one 6 (by kernel_rfl) ?_
    simp only [pick, List.getD_cons_zero, List.getD_cons_succ]
    go_wp2_with fail
    refine (HGM.out).mono ?_
    rintro e W2 ⟨rfl, hb⟩
    have F2 := Lib.hid (And.intro (bcall F1.out.1 (Nat.le_refl _) hb) (And.intro (F1.out.2.1.keep hb) ((hb.block _ (lt_of_blk F1.out.2.2)).trans F1.out.2.2)))
    clear hb F1 HGM
    go_wp2_with fail
    refine ⟨F2.out.2.1, ?_⟩
    refine held_reads [7, 8, 9, 10, 11] (g := 0) rfl (by kernel_rfl) F2.out.2.1 (fun _ _ d _ _ h => by cases d <;> exact h) ?_
    simp only [pick, List.getD_cons_zero, List.getD_cons_succ]
    iterate 5 ((with_reducible refine wpRead_step (fun K hK => ?_)); go_simp; first | ((with_reducible refine hK _ ?_); clear hK K) | (apply Exists.intro; (with_reducible refine ⟨fun w' hw' => ?_, hK _ ?_⟩); (first | exact rfl | exact ⟨rfl, rfl⟩); clear hK K))
    with_reducible refine wpRead_nil ?_
    refine wpAnyH_done (by kernel_rfl) ?_ _
    have c0 := cell_of (o := 0) F2.out.2.1.k rfl
    have c1 := cell_of (o := 1) F2.out.2.1.k rfl
    have c2 := cell_of (o := 2) F2.out.2.1.k rfl
    have c3 := cell_of (o := 3) F2.out.2.1.k rfl
    have hlu := paths_nil (k := (r, i)) HH.out.2.2 W2
    go_wp2_with (with_reducible refine halt_store 40 (x := .tmp 8) rfl ?_)
    refine Halted.go ?_
    have hal := (Below.refl W2.heap.size W2).alloc (Nat.le_refl _) (.cells #[.int .i64 0, .slice none 0 0, .int .u32 0, .int .i64 0, .int .i64 0, .slice none 0 0] 40)
    refine store_whole rfl 40 _ _ rfl W2.heap.size #[.int .i64 atZV.o, .slice atZV.p.a atZV.p.n atZV.p.c, .int .u32 atZV.nx, .int .i64 atZV.md, .int .i64 atZV.pf, .slice atZV.c.a atZV.c.n atZV.c.c] rfl rfl (hnew _ _) rfl (by kernel_rfl) (by simp [Value.oneCell']) ?_
    intro W3 hwz hsz
    have hzb : Below W2.heap.size W2 W3 := Below.trans hal (hsz.below (Nat.le_refl _))
    have hb3 := bcall F2.out.1 (Nat.le_refl _) hzb
    have hbx : BxA W2.heap.size atZV W3 := hwz
    have HC := rcopyOf_any (w := W3) (x := atZV) (atZ_ok _) (⟨Nat.zero_le _, Nat.zero_le _, fun z hz => by cases hz⟩)
    unfold AtV.v at HC
    have HC := Lib.hid HC
    have F3 := Lib.hid (And.intro hb3 ((hzb.block _ (lt_of_blk F2.out.2.2)).trans F2.out.2.2))
    have HS3 := Lib.hid (Nat.lt_of_lt_of_le (lt_of_blk F2.out.2.2) hzb.size)
    clear c0 c1 c2 c3 hlu
    obtain ⟨c0, c1, c2, c3, c4, c5⟩ := hbx.cells
    clear hal hwz hsz hzb hb3 hbx F2
    go_wp2_with fail
    refine (HC.out).mono ?_
    rintro e W4 ⟨y, rfl, hy1, hy2, hy3, hb4⟩
    have hz4 := (hb4.block _ (lt_of_blk F3.out.2)).trans F3.out.2
    have F4 := Lib.hid (And.intro (bcall F3.out.1 (Nat.le_refl _) hb4) (And.intro hy1 (And.intro hy2 (And.intro hy3 F3.out.1.size))))
    clear hy1 hy2 hy3 hb4 F3 HC c0 c1 c2 c3 c4 c5
    go_wp2_with (with_reducible refine halt_store 40 (x := .tmp 4) rfl ?_)
    refine Halted.go ?_
    refine store_whole rfl 40 _ _ rfl (w.heap.size + 1) #[.int .i64 y.o, .slice y.p.a y.p.n y.p.c, .int .u32 y.nx, .int .i64 y.md, .int .i64 y.pf, .slice y.c.a y.c.n y.c.c] rfl rfl hz4 rfl (by kernel_rfl) (by simp [Value.oneCell']) ?_
    intro W5 hwz hsz
    have hgr : W4.grownBy W5 (some (w.heap.size + 1)) := ⟨hsz.os, hsz.tape, hsz.output, by rw [hsz.size]; exact Nat.le_refl _, fun j _ hne => hsz.other (fun e => hne (by rw [e]))⟩
    have hfin : Below w.heap.size w W5 ∧ AtOk W5 y ∧ NewA w.heap.size y := by
      have h1 := F4.out
      have h4 : w.heap.size ≤ W3.heap.size := h1.2.2.2.2
      have h5 : w.heap.size + 1 < W3.heap.size := HS3.out
      refine ⟨h1.1.trans (hsz.below (Nat.le_succ _)), (h1.2.1.firm (h1.2.2.1.far fun g e => by injection e with e; omega)) W5 hgr, ?_⟩
      have hn := h1.2.2.1
      exact ⟨fun hn2 a e => by have := hn.p hn2 a e; omega, fun hn2 a e => by have := hn.c hn2 a e; omega, fun z hz hn2 a e => by have := hn.s z hz hn2 a e; omega⟩
    have HF := Lib.hid (And.intro hwz (And.intro hfin F4.out.2.2.2.1))
    clear hz4 hwz hsz hgr hfin
    go_wp2_with fail
    refine ret_cell2 rfl rfl rfl HF.out.1 Tryz.underlying40 rfl (by kernel_rfl) ?_
    exact ⟨y, rfl, HF.out.2.2, HF.out.2.1.2.1, HF.out.2.1.2.2, HF.out.2.1.1⟩
  | some y0 =>
    have hkp : k = pkN k.1 k.2.toNat ∧ R.M k.1 k.2.toNat = some y0 := by
      unfold look at hM
      split at hM
      · rename_i hok
        have h1 := okP_iff.1 hok
        refine ⟨?_, hM⟩
        obtain ⟨a, l⟩ := k
        unfold pkN
        dsimp only at *
        rw [Int.toNat_of_nonneg h1.1]
      · cases hM
    obtain ⟨m, rfl, hpm, hne⟩ := HH.out.1.mp _ _ y0 hkp.2
    rw [← hkp.1] at hpm hne
    rw [hM] at hgm
    simp only [Option.getD_some, Option.isSome_some] at hgm
    have HGM := Lib.hid hgm
    have HP := Lib.hid hpm
    obtain ⟨ol, hol⟩ : ∃ o, Kl.look RtV.pi (atV G k) (r, i) = o := ⟨_, rfl⟩
    have hga : getP14 (atV G k) (r, i) = (ol.map RtV.a).getD atZV ∧ hasP14 (atV G k) (r, i) = ol.isSome := by unfold getP14 hasP14; rw [hol]; exact ⟨rfl, rfl⟩
    have hgx : ∀ W, Below w.heap.size w W → AtOk W ((ol.map RtV.a).getD atZV) ∧ SmA ((ol.map RtV.a).getD atZV) := fun W hW => by
      cases ol with
      | none => exact ⟨atZ_ok W, ⟨Nat.zero_le _, Nat.zero_le _, fun z hz => by cases hz⟩⟩
      | some x0 =>
        obtain ⟨h1, h2⟩ := Kl.look_mem hol
        have h3 := (mem_atV.1 h1).1
        exact ⟨(HH.out.1.far x0 h3).now.keep hW, HH.out.1.sm x0 h3⟩
    have hat : ((lookR (G.map RtV.rt) (r, k, i)).map Rt.a).getD atZ = ((ol.map RtV.a).getD atZV).at ∧ (lookR (G.map RtV.rt) (r, k, i)).isSome = ol.isSome := by
      rw [look14, hol]
      cases ol <;> exact ⟨rfl, rfl⟩
    rw [hat.1, hat.2]
    have HGA := Lib.hid hga
    have HGX := Lib.hid hgx
    generalize (ol.map RtV.a).getD atZV = ga at *
    generalize ol.isSome = bs at *
    clear hM hgm hpm hne hkp hol hga hgx hat
    go_enter Tryz.func27, Tryz.ntmps27
    go_wp2_with fail
    refine (HM.out).mono ?_
    rintro e W9 ⟨rfl, hw⟩
    have hw := hw.symm
    subst hw
    clear HM
    go_wp2_with fail
    refine wp_region_heldP (GeS R n asn room nn ref (cntV G) w.heap.size r k i) (by kernel_rfl) ?_
    generalize ((w.alloc (.cells #[.int .i64 r, .int .u32 (k.1 : Int), .int .i64 k.2, .int .i64 i] 62)).alloc (.cells #[.int .i64 0, .slice none 0 0, .int .u32 0, .int .i64 0, .int .i64 0, .slice none 0 0] 40)).drew = V at *
    refine held_reads [0, 1, 2, 3, 4, 5] (g := 6) rfl (by kernel_rfl) F1.out.2.1 (fun _ _ d _ _ h => by cases d <;> exact h) ?_
    simp only [pick, List.getD_cons_zero, List.getD_cons_succ]
    iterate 4 ((with_reducible refine wpRead_step (fun K hK => ?_)); go_simp; first | ((with_reducible refine hK _ ?_); clear hK K) | (apply Exists.intro; (with_reducible refine ⟨fun w' hw' => ?_, hK _ ?_⟩); ((have f0 : w'.cell? ⟨R.b, 0, none⟩ = _ := cell_of hw'.t.blk rfl; go_simp; first | exact rfl | exact ⟨rfl, rfl⟩)); clear hK K))
    ((with_reducible refine wpRead_step (fun K hK => ?_)); go_simp; first | ((with_reducible refine hK _ ?_); clear hK K) | (apply Exists.intro; (with_reducible refine ⟨fun w' hw' => ?_, hK _ ?_⟩); (first | exact rfl | exact ⟨rfl, rfl⟩); clear hK K))
    with_reducible refine wpRead_yes ?_ ?_
    rotate_left
    rfl
    intro K hK
    refine read_load 58 _ rfl w.heap.size 1 #[.int .u32 (k.1 : Int), .int .i64 k.2] rfl (fun w' hw' => rangeAt_block hw'.k 1 _ rfl) Tryz.underlying58 rfl (by kernel_rfl) (hK _ ?_)
    clear hK K
    with_reducible refine wpRead_nil ?_
    refine held_one 6 (by kernel_rfl) ?_
    simp only [pick, List.getD_cons_zero, List.getD_cons_succ]
    go_wp2_with fail
    refine (HGM.out).mono ?_
    rintro e W2 ⟨rfl, hb⟩
    have F2 := Lib.hid (And.intro (bcall F1.out.1 (Nat.le_refl _) hb) (And.intro (F1.out.2.1.keep hb) ((hb.block _ (lt_of_blk F1.out.2.2)).trans F1.out.2.2)))
    clear hb F1 HGM
    go_wp2_with fail
    refine ⟨F2.out.2.1, ?_⟩
    refine held_reads [7, 8, 9, 10, 11] (g := 0) rfl (by kernel_rfl) F2.out.2.1 (fun _ _ d _ _ h => by cases d <;> exact h) ?_
    simp only [pick, List.getD_cons_zero, List.getD_cons_succ]
    iterate 5 ((with_reducible refine wpRead_step (fun K hK => ?_)); go_simp; first | ((with_reducible refine hK _ ?_); clear hK K) | (apply Exists.intro; (with_reducible refine ⟨fun w' hw' => ?_, hK _ ?_⟩); (first | exact rfl | exact ⟨rfl, rfl⟩); clear hK K))
    with_reducible refine wpRead_nil ?_
    refine wpAnyH_done (by kernel_rfl) ?_ _
    have c0 := cell_of (o := 0) F2.out.2.1.k rfl
    have c1 := cell_of (o := 1) F2.out.2.1.k rfl
    have c2 := cell_of (o := 2) F2.out.2.1.k rfl
    have c3 := cell_of (o := 3) F2.out.2.1.k rfl
    have hlu := (show PathsAt W2 m (atV G k) from HP.out.keep F2.out.1).lookup HH.out.2.2 W2 rfl
    rw [HGA.out.1, HGA.out.2] at hlu
    go_wp2_with (with_reducible refine halt_store 40 (x := .tmp 8) rfl ?_)
    refine Halted.go ?_
    have hal := (Below.refl W2.heap.size W2).alloc (Nat.le_refl _) (.cells #[.int .i64 0, .slice none 0 0, .int .u32 0, .int .i64 0, .int .i64 0, .slice none 0 0] 40)
    refine store_whole rfl 40 _ _ rfl W2.heap.size #[.int .i64 ga.o, .slice ga.p.a ga.p.n ga.p.c, .int .u32 ga.nx, .int .i64 ga.md, .int .i64 ga.pf, .slice ga.c.a ga.c.n ga.c.c] rfl rfl (hnew _ _) rfl (by kernel_rfl) (by simp [Value.oneCell']) ?_
    intro W3 hwz hsz
    have hzb : Below W2.heap.size W2 W3 := Below.trans hal (hsz.below (Nat.le_refl _))
    have hb3 := bcall F2.out.1 (Nat.le_refl _) hzb
    have hbx : BxA W2.heap.size ga W3 := hwz
    have HC := rcopyOf_any (w := W3) (x := ga) ((HGX.out _ hb3).1) ((HGX.out _ hb3).2)
    unfold AtV.v at HC
    have HC := Lib.hid HC
    have F3 := Lib.hid (And.intro hb3 ((hzb.block _ (lt_of_blk F2.out.2.2)).trans F2.out.2.2))
    have HS3 := Lib.hid (Nat.lt_of_lt_of_le (lt_of_blk F2.out.2.2) hzb.size)
    clear c0 c1 c2 c3 hlu
    obtain ⟨c0, c1, c2, c3, c4, c5⟩ := hbx.cells
    clear hal hwz hsz hzb hb3 hbx F2
    go_wp2_with fail
    refine (HC.out).mono ?_
    rintro e W4 ⟨y, rfl, hy1, hy2, hy3, hb4⟩
    have hz4 := (hb4.block _ (lt_of_blk F3.out.2)).trans F3.out.2
    have F4 := Lib.hid (And.intro (bcall F3.out.1 (Nat.le_refl _) hb4) (And.intro hy1 (And.intro hy2 (And.intro hy3 F3.out.1.size))))
    clear hy1 hy2 hy3 hb4 F3 HC c0 c1 c2 c3 c4 c5
    go_wp2_with (with_reducible refine halt_store 40 (x := .tmp 4) rfl ?_)
    refine Halted.go ?_
    refine store_whole rfl 40 _ _ rfl (w.heap.size + 1) #[.int .i64 y.o, .slice y.p.a y.p.n y.p.c, .int .u32 y.nx, .int .i64 y.md, .int .i64 y.pf, .slice y.c.a y.c.n y.c.c] rfl rfl hz4 rfl (by kernel_rfl) (by simp [Value.oneCell']) ?_
    intro W5 hwz hsz
    have hgr : W4.grownBy W5 (some (w.heap.size + 1)) := ⟨hsz.os, hsz.tape, hsz.output, by rw [hsz.size]; exact Nat.le_refl _, fun j _ hne => hsz.other (fun e => hne (by rw [e]))⟩
    have hfin : Below w.heap.size w W5 ∧ AtOk W5 y ∧ NewA w.heap.size y := by
      have h1 := F4.out
      have h4 : w.heap.size ≤ W3.heap.size := h1.2.2.2.2
      have h5 : w.heap.size + 1 < W3.heap.size := HS3.out
      refine ⟨h1.1.trans (hsz.below (Nat.le_succ _)), (h1.2.1.firm (h1.2.2.1.far fun g e => by injection e with e; omega)) W5 hgr, ?_⟩
      have hn := h1.2.2.1
      exact ⟨fun hn2 a e => by have := hn.p hn2 a e; omega, fun hn2 a e => by have := hn.c hn2 a e; omega, fun z hz hn2 a e => by have := hn.s z hz hn2 a e; omega⟩
    have HF := Lib.hid (And.intro hwz (And.intro hfin F4.out.2.2.2.1))
    clear hz4 hwz hsz hgr hfin
    go_wp2_with fail
    refine ret_cell2 rfl rfl rfl HF.out.1 Tryz.underlying40 rfl (by kernel_rfl) ?_
    exact ⟨y, rfl, HF.out.2.2, HF.out.2.1.2.1, HF.out.2.1.2.2, HF.out.2.1.1⟩
end Go.Proofs.YtadoflcomienoaaGreat
/- Tables in the laws: what each call leaves, on a table of one prefix; Ten, Said. -/
namespace Go.Proofs.YtadoflcomienoaaGreat
open Go.RowKit
open Go.ChangeMaps (setBlock)

def saidA (asn nx : Int) : At := ⟨0, [(false, [asn])], nx, -1, -1, []⟩
set_option maxRecDepth 100000 in
theorem ten14_any (n : Int) (w : World) : Calls Tryz.prog 67 #[.int .i64 n] w fun e w' => e = .returned (.agg #[.int .i64 n, .int .u32 167772160, .int .i64 8]) ∧ Below w.heap.size w w' := by
  have hal := (Below.refl w.heap.size w).alloc (Nat.le_refl _) (.cells #[.int .i64 0, .int .u32 0, .int .i64 0] 60)
  have F := Lib.hid (And.intro hal (hnew w (.cells #[.int .i64 0, .int .u32 0, .int .i64 0] 60)))
  clear hal
  go_enter Tryz.func67, Tryz.ntmps67
  go_wp2_with (with_reducible refine halt_store 60 (x := .tmp 2) rfl ?_)
  refine Halted.go ?_
  generalize w.alloc (.cells #[.int .i64 0, .int .u32 0, .int .i64 0] 60) = W1 at *
  refine store_whole rfl 60 _ _ rfl w.heap.size #[.int .i64 n, .int .u32 167772160, .int .i64 8] rfl rfl F.out.2 rfl (by kernel_rfl) (by simp [Value.oneCell']) ?_
  intro W2 hwz hsz
  have HZ := Lib.hid (And.intro hwz (F.out.1.trans (hsz.below (Nat.le_refl _))))
  clear hwz hsz
  go_wp2_with fail
  refine ret_cell rfl rfl rfl HZ.out.1 Tryz.underlying60 rfl (by kernel_rfl) ?_
  exact ⟨rfl, HZ.out.2⟩
set_option maxRecDepth 100000 in
theorem said14_any (asn : Int) (hasn : I64 asn) (nx : Int) (hnx : 0 ≤ nx ∧ nx ≤ 4294967295) (w : World) : Calls Tryz.prog 68 #[.int .i64 asn, .int .u32 nx] w fun e w' => ∃ y : AtV, e = .returned y.v ∧ AtOk w' y ∧ NewA w.heap.size y ∧ y.at = saidA asn nx ∧ Below w.heap.size w w' := by
  have hal := (((Below.refl w.heap.size w).alloc (Nat.le_refl _) (.cells #[.int .i64 0, .slice none 0 0, .int .u32 0, .int .i64 0, .int .i64 0, .slice none 0 0] 40)).alloc (by simp) (.cells #[.int .i64 asn] 3)).alloc (by simp; omega) (.cells #[.bool false, .slice (some ⟨w.heap.size + 1, 0, none⟩) 1 1] 134)
  have h0 : (((w.alloc (.cells #[.int .i64 0, .slice none 0 0, .int .u32 0, .int .i64 0, .int .i64 0, .slice none 0 0] 40)).alloc (.cells #[.int .i64 asn] 3)).alloc (.cells #[.bool false, .slice (some ⟨w.heap.size + 1, 0, none⟩) 1 1] 134)).heap[w.heap.size]? = some (.cells #[.int .i64 0, .slice none 0 0, .int .u32 0, .int .i64 0, .int .i64 0, .slice none 0 0] 40) := hold (hold (hnew _ _))
  have h1 : (((w.alloc (.cells #[.int .i64 0, .slice none 0 0, .int .u32 0, .int .i64 0, .int .i64 0, .slice none 0 0] 40)).alloc (.cells #[.int .i64 asn] 3)).alloc (.cells #[.bool false, .slice (some ⟨w.heap.size + 1, 0, none⟩) 1 1] 134)).heap[w.heap.size + 1]? = some (.cells #[.int .i64 asn] 3) := hold (hnewAt (by simp))
  have h2 : (((w.alloc (.cells #[.int .i64 0, .slice none 0 0, .int .u32 0, .int .i64 0, .int .i64 0, .slice none 0 0] 40)).alloc (.cells #[.int .i64 asn] 3)).alloc (.cells #[.bool false, .slice (some ⟨w.heap.size + 1, 0, none⟩) 1 1] 134)).heap[w.heap.size + 2]? = some (.cells #[.bool false, .slice (some ⟨w.heap.size + 1, 0, none⟩) 1 1] 134) := hnewAt (by simp)
  have F := Lib.hid (And.intro hal (And.intro h0 (And.intro h1 (And.intro h2 (And.intro hnx hasn)))))
  clear hal h0 h1 h2 hnx hasn
  go_enter Tryz.func68, Tryz.ntmps68
  go_wp2_with (with_reducible refine halt_store 40 (x := .tmp 4) rfl ?_)
  refine Halted.go ?_
  refine store_whole rfl 40 _ _ rfl w.heap.size #[.int .i64 0, .slice (some ⟨w.heap.size + 2, 0, none⟩) 1 1, .int .u32 nx, .int .i64 (-1), .int .i64 (-1), .slice none 0 0] rfl rfl F.out.2.1 rfl (by kernel_rfl) (by simp [Value.oneCell']) ?_
  intro W2 hwz hsz
  have hy : AtOk W2 ⟨0, ⟨some ⟨w.heap.size + 2, 0, none⟩, 1, 1, [⟨false, ⟨some ⟨w.heap.size + 1, 0, none⟩, 1, 1, [asn]⟩⟩]⟩, nx, -1, -1, ⟨none, 0, 0, []⟩⟩ := by
    have g1 := (hsz.other (show w.heap.size + 1 ≠ w.heap.size by omega)).trans F.out.2.2.1
    have g2 := (hsz.other (show w.heap.size + 2 ≠ w.heap.size by omega)).trans F.out.2.2.2.1
    have s1 : SlOk RI OkI W2 ⟨some ⟨w.heap.size + 1, 0, none⟩, 1, 1, [asn]⟩ := ⟨Rep.sl_one (R := RI) (y := asn) g1, (fun h => by cases h), Nat.le_refl _, by show 1 ≤ maxLen; unfold maxLen; omega, fun n hn => by rw [List.mem_singleton] at hn; subst hn; exact F.out.2.2.2.2.2⟩
    refine ⟨⟨Rep.sl_one (R := RSg) (y := (⟨false, ⟨some ⟨w.heap.size + 1, 0, none⟩, 1, 1, [asn]⟩⟩ : SgV)) g2, (fun h => by cases h), Nat.le_refl _, by show 1 ≤ maxLen; unfold maxLen; omega, fun s hs => by rw [List.mem_singleton] at hs; subst hs; exact s1⟩, slZ, by show I64 0; unfold I64; decide, F.out.2.2.2.2.1, by show I64 (-1); unfold I64; decide, by show I64 (-1); unfold I64; decide⟩
  have hnw : NewA w.heap.size ⟨0, ⟨some ⟨w.heap.size + 2, 0, none⟩, 1, 1, [⟨false, ⟨some ⟨w.heap.size + 1, 0, none⟩, 1, 1, [asn]⟩⟩]⟩, nx, -1, -1, ⟨none, 0, 0, []⟩⟩ := ⟨(fun _ a e => by injection e with e; subst e; exact Nat.le_add_right _ _), (fun _ a e => by cases e), (fun z hz => by rw [List.mem_singleton] at hz; subst hz; exact fun _ a e => by injection e with e; subst e; exact Nat.le_add_right _ _)⟩
  have HZ := Lib.hid (And.intro hwz (And.intro (And.intro hy hnw) (F.out.1.trans (hsz.below (Nat.le_refl _)))))
  clear hwz hsz hy hnw
  go_wp2_with fail
  refine ret_cell rfl rfl rfl HZ.out.1 Tryz.underlying40 rfl (by kernel_rfl) ?_
  exact ⟨_, rfl, HZ.out.2.1.1, HZ.out.2.1.2, rfl, HZ.out.2.2⟩

theorem HoldF.and {F : Nat → Prop} {w : World} {P Q : World → Prop} (h : HoldF F w P) (k : HoldF F w Q) : HoldF F w fun W => P W ∧ Q W := fun w' h1 h2 => ⟨h w' h1 h2, k w' h1 h2⟩
/-- a table of a law: what it reads as; what else holds, whatever becomes of the table -/
def LvS (w : World) (b : Nat) (asn room : Int) (S : List Rt) (ref : Int) (P : World → Prop) (W : World) : Prop := ∃ R n G, R.b = b ∧ RibAt W R (fun _ => False) n asn room ref G ∧ G.map RtV.rt = S ∧ (∀ k, R.F k → w.heap.size ≤ k) ∧ Below w.heap.size w W ∧ HoldF R.F W P
section
variable {w W W' : World} {b : Nat} {asn room ref : Int} {S : List Rt} {P Q : World → Prop}
theorem LvS.keep (h : LvS w b asn room S ref P W) (hb : Below W.heap.size W W') : LvS w b asn room S ref P W' := by
  obtain ⟨R, n, G, h1, h2, h3, h4, h5, h6⟩ := h
  exact ⟨R, n, G, h1, h2.below hb, h3, h4, bcall h5 (Nat.le_refl _) hb, h6.below hb⟩
theorem LvS.now (h : LvS w b asn room S ref P W) : P W := by
  obtain ⟨R, n, G, h1, h2, h3, h4, h5, h6⟩ := h
  exact h6.now
theorem LvS.bw (h : LvS w b asn room S ref P W) : Below w.heap.size w W := by
  obtain ⟨R, n, G, h1, h2, h3, h4, h5, h6⟩ := h
  exact h5
theorem LvS.rok (h : LvS w b asn room S ref P W) : ROk S := by
  obtain ⟨R, n, G, h1, h2, h3, h4, h5, h6⟩ := h
  rw [← h3]; exact h2.rok
theorem lv_new (w W : World) (hw : Below w.heap.size w W) (asn room : Int) (h : (0 ≤ asn ∧ asn ≤ 4294967295) ∧ (0 ≤ room ∧ room ≤ 65536)) : Calls Tryz.prog 21 #[.int .i64 asn, .int .i64 room] W fun e w' => ∃ b, e = .returned (.tuple #[.pointer (some ⟨b, 0, none⟩), .int .i64 0]) ∧ LvS w b asn room [] 0 (fun _ => True) w' :=
  (rnew_ok W asn room h).mono fun _e _w' ⟨R, h1, h2, h3, h4⟩ => ⟨R.b, h1, R, 0, [], rfl, h2, rfl, (fun k hk => Nat.le_trans hw.size (h3 k hk)), bcall hw (Nat.le_refl _) h4, fun _ _ _ => trivial⟩
theorem lv_apply (h : LvS w b asn room S ref P W) (hb : Below W.heap.size W W') {x : UpV} (hx : UpOk W' x) (hg : NewS W.heap.size x.g ∨ LowS w.heap.size x.g) (hr : NewS W.heap.size x.r ∨ LowS w.heap.size x.r) (ha : OutA (fun k => w.heap.size ≤ k ∧ k < W.heap.size) x.a) {r : Int} (hm : mayR r x.up = true) (hn : x.g.n ≤ 3000 ∧ x.r.n ≤ 3000) (hS : S.length + x.r.n ≤ 3000000) (href : 0 ≤ ref ∧ ref + x.r.n ≤ 900000000) :
    Calls Tryz.prog 30 #[.pointer (some ⟨b, 0, none⟩), .int .i64 r, x.v] W' fun e w' => ∃ v L, e = .returned (.tuple #[v, .int .i64 0]) ∧ RPk.Own w' W'.heap.size v L ∧ Chg S (applyR asn room r x.up (S, ref)).1 L ∧ LvS w b asn room (applyR asn room r x.up (S, ref)).1 (applyR asn room r x.up (S, ref)).2 P w' := by
  obtain ⟨R, n, G, rfl, h2, h3, h4, h5, h6⟩ := h
  have hF : ∀ k, Rb.FX R (fun _ => False) k → w.heap.size ≤ k ∧ k < W.heap.size := fun k hk => hk.elim (fun h => ⟨h4 k h, h2.lt h⟩) False.elim
  have hs : ∀ {s : SlV Nl}, NewS W.heap.size s ∨ LowS w.heap.size s → 0 < s.n → ∀ a, s.a = some a → ¬ Rb.FX R (fun _ => False) a.block := fun hh hn a e hf => by
    have h1 := hF _ hf
    rcases hh with h | h
    · have := h hn a e; omega
    · have := h hn a e; omega
  have hup : HoldF (R.FX fun _ => False) W' fun W => UpOk W x := fun w' hsz he =>
    ⟨hx.g.same (fun hn a e hl => he _ hl (hs hg hn a e)) (fun _ _ h => h), hx.r.same (fun hn a e hl => he _ hl (hs hr hn a e)) (fun _ _ h => h), (hx.a.hold (F := R.FX fun _ => False) ⟨fun hn a e hf => ha.p hn a e (hF _ hf), fun hn a e hf => ha.c hn a e (hF _ hf), fun y hy hn a e hf => ha.s y hy hn a e (hF _ hf)⟩) w' hsz he⟩
  have hGl : G.length = S.length := by rw [← h3, List.length_map]
  refine (apply_any (h2.below hb) (fun k hk => hk.elim) hup hm hn (by rw [hGl]; exact hS) href).mono ?_
  rintro e w' ⟨v, L, R', n', G', ref', rfl, ho, hc, hr', hst, hb', hmv⟩
  rw [h3] at hc hst
  rw [← hst]
  refine ⟨v, L, rfl, ho, hc, R', n', G', hb', hr', rfl, fun k hk => (hmv.foot k hk).elim (h4 k) (fun h => Nat.le_trans h5.size (Nat.le_trans hb.size h)), ?_, (h6.below hb).moved hmv⟩
  exact (bcall h5 (Nat.le_refl _) hb).trans (hmv.below (Nat.le_trans h5.size hb.size) h4)
theorem lv_bad (h : LvS w b asn room S ref P W) {x : UpV} (hx : UpOk W x) {r : Int} (hm : mayR r x.up = false) : Calls Tryz.prog 30 #[.pointer (some ⟨b, 0, none⟩), .int .i64 r, x.v] W fun e w' => e = .returned (.tuple #[.slice none 0 0, .int .i64 1]) ∧ LvS w b asn room S ref P w' ∧ Below W.heap.size W w' := by
  have h0 := h
  obtain ⟨R, n, G, rfl, h2, h3, h4, h5, h6⟩ := h
  exact (apply_bad h2 hx hm).mono fun e w' ⟨h7, h8⟩ => ⟨h7, h0.keep h8, h8⟩
theorem lv_flush (h : LvS w b asn room S ref P W) (hS : S.length ≤ 3000000) (r : Int) : Calls Tryz.prog 36 #[.pointer (some ⟨b, 0, none⟩), .int .i64 r] W fun e w' => ∃ v L, e = .returned v ∧ RPk.Own w' W.heap.size v L ∧ Chg S (flushR r S) L ∧ LvS w b asn room (flushR r S) ref P w' := by
  obtain ⟨R, n, G, rfl, h2, h3, h4, h5, h6⟩ := h
  have hGl : G.length = S.length := by rw [← h3, List.length_map]
  refine (flush_any h2 (fun k hk => hk.elim) (by rw [hGl]; exact hS) r).mono ?_
  rintro e w' ⟨v, L, R', n', G', rfl, ho, hc, hr', hst, hb', hmv⟩
  rw [h3] at hc hst
  rw [hst] at hc
  exact ⟨v, L, rfl, ho, hc, R', n', G', hb', hr', hst, (fun k hk => (hmv.foot k hk).elim (h4 k) (fun h => Nat.le_trans h5.size h)), h5.trans (hmv.below h5.size h4), h6.moved hmv⟩
theorem lv_routes (h : LvS w b asn room S ref P W) (hS : S.length ≤ 4000000) {k : PK} (hk : k.1 < 4294967296 ∧ I64 k.2) : Calls Tryz.prog 32 #[.pointer (some ⟨b, 0, none⟩), pfx k.1 k.2] W fun e w' => ∃ s : SlV RtV, e = .returned (.slice s.a s.n s.c) ∧ s.l.map RtV.rt = routesR S k ∧ NewS W.heap.size s ∧ Below W.heap.size W w' ∧ LvS w b asn room S ref (fun W => P W ∧ SlOk RRt RtOk W s) w' := by
  obtain ⟨R, n, G, rfl, h2, h3, h4, h5, h6⟩ := h
  have hGl : G.length = S.length := by rw [← h3, List.length_map]
  refine (routes_any h2 hk (by rw [hGl]; exact hS)).mono ?_
  rintro e w' ⟨s, rfl, hs1, hs2, hb⟩
  rw [h3] at hs2
  exact ⟨s, rfl, hs2, hs1.new, hb, R, n, G, rfl, h2.below hb, h3, h4, bcall h5 (Nat.le_refl _) hb, (h6.below hb).and (hs1.hold fun k hk => h2.lt hk)⟩
theorem lv_get (h : LvS w b asn room S ref P W) {r i : Int} {k : PK} (hk : k.1 < 4294967296 ∧ I64 k.2) (hr : I64 r) (hi : I64 i) : Calls Tryz.prog 27 #[.pointer (some ⟨b, 0, none⟩), .agg #[.int .i64 r, .int .u32 (k.1 : Int), .int .i64 k.2, .int .i64 i]] W fun e w' => ∃ y : AtV, e = .returned (.tuple #[y.v, .bool (lookR S (r, k, i)).isSome]) ∧ y.at = ((lookR S (r, k, i)).map Rt.a).getD atZ ∧ NewA W.heap.size y ∧ Below W.heap.size W w' ∧ LvS w b asn room S ref (fun W => P W ∧ AtOk W y) w' := by
  obtain ⟨R, n, G, rfl, h2, h3, h4, h5, h6⟩ := h
  refine (get14_any h2 hk hr hi).mono ?_
  rintro e w' ⟨y, rfl, hy1, hy2, hy3, hb⟩
  rw [h3] at hy1 ⊢
  exact ⟨y, rfl, hy1, hy3, hb, R, n, G, rfl, h2.below hb, h3, h4, bcall h5 (Nat.le_refl _) hb, (h6.below hb).and (hy2.hold (hy3.out fun k hk => h2.lt hk))⟩
theorem lv_prefixes (h : LvS w b asn room S ref P W) (hS : S.length ≤ 4000000) : Calls Tryz.prog 31 #[.pointer (some ⟨b, 0, none⟩)] W fun e w' => ∃ v L, e = .returned v ∧ RPk.Own w' W.heap.size v L ∧ PfxOf S L ∧ Below W.heap.size W w' ∧ LvS w b asn room S ref P w' := by
  have h0 := h
  obtain ⟨R, n, G, rfl, h2, h3, h4, h5, h6⟩ := h
  have hGl : G.length = S.length := by rw [← h3, List.length_map]
  refine (prefixes14_any h2 (by rw [hGl]; exact hS)).mono ?_
  rintro e w' ⟨v, L, rfl, ho, hp, hb⟩
  rw [h3] at hp
  exact ⟨v, L, rfl, ho, hp, hb, h0.keep hb⟩
def cntR (S : List Rt) (r : Int) : Int := ((S.filter fun x => decide (x.r = r)).length : Nat)
theorem lv_small (h : LvS w b asn room S ref P W) : (Calls Tryz.prog 38 #[.pointer (some ⟨b, 0, none⟩)] W fun e w' => e = .returned (.int .i64 (S.length : Int)) ∧ w' = W) ∧ (Calls Tryz.prog 40 #[.pointer (some ⟨b, 0, none⟩)] W fun e w' => e = .returned (.int .i64 ref) ∧ w' = W) ∧ ∀ r, I64 r → Calls Tryz.prog 39 #[.pointer (some ⟨b, 0, none⟩), .int .i64 r] W fun e w' => e = .returned (.int .i64 (cntR S r)) ∧ w' = W := by
  obtain ⟨R, n, G, rfl, h2, h3, h4, h5, h6⟩ := h
  have hGl : G.length = S.length := by rw [← h3, List.length_map]
  refine ⟨?_, rrefused_any h2, fun r hr => ?_⟩
  · rw [← hGl]; exact rlen_any h2
  · have hc : cntR S r = cntV G r := by
      unfold cntR cntV
      rw [← h3, List.filter_map, List.length_map]
      rfl
    rw [hc]
    exact rof_any h2 hr
end
end Go.Proofs.YtadoflcomienoaaGreat
/- What the laws of chapter 14 say of tables (plain). -/
namespace Go.Proofs.YtadoflcomienoaaGreat
open Go.RowKit

theorem one_ref {room router : Int} {loop : Bool} {a : At} {s : List Rt × Int} {n : Nl} : s.2 ≤ (oneR room router loop a s n).2 ∧ (oneR room router loop a s n).2 ≤ s.2 + 1 := by
  unfold oneR
  split
  · exact ⟨Int.le_refl _, by show s.2 ≤ s.2 + 1; omega⟩
  · unfold setR
    split
    · exact ⟨Int.le_refl _, by show s.2 ≤ s.2 + 1; omega⟩
    · exact ⟨by show s.2 ≤ s.2 + 1; omega, Int.le_refl _⟩
theorem apply_ref {asn room r : Int} {u : Up} {s : List Rt × Int} : s.2 ≤ (applyR asn room r u s).2 ∧ (applyR asn room r u s).2 ≤ s.2 + u.routes.length := by
  unfold applyR comeR
  have h1 : ∀ (ns : List Nl) (s : List Rt × Int), s.2 ≤ (ns.foldl (oneR room r (hasAS u.a asn) u.a) s).2 ∧ (ns.foldl (oneR room r (hasAS u.a asn) u.a) s).2 ≤ s.2 + ns.length := by
    intro ns
    induction ns with
    | nil => intro s; exact ⟨Int.le_refl _, by simp⟩
    | cons n ns ih =>
      intro s
      have h2 := ih (oneR room r (hasAS u.a asn) u.a s n)
      have h3 := one_ref (room := room) (router := r) (loop := hasAS u.a asn) (a := u.a) (s := s) (n := n)
      rw [List.foldl_cons, List.length_cons, Int.natCast_succ]
      omega
  exact h1 u.routes (goneR r u.gone s.1, s.2)
theorem apply_len {asn room r : Int} {u : Up} {s : List Rt × Int} (h : ROk s.1) (hr : 0 ≤ r) : (applyR asn room r u s).1.length ≤ s.1.length + u.routes.length := by
  unfold applyR
  have h1 := come_len (room := room) (router := r) (loop := hasAS u.a asn) (a := u.a) (s := (goneR r u.gone s.1, s.2)) (h.gone _) hr u.routes
  have h2 : (goneR r u.gone s.1).length ≤ s.1.length := gone_len
  dsimp only at h1
  omega
theorem may_range {r : Int} {u : Up} (h : mayR r u = true) : 0 ≤ r ∧ r < 16 := by
  unfold mayR at h
  rw [Bool.and_eq_true, Bool.and_eq_true, decide_eq_true_eq, decide_eq_true_eq] at h
  exact h.1
end Go.Proofs.YtadoflcomienoaaGreat
/- Routes in the reference's order: the plain law. -/
namespace Go.Proofs.YtadoflcomienoaaGreat.Rr
open Go.RowKit

def ltR (a b : RKey) : Bool := ltK a.2.1 b.2.1 || (decide (a.2.1 = b.2.1) && (decide (a.1 < b.1) || (decide (a.1 = b.1) && decide (a.2.2 < b.2.2))))
theorem ltR_iff {a b : RKey} : ltR a b = true ↔ ltK a.2.1 b.2.1 = true ∨ (a.2.1 = b.2.1 ∧ (a.1 < b.1 ∨ (a.1 = b.1 ∧ a.2.2 < b.2.2))) := by
  unfold ltR
  simp only [Bool.or_eq_true, Bool.and_eq_true, decide_eq_true_eq]
theorem ltR_asymm (a b : RKey) (h : ltR a b = true) : ltR b a = false := by
  rw [Bool.eq_false_iff]
  intro h2
  rw [ltR_iff] at h h2
  rcases h with h | ⟨h, h3⟩ <;> rcases h2 with h2 | ⟨h2, h4⟩
  · rw [ltK_asymm _ _ h] at h2; cases h2
  · rw [h2, ltK_irr] at h; cases h
  · rw [h, ltK_irr] at h2; cases h2
  · omega
theorem ltR_trans {a b c : RKey} (h : ltR a b = true) (h2 : ltR b c = true) : ltR a c = true := by
  rw [ltR_iff] at *
  rcases h with h | ⟨h, h3⟩ <;> rcases h2 with h2 | ⟨h2, h4⟩
  · exact .inl (ltK_trans h h2)
  · exact .inl (h2 ▸ h)
  · exact .inl (h.symm ▸ h2)
  · exact .inr ⟨h.trans h2, by omega⟩
theorem ltR_irr (a : RKey) : ltR a a = false := by
  rw [Bool.eq_false_iff]; intro h; rw [ltR_iff, ltK_irr] at h
  rcases h with h | ⟨-, h⟩
  · cases h
  · omega
theorem ltR_total (a b : RKey) : ltR a b = true ∨ a = b ∨ ltR b a = true := by
  rw [ltR_iff, ltR_iff]
  rcases ltK_total a.2.1 b.2.1 with h | h | h
  · exact .inl (.inl h)
  · by_cases h1 : a.1 < b.1
    · exact .inl (.inr ⟨h, .inl h1⟩)
    · by_cases h2 : b.1 < a.1
      · exact .inr (.inr (.inr ⟨h.symm, .inl h2⟩))
      · have h3 : a.1 = b.1 := by omega
        by_cases h4 : a.2.2 < b.2.2
        · exact .inl (.inr ⟨h, .inr ⟨h3, h4⟩⟩)
        · by_cases h5 : b.2.2 < a.2.2
          · exact .inr (.inr (.inr ⟨h.symm, .inr ⟨h3.symm, h5⟩⟩))
          · exact .inr (.inl (Prod.ext h3 (Prod.ext h (by omega))))
  · exact .inr (.inr (.inl h))
def ltX (a b : RtV) : Bool := ltR a.key b.key
theorem ltX_asymm (a b : RtV) (h : ltX a b = true) : ltX b a = false := ltR_asymm _ _ h
theorem ltX_trans {a b c : RtV} (h : ltX a b = true) (h2 : ltX b c = true) : ltX a c = true := ltR_trans h h2
abbrev Ord (L : List RtV) : Prop := Kl.Ordered ltX L
theorem Ord.keys {L : List RtV} (h : Ord L) : (L.map RtV.key).Nodup := by
  rw [List.Nodup, List.pairwise_map]
  exact h.imp fun {a b} hab e => by
    unfold ltX at hab
    rw [e, ltR_irr] at hab
    cases hab
theorem Ord.filter {L : List RtV} (h : Ord L) (p : RtV → Bool) : Ord (L.filter p) := h.sublist List.filter_sublist
theorem Ord.nil : Ord [] := List.Pairwise.nil
/-- behind a one is set -/
def setO (L : List RtV) (o : RtV) : List RtV := L.filter (fun x => ltX x o) ++ o :: L.filter (fun x => ltX o x)
theorem Ord.set {L : List RtV} (h : Ord L) (o : RtV) : Ord (setO L o) := by
  unfold setO Ord Kl.Ordered
  rw [List.pairwise_append]
  refine ⟨h.filter _, List.pairwise_cons.2 ⟨fun x hx => (List.mem_filter.1 hx).2, h.filter _⟩, fun a ha b hb => ?_⟩
  have h1 := (List.mem_filter.1 ha).2
  rcases List.mem_cons.1 hb with rfl | hb
  · exact h1
  · exact ltX_trans h1 (List.mem_filter.1 hb).2
theorem mem_set {L : List RtV} {o x : RtV} : x ∈ setO L o ↔ x = o ∨ (x ∈ L ∧ x.key ≠ o.key) := by
  unfold setO
  simp only [List.mem_append, List.mem_cons, List.mem_filter]
  constructor
  · rintro (⟨h1, h2⟩ | rfl | ⟨h1, h2⟩)
    · exact .inr ⟨h1, fun e => by unfold ltX at h2; rw [e, ltR_irr] at h2; cases h2⟩
    · exact .inl rfl
    · exact .inr ⟨h1, fun e => by unfold ltX at h2; rw [e, ltR_irr] at h2; cases h2⟩
  · rintro (rfl | ⟨h1, h2⟩)
    · exact .inr (.inl rfl)
    · rcases ltR_total x.key o.key with h | h | h
      · exact .inl ⟨h1, h⟩
      · exact absurd h h2
      · exact .inr (.inr ⟨h1, h⟩)
/-- where a prefix stands, or would -/
def idxO (L : List RtV) (k : RKey) : Nat := (L.takeWhile fun x => ltR x.key k).length
def hasO (L : List RtV) (k : RKey) : Bool := (Kl.look RtV.key L k).isSome
theorem idx_le (L : List RtV) (k : RKey) : idxO L k ≤ L.length := by
  unfold idxO; exact (List.takeWhile_sublist _).length_le
theorem idx_cons (x : RtV) (L : List RtV) (k : RKey) : idxO (x :: L) k = if ltR x.key k then idxO L k + 1 else 0 := by
  unfold idxO
  rw [List.takeWhile_cons]
  split <;> rfl
theorem filter_none {L : List RtV} {x : RtV} {k : RKey} (h : ∀ y ∈ L, ltX x y = true) (hk : ltR x.key k = false) : L.filter (fun y => ltR y.key k) = [] := by
  rw [List.filter_eq_nil_iff]
  intro y hy hlt
  have := ltR_trans (h y hy) hlt
  rw [hk] at this; cases this
theorem take_idx : ∀ {L : List RtV}, Ord L → ∀ k, L.take (idxO L k) = L.filter (fun x => ltR x.key k)
  | [], _, _ => rfl
  | x :: L, h, k => by
    replace h := List.pairwise_cons.1 h
    rw [idx_cons]
    cases hx : ltR x.key k with
    | true => rw [if_pos rfl, List.take_succ_cons, take_idx h.2 k, List.filter_cons, if_pos hx]
    | false => rw [if_neg (by simp), List.take_zero, List.filter_cons, if_neg (by rw [hx]; simp), filter_none h.1 hx]
theorem drop_idx : ∀ {L : List RtV}, Ord L → ∀ k, L.drop (idxO L k) = L.filter (fun x => !ltR x.key k)
  | [], _, _ => rfl
  | x :: L, h, k => by
    replace h := List.pairwise_cons.1 h
    rw [idx_cons]
    cases hx : ltR x.key k with
    | true => rw [if_pos rfl, List.drop_succ_cons, drop_idx h.2 k, List.filter_cons, if_neg (by rw [hx]; simp)]
    | false =>
      rw [if_neg (by simp), List.drop_zero, List.filter_cons, if_pos (by rw [hx]; rfl)]
      congr 1
      symm
      rw [List.filter_eq_self]
      intro y hy
      cases hy2 : ltR y.key k with
      | false => rfl
      | true =>
        have := ltR_trans (h.1 y hy) hy2
        rw [hx] at this; cases this
/-- the one at the place, if there is one of the prefix -/
theorem at_idx {L : List RtV} (h : Ord L) (k : RKey) : (idxO L k < L.length ∧ (L.getD (idxO L k) default).key = k ∧ Kl.look RtV.key L k = some (L.getD (idxO L k) default) ∧ L.drop (idxO L k + 1) = L.filter (fun x => ltR k x.key)) ∨
    ((∀ _hi : idxO L k < L.length, (L.getD (idxO L k) default).key ≠ k) ∧ Kl.look RtV.key L k = none ∧ L.drop (idxO L k) = L.filter (fun x => ltR k x.key)) := by
  have hd := drop_idx h k
  have hlen := idx_le L k
  rcases Nat.lt_or_ge (idxO L k) L.length with hi | hi
  · have hc : L.drop (idxO L k) = L.getD (idxO L k) default :: L.drop (idxO L k + 1) := by
      rw [List.drop_eq_getElem_cons hi]
      simp [List.getD_eq_getElem?_getD, hi]
    have ho : Ord (L.drop (idxO L k)) := h.sublist (List.drop_sublist _ _)
    have hmem : L.getD (idxO L k) default ∈ L := getD_mem hi
    rw [hc] at ho
    replace ho := List.pairwise_cons.1 ho
    have hnl : ltR (L.getD (idxO L k) default).key k = false := by
      have : L.getD (idxO L k) default ∈ L.filter (fun x => !ltR x.key k) := by rw [← hd, hc]; simp
      simpa using (List.mem_filter.1 this).2
    by_cases he : (L.getD (idxO L k) default).key = k
    · left
      refine ⟨hi, he, (Kl.look_some h.keys).2 ⟨hmem, he⟩, ?_⟩
      have h1 : L.filter (fun x => ltR k x.key) = (L.drop (idxO L k)).filter (fun x => ltR k x.key) := by
        rw [hd, List.filter_filter]
        refine List.filter_congr fun x _ => ?_
        cases hx : ltR k x.key with
        | false => simp
        | true => rw [ltR_asymm _ _ hx]; rfl
      rw [h1, hc, List.filter_cons, if_neg (by rw [he, ltR_irr]; simp)]
      symm
      rw [List.filter_eq_self]
      intro y hy
      have := ho.1 y hy
      unfold ltX at this
      rw [he] at this
      exact this
    · right
      have hgt : ltR k (L.getD (idxO L k) default).key = true := by
        rcases ltR_total (L.getD (idxO L k) default).key k with h1 | h1 | h1
        · rw [hnl] at h1; cases h1
        · exact absurd h1 he
        · exact h1
      have hall : ∀ y ∈ L.drop (idxO L k), ltR k y.key = true := by
        rw [hc]
        intro y hy
        rcases List.mem_cons.1 hy with rfl | hy
        · exact hgt
        · exact ltR_trans hgt (ho.1 y hy)
      have hf : L.drop (idxO L k) = L.filter (fun x => ltR k x.key) := by
        rw [hd]
        refine List.filter_congr fun x hx => ?_
        cases h1 : ltR x.key k with
        | true => rw [ltR_asymm _ _ h1]; rfl
        | false =>
          have : x ∈ L.drop (idxO L k) := by rw [hd]; exact List.mem_filter.2 ⟨hx, by rw [h1]; rfl⟩
          rw [hall x this]; rfl
      refine ⟨fun _ => he, Kl.look_no fun x hx hk => ?_, hf⟩
      have : x ∈ L.drop (idxO L k) := by rw [hd]; exact List.mem_filter.2 ⟨hx, by rw [hk, ltR_irr]; rfl⟩
      have := hall x this
      rw [hk, ltR_irr] at this
      cases this
  · right
    have hd0 : L.drop (idxO L k) = [] := List.drop_eq_nil_of_le hi
    rw [hd0] at hd
    have hall : ∀ x ∈ L, ltR x.key k = true := by
      intro x hx
      have := List.filter_eq_nil_iff.1 hd.symm x hx
      simpa using this
    refine ⟨fun hi' => absurd hi' (by omega), Kl.look_no fun x hx hk => ?_, ?_⟩
    · have := hall x hx
      rw [hk, ltR_irr] at this; cases this
    · rw [hd0]
      symm
      rw [List.filter_eq_nil_iff]
      intro x hx
      rw [ltR_asymm _ _ (hall x hx)]
      simp
theorem set_ref {L : List RtV} (h : Ord L) (o : RtV) : L.take (idxO L o.key) ++ [o] ++ L.drop (idxO L o.key + if hasO L o.key then 1 else 0) = setO L o := by
  unfold setO hasO
  rw [take_idx h]
  rcases at_idx h o.key with ⟨-, -, h3, h4⟩ | ⟨-, h2, h3⟩
  · rw [h3, Option.isSome_some, if_pos rfl, h4]; simp [ltX]
  · rw [h2, Option.isSome_none, if_neg (by simp), Nat.add_zero, h3]; simp [ltX]
theorem del_ref {L : List RtV} (h : Ord L) {k : RKey} (hk : hasO L k = true) : L.take (idxO L k) ++ L.drop (idxO L k + 1) = L.filter (fun x => decide (x.key ≠ k)) := by
  rw [take_idx h]
  rcases at_idx h k with ⟨-, -, -, h4⟩ | ⟨-, h2, -⟩
  · rw [h4]
    have ho : Ord (L.filter (fun x => ltR x.key k) ++ L.filter (fun x => ltR k x.key)) := by
      unfold Ord Kl.Ordered
      rw [List.pairwise_append]
      exact ⟨h.filter _, h.filter _, fun a ha b hb => ltR_trans (List.mem_filter.1 ha).2 (List.mem_filter.1 hb).2⟩
    refine Kl.ordered_eq ltX_asymm ho (h.filter _) ?_
    rw [List.perm_ext_iff_of_nodup (MR.nodup_of_map ho.keys) (MR.nodup_of_map (h.filter _).keys)]
    intro x
    simp only [List.mem_append, List.mem_filter, decide_eq_true_eq]
    constructor
    · rintro (⟨h1, h2⟩ | ⟨h1, h2⟩)
      · exact ⟨h1, fun e => by rw [e, ltR_irr] at h2; cases h2⟩
      · exact ⟨h1, fun e => by rw [e, ltR_irr] at h2; cases h2⟩
    · rintro ⟨h1, h2⟩
      rcases ltR_total x.key k with h | h | h
      · exact .inl ⟨h1, h⟩
      · exact absurd h h2
      · exact .inr ⟨h1, h⟩
  · unfold hasO at hk; rw [h2] at hk; cases hk
theorem del_none {L : List RtV} {k : RKey} (hk : hasO L k = false) : L.filter (fun x => decide (x.key ≠ k)) = L := by
  unfold hasO at hk
  rw [List.filter_eq_self]
  intro x hx
  have : Kl.look RtV.key L k = none := by
    cases hl : Kl.look RtV.key L k with
    | none => rfl
    | some _ => rw [hl] at hk; cases hk
  simpa using Kl.look_none this hx
theorem idx_lt : ∀ {L : List RtV} {k : RKey} {i : Nat}, i < idxO L k → ltR (L.getD i default).key k = true
  | [], _, _, h => absurd h (Nat.not_lt_zero _)
  | x :: L, k, i, h => by
    rw [idx_cons] at h
    cases hx : ltR x.key k with
    | false => rw [hx] at h; simp at h
    | true =>
      rw [hx, if_pos rfl] at h
      cases i with
      | zero => exact hx
      | succ i => exact idx_lt (L := L) (by omega)
theorem idx_stop : ∀ {L : List RtV} {k : RKey}, idxO L k < L.length → ltR (L.getD (idxO L k) default).key k = false
  | [], _, h => absurd h (Nat.not_lt_zero _)
  | x :: L, k, h => by
    rw [idx_cons] at h ⊢
    cases hx : ltR x.key k with
    | false => rw [if_neg (by simp)]; exact hx
    | true => rw [hx, if_pos rfl] at h; rw [if_pos rfl]; exact idx_stop (L := L) (by simpa using h)
theorem has_at {L : List RtV} (h : Ord L) (k : RKey) : hasO L k = (decide (idxO L k < L.length) && decide ((L.getD (idxO L k) default).key = k)) := by
  unfold hasO
  rcases at_idx h k with ⟨h1, h2, h3, -⟩ | ⟨h1, h2, -⟩
  · rw [h3, decide_eq_true h1, decide_eq_true h2]; rfl
  · rw [h2]
    by_cases hi : idxO L k < L.length
    · rw [decide_eq_true hi, decide_eq_false (h1 hi)]; rfl
    · rw [decide_eq_false hi]; rfl

/-- the reference's list and a table say the same -/
structure RefOk (L : List RtV) (S : List Rt) : Prop where
  ord : Ord L
  mem : ∀ z, z ∈ L.map RtV.rt ↔ z ∈ S
theorem Ord.nd {L : List RtV} (h : Ord L) : ((L.map RtV.rt).map Rt.key).Nodup := by
  have := h.keys
  rwa [List.map_map]
theorem RefOk.perm {L : List RtV} {S : List Rt} (h : RefOk L S) (hS : ROk S) : (L.map RtV.rt).Perm S := by
  rw [List.perm_ext_iff_of_nodup (MR.nodup_of_map h.ord.nd) (MR.nodup_of_map hS.nd)]
  exact h.mem
theorem RefOk.len {L : List RtV} {S : List Rt} (h : RefOk L S) (hS : ROk S) : L.length = S.length := by
  have := (h.perm hS).length_eq
  rwa [List.length_map] at this
theorem has_iff {L : List RtV} (h : Ord L) (k : RKey) : hasO L k = true ↔ ∃ x ∈ L, x.key = k := by
  unfold hasO
  rw [Option.isSome_iff_exists]
  constructor
  · rintro ⟨x, hx⟩; exact ⟨x, Kl.look_mem hx⟩
  · rintro ⟨x, h1, h2⟩; exact ⟨x, (Kl.look_some h.keys).2 ⟨h1, h2⟩⟩
theorem at_has {L : List RtV} (h : Ord L) {k : RKey} (hk : hasO L k = true) : idxO L k < L.length := by
  unfold hasO at hk
  rcases at_idx h k with ⟨h1, -⟩ | ⟨-, h2, -⟩
  · exact h1
  · rw [h2] at hk; cases hk
theorem RefOk.has {L : List RtV} {S : List Rt} (h : RefOk L S) (k : RKey) : hasO L k = hasR S k := by
  rw [Bool.eq_iff_iff, has_iff h.ord, hasR_iff]
  constructor
  · rintro ⟨x, h1, h2⟩; exact ⟨x.rt, (h.mem _).1 (List.mem_map.2 ⟨x, h1, rfl⟩), h2⟩
  · rintro ⟨z, h1, h2⟩
    obtain ⟨x, h3, rfl⟩ := List.mem_map.1 ((h.mem _).2 h1)
    exact ⟨x, h3, h2⟩
theorem RefOk.drop {L : List RtV} {S : List Rt} (h : RefOk L S) (k : RKey) : RefOk (L.filter fun x => decide (x.key ≠ k)) (dropR S k) := by
  refine ⟨h.ord.filter _, fun z => ?_⟩
  rw [mem_dropR, ← h.mem]
  simp only [List.mem_map, List.mem_filter, decide_eq_true_eq]
  constructor
  · rintro ⟨x, ⟨h1, h2⟩, rfl⟩; exact ⟨⟨x, h1, rfl⟩, h2⟩
  · rintro ⟨⟨x, h1, rfl⟩, h2⟩; exact ⟨x, ⟨h1, h2⟩, rfl⟩
theorem RefOk.put {L : List RtV} {S : List Rt} (h : RefOk L S) (o : RtV) : RefOk (setO L o) (dropR S o.key ++ [o.rt]) := by
  refine ⟨h.ord.set o, fun z => ?_⟩
  rw [List.mem_append, List.mem_singleton, mem_dropR, ← h.mem]
  simp only [List.mem_map, mem_set]
  constructor
  · rintro ⟨x, rfl | ⟨h1, h2⟩, rfl⟩
    · exact .inr rfl
    · exact .inl ⟨⟨x, h1, rfl⟩, h2⟩
  · rintro (⟨⟨x, h1, rfl⟩, h2⟩ | rfl)
    · exact ⟨x, .inr ⟨h1, h2⟩, rfl⟩
    · exact ⟨o, .inl rfl, rfl⟩
theorem RefOk.flush {L : List RtV} {S : List Rt} (h : RefOk L S) (r : Int) : RefOk (L.filter fun x => decide (x.r ≠ r)) (flushR r S) := by
  refine ⟨h.ord.filter _, fun z => ?_⟩
  unfold flushR
  rw [List.mem_filter, ← h.mem]
  simp only [List.mem_map, List.mem_filter, decide_eq_true_eq]
  constructor
  · rintro ⟨x, ⟨h1, h2⟩, rfl⟩; exact ⟨⟨x, h1, rfl⟩, h2⟩
  · rintro ⟨⟨x, h1, rfl⟩, h2⟩; exact ⟨x, ⟨h1, h2⟩, rfl⟩
theorem RefOk.nil : RefOk [] [] := ⟨Ord.nil, fun _ => Iff.rfl⟩
/-- routes of a prefix: as they stand -/
theorem RefOk.routes {L : List RtV} {S : List Rt} (h : RefOk L S) (hS : ROk S) (k : PK) : (L.filter fun x => decide (x.k = k)).map RtV.rt = routesR S k := by
  unfold routesR
  refine sortK_is (hS.rky k) ?_ ?_
  · have h1 := h.ord.filter fun x => decide (x.k = k)
    unfold Kl.Ordered at h1 ⊢
    rw [List.pairwise_map]
    refine List.Pairwise.imp_of_mem (fun {x y} hx hy hxy => ?_) h1
    have h2 := (List.mem_filter.1 hx).2
    have h3 := (List.mem_filter.1 hy).2
    rw [decide_eq_true_eq] at h2 h3
    unfold ltX at hxy
    rw [ltR_iff] at hxy
    unfold RtV.key at hxy
    dsimp only at hxy
    rw [h2, h3, ltK_irr] at hxy
    have h4 := hS.r _ ((h.mem _).1 (List.mem_map.2 ⟨x, (List.mem_filter.1 hx).1, rfl⟩))
    have h5 := hS.r _ ((h.mem _).1 (List.mem_map.2 ⟨y, (List.mem_filter.1 hy).1, rfl⟩))
    have h6 : x.rt.r = x.r := rfl
    have h7 : y.rt.r = y.r := rfl
    have h8 : x.rt.i = x.i := rfl
    have h9 : y.rt.i = y.i := rfl
    unfold ltB
    rw [ltK_iff]
    unfold rky
    dsimp only
    rcases hxy with h | ⟨-, h⟩
    · cases h
    · omega
  · unfold atP
    have h1 := (h.perm hS).filter fun x => decide (x.k = k)
    rw [List.filter_map] at h1
    exact h1
end Go.Proofs.YtadoflcomienoaaGreat.Rr
