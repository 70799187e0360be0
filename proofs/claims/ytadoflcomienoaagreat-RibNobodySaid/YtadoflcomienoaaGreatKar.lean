/- Get; Prefixes; what nobody's table tells. -/
import Derived.Test.YtadoflcomienoaaGreatKao
import Derived.Test.YtadoflcomienoaaGreatKaq
import Derived.Test.YtadoflcomienoaaGreatKac
import Derived.Test.YtadoflcomienoaaGreatProg
namespace Go.Proofs.YtadoflcomienoaaGreat
open Go.RowKit
open Go.ChangeMaps (setBlock)

theorem ret_cell2 {P : Program} {a : Act} {w : World} {fn : Func} {R : Ending → World → Prop} {p q : Tmp} {ty T : TypeId} {b : Nat} {cells : Array Value} {fr : Nat × Nat} (hr : fn.results = #[.cell p ty, .tmp q]) (hp : a.tmps.getD p undef = .pointer (some ⟨b, 0, none⟩)) (hd : a.defers = [])
    (hb : w.heap[b]? = some (.cells cells T fr)) {d : TypeDesc} (hu : P.underlying ty = some d) (hdr : d.isRow = true) (hi : (P.info? ty).map (·.size) = some cells.size) (h : R (.returned (.tuple #[.agg cells, a.tmps.getD q undef])) w) : bodyPost P fn R .ret a w := by
  refine bodyPost_ret ?_ hd h
  simp only [results, hr]
  have hp' : a.tmps[p]?.getD undef = .pointer (some ⟨b, 0, none⟩) := by simpa using hp
  simp [asAddr, hp', run_load_whole (P := P) hb hu hdr hi]

structure RoS (R : Rb) (n : Nat) (asn room nn ref : Int) (f : Int → Int) (W : World) : Prop where
  blk : W.heap[R.b]? = some (.cells #[.pointer (some ⟨R.bt, 0, none⟩), .int .i64 asn, .int .i64 room, .int .i64 nn, .int .i64 ref, .map (some R.bo)] 120)
  tr : Tm.TrieM W R.bt R.N n R.M
  of : OfAt W R.bo f
theorem RoS.keep {R : Rb} {n : Nat} {asn room nn ref : Int} {f : Int → Int} {W W' : World} (h : RoS R n asn room nn ref f W) (hb : Below W.heap.size W W') : RoS R n asn room nn ref f W' :=
  ⟨(hb.block _ (lt_of_blk h.blk)).trans h.blk, h.tr.below hb, h.of.on (hb.block _ h.of.lt)⟩
structure GeS (R : Rb) (n : Nat) (asn room nn ref : Int) (f : Int → Int) (q4 : Nat) (r : Int) (k : PK) (i : Int) (W : World) : Prop where
  t : RoS R n asn room nn ref f W
  k : W.heap[q4]? = some (.cells #[.int .i64 r, .int .u32 (k.1 : Int), .int .i64 k.2, .int .i64 i] 62)
theorem GeS.keep {R : Rb} {n : Nat} {asn room nn ref : Int} {f : Int → Int} {q4 : Nat} {r : Int} {k : PK} {i : Int} {W W' : World} (h : GeS R n asn room nn ref f q4 r k i W) (hb : Below W.heap.size W W') : GeS R n asn room nn ref f q4 r k i W' := ⟨h.t.keep hb, (hb.block _ (lt_of_blk h.k)).trans h.k⟩
/-- what is said of a key -/
def lookR (S : List Rt) (q : RKey) : Option Rt := Kl.look Rt.key S q
theorem look14 {G : List RtV} {r i : Int} {k : PK} : lookR (G.map RtV.rt) (r, k, i) = (Kl.look RtV.pi (atV G k) (r, i)).map RtV.rt := by
  unfold lookR Kl.look atV
  rw [List.find?_map, List.find?_filter]
  congr 1
  congr 1
  funext x
  show decide (x.key = (r, k, i)) = decide (decide (x.k = k) = true ∧ decide (x.pi = (r, i)) = true)
  rw [Bool.eq_iff_iff]
  simp only [decide_eq_true_eq, keyV_iff, piV_iff]
  constructor
  · rintro ⟨h1, h2, h3⟩; exact ⟨h2, h1, h3⟩
  · rintro ⟨h1, h2, h3⟩; exact ⟨h2, h1, h3⟩
set_option maxRecDepth 100000 in
set_option maxHeartbeats 8000000 in
theorem get14_any {w : World} {R : Rb} {X : Nat → Prop} {n : Nat} {asn room ref : Int} {G : List RtV} (H : RibAt w R X n asn room ref G) {r i : Int} {k : PK} (hk : k.1 < 4294967296 ∧ I64 k.2) (hr : I64 r) (hi : I64 i) : Calls Tryz.prog 27 #[.pointer (some ⟨R.b, 0, none⟩), .agg #[.int .i64 r, .int .u32 (k.1 : Int), .int .i64 k.2, .int .i64 i]] w fun e w' => ∃ y : AtV, e = .returned (.tuple #[y.v, .bool (lookR (G.map RtV.rt) (r, k, i)).isSome]) ∧ y.at = ((lookR (G.map RtV.rt) (r, k, i)).map Rt.a).getD atZ ∧ AtOk w' y ∧ NewA w.heap.size y ∧ Below w.heap.size w w' := by
  have hal := ((Below.refl w.heap.size w).alloc (Nat.le_refl _) (.cells #[.int .i64 r, .int .u32 (k.1 : Int), .int .i64 k.2, .int .i64 i] 62)).alloc (by simp) (.cells #[.int .i64 0, .slice none 0 0, .int .u32 0, .int .i64 0, .int .i64 0, .slice none 0 0] 40)
  have hp : ((w.alloc (.cells #[.int .i64 r, .int .u32 (k.1 : Int), .int .i64 k.2, .int .i64 i] 62)).alloc (.cells #[.int .i64 0, .slice none 0 0, .int .u32 0, .int .i64 0, .int .i64 0, .slice none 0 0] 40)).heap[w.heap.size]? = some (.cells #[.int .i64 r, .int .u32 (k.1 : Int), .int .i64 k.2, .int .i64 i] 62) := hold (hnew _ _)
  have hz : ((w.alloc (.cells #[.int .i64 r, .int .u32 (k.1 : Int), .int .i64 k.2, .int .i64 i] 62)).alloc (.cells #[.int .i64 0, .slice none 0 0, .int .u32 0, .int .i64 0, .int .i64 0, .slice none 0 0] 40)).heap[w.heap.size + 1]? = some (.cells #[.int .i64 0, .slice none 0 0, .int .u32 0, .int .i64 0, .int .i64 0, .slice none 0 0] 40) := hnewAt (by simp)
  have HM := Lib.hid (made_any14 (H.below hal))
  have hdr := (Below.refl ((w.alloc (.cells #[.int .i64 r, .int .u32 (k.1 : Int), .int .i64 k.2, .int .i64 i] 62)).alloc (.cells #[.int .i64 0, .slice none 0 0, .int .u32 0, .int .i64 0, .int .i64 0, .slice none 0 0] 40)).heap.size ((w.alloc (.cells #[.int .i64 r, .int .u32 (k.1 : Int), .int .i64 k.2, .int .i64 i] 62)).alloc (.cells #[.int .i64 0, .slice none 0 0, .int .u32 0, .int .i64 0, .int .i64 0, .slice none 0 0] 40))).drew
  have h0 : GeS R n asn room (G.length : Int) ref (cntV G) w.heap.size r k i ((w.alloc (.cells #[.int .i64 r, .int .u32 (k.1 : Int), .int .i64 k.2, .int .i64 i] 62)).alloc (.cells #[.int .i64 0, .slice none 0 0, .int .u32 0, .int .i64 0, .int .i64 0, .slice none 0 0] 40)) := ⟨⟨(hal.block _ (lt_of_blk H.blk)).trans H.blk, H.tr.below hal, H.of.on (hal.block _ H.of.lt)⟩, hp⟩
  have F1 := Lib.hid (And.intro (bcall hal (Nat.le_refl _) hdr) (And.intro (h0.keep hdr) (show ((w.alloc (.cells #[.int .i64 r, .int .u32 (k.1 : Int), .int .i64 k.2, .int .i64 i] 62)).alloc (.cells #[.int .i64 0, .slice none 0 0, .int .u32 0, .int .i64 0, .int .i64 0, .slice none 0 0] 40)).drew.heap[w.heap.size + 1]? = some (.cells #[.int .i64 0, .slice none 0 0, .int .u32 0, .int .i64 0, .int .i64 0, .slice none 0 0] 40) from hz)))
  have hgm := Tm.getM_any F1.out.2.1.t.tr k.1 k.2 hk.1
  have hqk : QN.ok (r, i) := ⟨wfI hr, wfI hi⟩
  have HH := Lib.hid (And.intro H (And.intro hk hqk))
  have HS : Hid (∀ W : World, Below w.heap.size w W → w.heap.size + 1 < ((w.alloc (.cells #[.int .i64 r, .int .u32 (k.1 : Int), .int .i64 k.2, .int .i64 i] 62)).alloc (.cells #[.int .i64 0, .slice none 0 0, .int .u32 0, .int .i64 0, .int .i64 0, .slice none 0 0] 40)).heap.size) := Lib.hid (fun W _ => by simp)
  clear hal hp hz hdr h0 H hk hqk hr hi HS
  unfold pfx at hgm
  obtain ⟨nn, hnn⟩ : ∃ z : Int, (G.length : Int) = z := ⟨_, rfl⟩
  rw [hnn] at F1
  clear hnn
  cases hM : look R.M k.1 k.2 with
  | none =>
    rw [hM] at hgm
    simp only [Option.getD_none, Option.isSome_none] at hgm
    have HGM := Lib.hid hgm
    have hln : lookR (G.map RtV.rt) (r, k, i) = none := by
      rw [look14]
      have h1 : atV G k = [] := by
        rw [List.eq_nil_iff_forall_not_mem]
        intro x hx
        obtain ⟨h1, h2⟩ := mem_atV.1 hx
        have h3 := HH.out.1.all x h1
        have h4 := (HH.out.1.okx x h1).p
        rw [h2] at h3 h4
        unfold look at hM
        rw [h4, if_pos rfl] at hM
        rw [hM] at h3
        cases h3
      rw [h1]
      rfl
    rw [hln]
    clear hM hgm hln
    go_enter Tryz.func27, Tryz.ntmps27
    go_wp2_with fail
    refine (HM.out).mono ?_
    rintro e W9 ⟨rfl, hw⟩
    have hw := hw.symm
    subst hw
    clear HM
    go_wp2_with fail
    refine wp_region_heldP (GeS R n asn room nn ref (cntV G) w.heap.size r k i) (by kernel_rfl) ?_
    generalize ((w.alloc (.cells #[.int .i64 r, .int .u32 (k.1 : Int), .int .i64 k.2, .int .i64 i] 62)).alloc (.cells #[.int .i64 0, .slice none 0 0, .int .u32 0, .int .i64 0, .int .i64 0, .slice none 0 0] 40)).drew = V at *
    refine held_reads [0, 1, 2, 3, 4, 5] (g := 6) rfl (by kernel_rfl) F1.out.2.1 (fun _ _ d _ _ h => by cases d <;> exact h) ?_
    simp only [pick, List.getD_cons_zero, List.getD_cons_succ]
    ((with_reducible refine wpRead_step (fun K hK => ?_)); go_simp; first | ((with_reducible refine hK _ ?_); clear hK K) | (apply Exists.intro; (with_reducible refine ⟨fun w' hw' => ?_, hK _ ?_⟩); ((have f0 : w'.cell? ⟨R.b, 0, none⟩ = _ := cell_of hw'.t.blk rfl; go_simp; first | exact rfl | exact ⟨rfl, rfl⟩)); clear hK K))
    ((with_reducible refine wpRead_step (fun K hK => ?_)); go_simp; first | ((with_reducible refine hK _ ?_); clear hK K) | (apply Exists.intro; (with_reducible refine ⟨fun w' hw' => ?_, hK _ ?_⟩); ((have f0 : w'.cell? ⟨R.b, 0, none⟩ = _ := cell_of hw'.t.blk rfl; go_simp; first | exact rfl | exact ⟨rfl, rfl⟩)); clear hK K))
    ((with_reducible refine wpRead_step (fun K hK => ?_)); go_simp; first | ((with_reducible refine hK _ ?_); clear hK K) | (apply Exists.intro; (with_reducible refine ⟨fun w' hw' => ?_, hK _ ?_⟩); ((have f0 : w'.cell? ⟨R.b, 0, none⟩ = _ := cell_of hw'.t.blk rfl; go_simp; first | exact rfl | exact ⟨rfl, rfl⟩)); clear hK K))
    ((with_reducible refine wpRead_step (fun K hK => ?_)); go_simp; first | ((with_reducible refine hK _ ?_); clear hK K) | (apply Exists.intro; (with_reducible refine ⟨fun w' hw' => ?_, hK _ ?_⟩); ((have f0 : w'.cell? ⟨R.b, 0, none⟩ = _ := cell_of hw'.t.blk rfl; go_simp; first | exact rfl | exact ⟨rfl, rfl⟩)); clear hK K))
    ((with_reducible refine wpRead_step (fun K hK => ?_)); go_simp; first | ((with_reducible refine hK _ ?_); clear hK K) | (apply Exists.intro; (with_reducible refine ⟨fun w' hw' => ?_, hK _ ?_⟩); (first | exact rfl | exact ⟨rfl, rfl⟩); clear hK K))
    with_reducible refine wpRead_yes ?_ ?_
    rotate_left
    rfl
    intro K hK
    refine read_load 58 _ rfl w.heap.size 1 #[.int .u32 (k.1 : Int), .int .i64 k.2] rfl (fun w' hw' => rangeAt_block hw'.k 1 _ rfl) Tryz.underlying58 rfl (by kernel_rfl) (hK _ ?_)
    clear hK K
    with_reducible refine wpRead_nil ?_
    refine held_one 6 (by kernel_rfl) ?_
    simp only [pick, List.getD_cons_zero, List.getD_cons_succ]
    go_wp2_with fail
    refine (HGM.out).mono ?_
    rintro e W2 ⟨rfl, hb⟩
    have F2 := Lib.hid (And.intro (bcall F1.out.1 (Nat.le_refl _) hb) (And.intro (F1.out.2.1.keep hb) ((hb.block _ (lt_of_blk F1.out.2.2)).trans F1.out.2.2)))
    clear hb F1 HGM
    go_wp2_with fail
    refine ⟨F2.out.2.1, ?_⟩
    refine held_reads [7, 8, 9, 10, 11] (g := 0) rfl (by kernel_rfl) F2.out.2.1 (fun _ _ d _ _ h => by cases d <;> exact h) ?_
    simp only [pick, List.getD_cons_zero, List.getD_cons_succ]
    ((with_reducible refine wpRead_step (fun K hK => ?_)); go_simp; first | ((with_reducible refine hK _ ?_); clear hK K) | (apply Exists.intro; (with_reducible refine ⟨fun w' hw' => ?_, hK _ ?_⟩); (first | exact rfl | exact ⟨rfl, rfl⟩); clear hK K))
    ((with_reducible refine wpRead_step (fun K hK => ?_)); go_simp; first | ((with_reducible refine hK _ ?_); clear hK K) | (apply Exists.intro; (with_reducible refine ⟨fun w' hw' => ?_, hK _ ?_⟩); (first | exact rfl | exact ⟨rfl, rfl⟩); clear hK K))
    ((with_reducible refine wpRead_step (fun K hK => ?_)); go_simp; first | ((with_reducible refine hK _ ?_); clear hK K) | (apply Exists.intro; (with_reducible refine ⟨fun w' hw' => ?_, hK _ ?_⟩); (first | exact rfl | exact ⟨rfl, rfl⟩); clear hK K))
    ((with_reducible refine wpRead_step (fun K hK => ?_)); go_simp; first | ((with_reducible refine hK _ ?_); clear hK K) | (apply Exists.intro; (with_reducible refine ⟨fun w' hw' => ?_, hK _ ?_⟩); (first | exact rfl | exact ⟨rfl, rfl⟩); clear hK K))
    ((with_reducible refine wpRead_step (fun K hK => ?_)); go_simp; first | ((with_reducible refine hK _ ?_); clear hK K) | (apply Exists.intro; (with_reducible refine ⟨fun w' hw' => ?_, hK _ ?_⟩); (first | exact rfl | exact ⟨rfl, rfl⟩); clear hK K))
    with_reducible refine wpRead_nil ?_
    refine wpAnyH_done (by kernel_rfl) ?_ _
    have c0 := cell_of (o := 0) F2.out.2.1.k rfl
    have c1 := cell_of (o := 1) F2.out.2.1.k rfl
    have c2 := cell_of (o := 2) F2.out.2.1.k rfl
    have c3 := cell_of (o := 3) F2.out.2.1.k rfl
    have hlu := paths_nil (k := (r, i)) HH.out.2.2 W2
    go_wp2_with (with_reducible refine halt_store 40 (x := .tmp 8) rfl ?_)
    refine Halted.go ?_
    have hal := (Below.refl W2.heap.size W2).alloc (Nat.le_refl _) (.cells #[.int .i64 0, .slice none 0 0, .int .u32 0, .int .i64 0, .int .i64 0, .slice none 0 0] 40)
    refine store_whole rfl 40 _ _ rfl W2.heap.size #[.int .i64 atZV.o, .slice atZV.p.a atZV.p.n atZV.p.c, .int .u32 atZV.nx, .int .i64 atZV.md, .int .i64 atZV.pf, .slice atZV.c.a atZV.c.n atZV.c.c] rfl rfl (hnew _ _) rfl (by kernel_rfl) (by simp [Value.oneCell']) ?_
    intro W3 hwz hsz
    have hzb : Below W2.heap.size W2 W3 := Below.trans hal (hsz.below (Nat.le_refl _))
    have hb3 := bcall F2.out.1 (Nat.le_refl _) hzb
    have hbx : BxA W2.heap.size atZV W3 := hwz
    have HC := rcopyOf_any (w := W3) (x := atZV) (atZ_ok _) (⟨Nat.zero_le _, Nat.zero_le _, fun z hz => by cases hz⟩)
    unfold AtV.v at HC
    have HC := Lib.hid HC
    have F3 := Lib.hid (And.intro hb3 ((hzb.block _ (lt_of_blk F2.out.2.2)).trans F2.out.2.2))
    have HS3 := Lib.hid (Nat.lt_of_lt_of_le (lt_of_blk F2.out.2.2) hzb.size)
    clear c0 c1 c2 c3 hlu
    obtain ⟨c0, c1, c2, c3, c4, c5⟩ := hbx.cells
    clear hal hwz hsz hzb hb3 hbx F2
    go_wp2_with fail
    refine (HC.out).mono ?_
    rintro e W4 ⟨y, rfl, hy1, hy2, hy3, hb4⟩
    have hz4 := (hb4.block _ (lt_of_blk F3.out.2)).trans F3.out.2
    have F4 := Lib.hid (And.intro (bcall F3.out.1 (Nat.le_refl _) hb4) (And.intro hy1 (And.intro hy2 (And.intro hy3 F3.out.1.size))))
    clear hy1 hy2 hy3 hb4 F3 HC c0 c1 c2 c3 c4 c5
    go_wp2_with (with_reducible refine halt_store 40 (x := .tmp 4) rfl ?_)
    refine Halted.go ?_
    refine store_whole rfl 40 _ _ rfl (w.heap.size + 1) #[.int .i64 y.o, .slice y.p.a y.p.n y.p.c, .int .u32 y.nx, .int .i64 y.md, .int .i64 y.pf, .slice y.c.a y.c.n y.c.c] rfl rfl hz4 rfl (by kernel_rfl) (by simp [Value.oneCell']) ?_
    intro W5 hwz hsz
    have hgr : W4.grownBy W5 (some (w.heap.size + 1)) := ⟨hsz.os, hsz.tape, hsz.output, by rw [hsz.size]; exact Nat.le_refl _, fun j _ hne => hsz.other (fun e => hne (by rw [e]))⟩
    have hfin : Below w.heap.size w W5 ∧ AtOk W5 y ∧ NewA w.heap.size y := by
      have h1 := F4.out
      have h4 : w.heap.size ≤ W3.heap.size := h1.2.2.2.2
      have h5 : w.heap.size + 1 < W3.heap.size := HS3.out
      refine ⟨h1.1.trans (hsz.below (Nat.le_succ _)), (h1.2.1.firm (h1.2.2.1.far fun g e => by injection e with e; omega)) W5 hgr, ?_⟩
      have hn := h1.2.2.1
      exact ⟨fun hn2 a e => by have := hn.p hn2 a e; omega, fun hn2 a e => by have := hn.c hn2 a e; omega, fun z hz hn2 a e => by have := hn.s z hz hn2 a e; omega⟩
    have HF := Lib.hid (And.intro hwz (And.intro hfin F4.out.2.2.2.1))
    clear hz4 hwz hsz hgr hfin
    go_wp2_with fail
    refine ret_cell2 rfl rfl rfl HF.out.1 Tryz.underlying40 rfl (by kernel_rfl) ?_
    exact ⟨y, rfl, HF.out.2.2, HF.out.2.1.2.1, HF.out.2.1.2.2, HF.out.2.1.1⟩
  | some y0 =>
    have hkp : k = pkN k.1 k.2.toNat ∧ R.M k.1 k.2.toNat = some y0 := by
      unfold look at hM
      split at hM
      · rename_i hok
        have h1 := okP_iff.1 hok
        refine ⟨?_, hM⟩
        obtain ⟨a, l⟩ := k
        unfold pkN
        dsimp only at *
        rw [Int.toNat_of_nonneg h1.1]
      · cases hM
    obtain ⟨m, rfl, hpm, hne⟩ := HH.out.1.mp _ _ y0 hkp.2
    rw [← hkp.1] at hpm hne
    rw [hM] at hgm
    simp only [Option.getD_some, Option.isSome_some] at hgm
    have HGM := Lib.hid hgm
    have HP := Lib.hid hpm
    obtain ⟨ol, hol⟩ : ∃ o, Kl.look RtV.pi (atV G k) (r, i) = o := ⟨_, rfl⟩
    have hga : getP14 (atV G k) (r, i) = (ol.map RtV.a).getD atZV ∧ hasP14 (atV G k) (r, i) = ol.isSome := by unfold getP14 hasP14; rw [hol]; exact ⟨rfl, rfl⟩
    have hgx : ∀ W, Below w.heap.size w W → AtOk W ((ol.map RtV.a).getD atZV) ∧ SmA ((ol.map RtV.a).getD atZV) := fun W hW => by
      cases ol with
      | none => exact ⟨atZ_ok W, ⟨Nat.zero_le _, Nat.zero_le _, fun z hz => by cases hz⟩⟩
      | some x0 =>
        obtain ⟨h1, h2⟩ := Kl.look_mem hol
        have h3 := (mem_atV.1 h1).1
        exact ⟨(HH.out.1.far x0 h3).now.keep hW, HH.out.1.sm x0 h3⟩
    have hat : ((lookR (G.map RtV.rt) (r, k, i)).map Rt.a).getD atZ = ((ol.map RtV.a).getD atZV).at ∧ (lookR (G.map RtV.rt) (r, k, i)).isSome = ol.isSome := by
      rw [look14, hol]
      cases ol <;> exact ⟨rfl, rfl⟩
    rw [hat.1, hat.2]
    have HGA := Lib.hid hga
    have HGX := Lib.hid hgx
    generalize (ol.map RtV.a).getD atZV = ga at *
    generalize ol.isSome = bs at *
    clear hM hgm hpm hne hkp hol hga hgx hat
    go_enter Tryz.func27, Tryz.ntmps27
    go_wp2_with fail
    refine (HM.out).mono ?_
    rintro e W9 ⟨rfl, hw⟩
    have hw := hw.symm
    subst hw
    clear HM
    go_wp2_with fail
    refine wp_region_heldP (GeS R n asn room nn ref (cntV G) w.heap.size r k i) (by kernel_rfl) ?_
    generalize ((w.alloc (.cells #[.int .i64 r, .int .u32 (k.1 : Int), .int .i64 k.2, .int .i64 i] 62)).alloc (.cells #[.int .i64 0, .slice none 0 0, .int .u32 0, .int .i64 0, .int .i64 0, .slice none 0 0] 40)).drew = V at *
    refine held_reads [0, 1, 2, 3, 4, 5] (g := 6) rfl (by kernel_rfl) F1.out.2.1 (fun _ _ d _ _ h => by cases d <;> exact h) ?_
    simp only [pick, List.getD_cons_zero, List.getD_cons_succ]
    ((with_reducible refine wpRead_step (fun K hK => ?_)); go_simp; first | ((with_reducible refine hK _ ?_); clear hK K) | (apply Exists.intro; (with_reducible refine ⟨fun w' hw' => ?_, hK _ ?_⟩); ((have f0 : w'.cell? ⟨R.b, 0, none⟩ = _ := cell_of hw'.t.blk rfl; go_simp; first | exact rfl | exact ⟨rfl, rfl⟩)); clear hK K))
    ((with_reducible refine wpRead_step (fun K hK => ?_)); go_simp; first | ((with_reducible refine hK _ ?_); clear hK K) | (apply Exists.intro; (with_reducible refine ⟨fun w' hw' => ?_, hK _ ?_⟩); ((have f0 : w'.cell? ⟨R.b, 0, none⟩ = _ := cell_of hw'.t.blk rfl; go_simp; first | exact rfl | exact ⟨rfl, rfl⟩)); clear hK K))
    ((with_reducible refine wpRead_step (fun K hK => ?_)); go_simp; first | ((with_reducible refine hK _ ?_); clear hK K) | (apply Exists.intro; (with_reducible refine ⟨fun w' hw' => ?_, hK _ ?_⟩); ((have f0 : w'.cell? ⟨R.b, 0, none⟩ = _ := cell_of hw'.t.blk rfl; go_simp; first | exact rfl | exact ⟨rfl, rfl⟩)); clear hK K))
    ((with_reducible refine wpRead_step (fun K hK => ?_)); go_simp; first | ((with_reducible refine hK _ ?_); clear hK K) | (apply Exists.intro; (with_reducible refine ⟨fun w' hw' => ?_, hK _ ?_⟩); ((have f0 : w'.cell? ⟨R.b, 0, none⟩ = _ := cell_of hw'.t.blk rfl; go_simp; first | exact rfl | exact ⟨rfl, rfl⟩)); clear hK K))
    ((with_reducible refine wpRead_step (fun K hK => ?_)); go_simp; first | ((with_reducible refine hK _ ?_); clear hK K) | (apply Exists.intro; (with_reducible refine ⟨fun w' hw' => ?_, hK _ ?_⟩); (first | exact rfl | exact ⟨rfl, rfl⟩); clear hK K))
    with_reducible refine wpRead_yes ?_ ?_
    rotate_left
    rfl
    intro K hK
    refine read_load 58 _ rfl w.heap.size 1 #[.int .u32 (k.1 : Int), .int .i64 k.2] rfl (fun w' hw' => rangeAt_block hw'.k 1 _ rfl) Tryz.underlying58 rfl (by kernel_rfl) (hK _ ?_)
    clear hK K
    with_reducible refine wpRead_nil ?_
    refine held_one 6 (by kernel_rfl) ?_
    simp only [pick, List.getD_cons_zero, List.getD_cons_succ]
    go_wp2_with fail
    refine (HGM.out).mono ?_
    rintro e W2 ⟨rfl, hb⟩
    have F2 := Lib.hid (And.intro (bcall F1.out.1 (Nat.le_refl _) hb) (And.intro (F1.out.2.1.keep hb) ((hb.block _ (lt_of_blk F1.out.2.2)).trans F1.out.2.2)))
    clear hb F1 HGM
    go_wp2_with fail
    refine ⟨F2.out.2.1, ?_⟩
    refine held_reads [7, 8, 9, 10, 11] (g := 0) rfl (by kernel_rfl) F2.out.2.1 (fun _ _ d _ _ h => by cases d <;> exact h) ?_
    simp only [pick, List.getD_cons_zero, List.getD_cons_succ]
    ((with_reducible refine wpRead_step (fun K hK => ?_)); go_simp; first | ((with_reducible refine hK _ ?_); clear hK K) | (apply Exists.intro; (with_reducible refine ⟨fun w' hw' => ?_, hK _ ?_⟩); (first | exact rfl | exact ⟨rfl, rfl⟩); clear hK K))
    ((with_reducible refine wpRead_step (fun K hK => ?_)); go_simp; first | ((with_reducible refine hK _ ?_); clear hK K) | (apply Exists.intro; (with_reducible refine ⟨fun w' hw' => ?_, hK _ ?_⟩); (first | exact rfl | exact ⟨rfl, rfl⟩); clear hK K))
    ((with_reducible refine wpRead_step (fun K hK => ?_)); go_simp; first | ((with_reducible refine hK _ ?_); clear hK K) | (apply Exists.intro; (with_reducible refine ⟨fun w' hw' => ?_, hK _ ?_⟩); (first | exact rfl | exact ⟨rfl, rfl⟩); clear hK K))
    ((with_reducible refine wpRead_step (fun K hK => ?_)); go_simp; first | ((with_reducible refine hK _ ?_); clear hK K) | (apply Exists.intro; (with_reducible refine ⟨fun w' hw' => ?_, hK _ ?_⟩); (first | exact rfl | exact ⟨rfl, rfl⟩); clear hK K))
    ((with_reducible refine wpRead_step (fun K hK => ?_)); go_simp; first | ((with_reducible refine hK _ ?_); clear hK K) | (apply Exists.intro; (with_reducible refine ⟨fun w' hw' => ?_, hK _ ?_⟩); (first | exact rfl | exact ⟨rfl, rfl⟩); clear hK K))
    with_reducible refine wpRead_nil ?_
    refine wpAnyH_done (by kernel_rfl) ?_ _
    have c0 := cell_of (o := 0) F2.out.2.1.k rfl
    have c1 := cell_of (o := 1) F2.out.2.1.k rfl
    have c2 := cell_of (o := 2) F2.out.2.1.k rfl
    have c3 := cell_of (o := 3) F2.out.2.1.k rfl
    have hlu := (show PathsAt W2 m (atV G k) from HP.out.keep F2.out.1).lookup HH.out.2.2 W2 rfl
    rw [HGA.out.1, HGA.out.2] at hlu
    go_wp2_with (with_reducible refine halt_store 40 (x := .tmp 8) rfl ?_)
    refine Halted.go ?_
    have hal := (Below.refl W2.heap.size W2).alloc (Nat.le_refl _) (.cells #[.int .i64 0, .slice none 0 0, .int .u32 0, .int .i64 0, .int .i64 0, .slice none 0 0] 40)
    refine store_whole rfl 40 _ _ rfl W2.heap.size #[.int .i64 ga.o, .slice ga.p.a ga.p.n ga.p.c, .int .u32 ga.nx, .int .i64 ga.md, .int .i64 ga.pf, .slice ga.c.a ga.c.n ga.c.c] rfl rfl (hnew _ _) rfl (by kernel_rfl) (by simp [Value.oneCell']) ?_
    intro W3 hwz hsz
    have hzb : Below W2.heap.size W2 W3 := Below.trans hal (hsz.below (Nat.le_refl _))
    have hb3 := bcall F2.out.1 (Nat.le_refl _) hzb
    have hbx : BxA W2.heap.size ga W3 := hwz
    have HC := rcopyOf_any (w := W3) (x := ga) ((HGX.out _ hb3).1) ((HGX.out _ hb3).2)
    unfold AtV.v at HC
    have HC := Lib.hid HC
    have F3 := Lib.hid (And.intro hb3 ((hzb.block _ (lt_of_blk F2.out.2.2)).trans F2.out.2.2))
    have HS3 := Lib.hid (Nat.lt_of_lt_of_le (lt_of_blk F2.out.2.2) hzb.size)
    clear c0 c1 c2 c3 hlu
    obtain ⟨c0, c1, c2, c3, c4, c5⟩ := hbx.cells
    clear hal hwz hsz hzb hb3 hbx F2
    go_wp2_with fail
    refine (HC.out).mono ?_
    rintro e W4 ⟨y, rfl, hy1, hy2, hy3, hb4⟩
    have hz4 := (hb4.block _ (lt_of_blk F3.out.2)).trans F3.out.2
    have F4 := Lib.hid (And.intro (bcall F3.out.1 (Nat.le_refl _) hb4) (And.intro hy1 (And.intro hy2 (And.intro hy3 F3.out.1.size))))
    clear hy1 hy2 hy3 hb4 F3 HC c0 c1 c2 c3 c4 c5
    go_wp2_with (with_reducible refine halt_store 40 (x := .tmp 4) rfl ?_)
    refine Halted.go ?_
    refine store_whole rfl 40 _ _ rfl (w.heap.size + 1) #[.int .i64 y.o, .slice y.p.a y.p.n y.p.c, .int .u32 y.nx, .int .i64 y.md, .int .i64 y.pf, .slice y.c.a y.c.n y.c.c] rfl rfl hz4 rfl (by kernel_rfl) (by simp [Value.oneCell']) ?_
    intro W5 hwz hsz
    have hgr : W4.grownBy W5 (some (w.heap.size + 1)) := ⟨hsz.os, hsz.tape, hsz.output, by rw [hsz.size]; exact Nat.le_refl _, fun j _ hne => hsz.other (fun e => hne (by rw [e]))⟩
    have hfin : Below w.heap.size w W5 ∧ AtOk W5 y ∧ NewA w.heap.size y := by
      have h1 := F4.out
      have h4 : w.heap.size ≤ W3.heap.size := h1.2.2.2.2
      have h5 : w.heap.size + 1 < W3.heap.size := HS3.out
      refine ⟨h1.1.trans (hsz.below (Nat.le_succ _)), (h1.2.1.firm (h1.2.2.1.far fun g e => by injection e with e; omega)) W5 hgr, ?_⟩
      have hn := h1.2.2.1
      exact ⟨fun hn2 a e => by have := hn.p hn2 a e; omega, fun hn2 a e => by have := hn.c hn2 a e; omega, fun z hz hn2 a e => by have := hn.s z hz hn2 a e; omega⟩
    have HF := Lib.hid (And.intro hwz (And.intro hfin F4.out.2.2.2.1))
    clear hz4 hwz hsz hgr hfin
    go_wp2_with fail
    refine ret_cell2 rfl rfl rfl HF.out.1 Tryz.underlying40 rfl (by kernel_rfl) ?_
    exact ⟨y, rfl, HF.out.2.2, HF.out.2.1.2.1, HF.out.2.1.2.2, HF.out.2.1.1⟩
end Go.Proofs.YtadoflcomienoaaGreat
/- Tables in the laws: what each call leaves, on a table of one prefix; Ten, Said. -/
namespace Go.Proofs.YtadoflcomienoaaGreat
open Go.RowKit
open Go.ChangeMaps (setBlock)

def saidA (asn nx : Int) : At := ⟨0, [(false, [asn])], nx, -1, -1, []⟩
set_option maxRecDepth 100000 in
theorem ten14_any (n : Int) (w : World) : Calls Tryz.prog 67 #[.int .i64 n] w fun e w' => e = .returned (.agg #[.int .i64 n, .int .u32 167772160, .int .i64 8]) ∧ Below w.heap.size w w' := by
  have hal := (Below.refl w.heap.size w).alloc (Nat.le_refl _) (.cells #[.int .i64 0, .int .u32 0, .int .i64 0] 60)
  have F := Lib.hid (And.intro hal (hnew w (.cells #[.int .i64 0, .int .u32 0, .int .i64 0] 60)))
  clear hal
  go_enter Tryz.func67, Tryz.ntmps67
  go_wp2_with (with_reducible refine halt_store 60 (x := .tmp 2) rfl ?_)
  refine Halted.go ?_
  generalize w.alloc (.cells #[.int .i64 0, .int .u32 0, .int .i64 0] 60) = W1 at *
  refine store_whole rfl 60 _ _ rfl w.heap.size #[.int .i64 n, .int .u32 167772160, .int .i64 8] rfl rfl F.out.2 rfl (by kernel_rfl) (by simp [Value.oneCell']) ?_
  intro W2 hwz hsz
  have HZ := Lib.hid (And.intro hwz (F.out.1.trans (hsz.below (Nat.le_refl _))))
  clear hwz hsz
  go_wp2_with fail
  refine ret_cell rfl rfl rfl HZ.out.1 Tryz.underlying60 rfl (by kernel_rfl) ?_
  exact ⟨rfl, HZ.out.2⟩
set_option maxRecDepth 100000 in
theorem said14_any (asn : Int) (hasn : I64 asn) (nx : Int) (hnx : 0 ≤ nx ∧ nx ≤ 4294967295) (w : World) : Calls Tryz.prog 68 #[.int .i64 asn, .int .u32 nx] w fun e w' => ∃ y : AtV, e = .returned y.v ∧ AtOk w' y ∧ NewA w.heap.size y ∧ y.at = saidA asn nx ∧ Below w.heap.size w w' := by
  have hal := (((Below.refl w.heap.size w).alloc (Nat.le_refl _) (.cells #[.int .i64 0, .slice none 0 0, .int .u32 0, .int .i64 0, .int .i64 0, .slice none 0 0] 40)).alloc (by simp) (.cells #[.int .i64 asn] 3)).alloc (by simp; omega) (.cells #[.bool false, .slice (some ⟨w.heap.size + 1, 0, none⟩) 1 1] 134)
  have h0 : (((w.alloc (.cells #[.int .i64 0, .slice none 0 0, .int .u32 0, .int .i64 0, .int .i64 0, .slice none 0 0] 40)).alloc (.cells #[.int .i64 asn] 3)).alloc (.cells #[.bool false, .slice (some ⟨w.heap.size + 1, 0, none⟩) 1 1] 134)).heap[w.heap.size]? = some (.cells #[.int .i64 0, .slice none 0 0, .int .u32 0, .int .i64 0, .int .i64 0, .slice none 0 0] 40) := hold (hold (hnew _ _))
  have h1 : (((w.alloc (.cells #[.int .i64 0, .slice none 0 0, .int .u32 0, .int .i64 0, .int .i64 0, .slice none 0 0] 40)).alloc (.cells #[.int .i64 asn] 3)).alloc (.cells #[.bool false, .slice (some ⟨w.heap.size + 1, 0, none⟩) 1 1] 134)).heap[w.heap.size + 1]? = some (.cells #[.int .i64 asn] 3) := hold (hnewAt (by simp))
  have h2 : (((w.alloc (.cells #[.int .i64 0, .slice none 0 0, .int .u32 0, .int .i64 0, .int .i64 0, .slice none 0 0] 40)).alloc (.cells #[.int .i64 asn] 3)).alloc (.cells #[.bool false, .slice (some ⟨w.heap.size + 1, 0, none⟩) 1 1] 134)).heap[w.heap.size + 2]? = some (.cells #[.bool false, .slice (some ⟨w.heap.size + 1, 0, none⟩) 1 1] 134) := hnewAt (by simp)
  have F := Lib.hid (And.intro hal (And.intro h0 (And.intro h1 (And.intro h2 (And.intro hnx hasn)))))
  clear hal h0 h1 h2 hnx hasn
  go_enter Tryz.func68, Tryz.ntmps68
  go_wp2_with (with_reducible refine halt_store 40 (x := .tmp 4) rfl ?_)
  refine Halted.go ?_
  refine store_whole rfl 40 _ _ rfl w.heap.size #[.int .i64 0, .slice (some ⟨w.heap.size + 2, 0, none⟩) 1 1, .int .u32 nx, .int .i64 (-1), .int .i64 (-1), .slice none 0 0] rfl rfl F.out.2.1 rfl (by kernel_rfl) (by simp [Value.oneCell']) ?_
  intro W2 hwz hsz
  have hy : AtOk W2 ⟨0, ⟨some ⟨w.heap.size + 2, 0, none⟩, 1, 1, [⟨false, ⟨some ⟨w.heap.size + 1, 0, none⟩, 1, 1, [asn]⟩⟩]⟩, nx, -1, -1, ⟨none, 0, 0, []⟩⟩ := by
    have g1 := (hsz.other (show w.heap.size + 1 ≠ w.heap.size by omega)).trans F.out.2.2.1
    have g2 := (hsz.other (show w.heap.size + 2 ≠ w.heap.size by omega)).trans F.out.2.2.2.1
    have s1 : SlOk RI OkI W2 ⟨some ⟨w.heap.size + 1, 0, none⟩, 1, 1, [asn]⟩ := ⟨Rep.sl_one (R := RI) (y := asn) g1, (fun h => by cases h), Nat.le_refl _, by show 1 ≤ maxLen; unfold maxLen; omega, fun n hn => by rw [List.mem_singleton] at hn; subst hn; exact F.out.2.2.2.2.2⟩
    refine ⟨⟨Rep.sl_one (R := RSg) (y := (⟨false, ⟨some ⟨w.heap.size + 1, 0, none⟩, 1, 1, [asn]⟩⟩ : SgV)) g2, (fun h => by cases h), Nat.le_refl _, by show 1 ≤ maxLen; unfold maxLen; omega, fun s hs => by rw [List.mem_singleton] at hs; subst hs; exact s1⟩, slZ, by show I64 0; unfold I64; decide, F.out.2.2.2.2.1, by show I64 (-1); unfold I64; decide, by show I64 (-1); unfold I64; decide⟩
  have hnw : NewA w.heap.size ⟨0, ⟨some ⟨w.heap.size + 2, 0, none⟩, 1, 1, [⟨false, ⟨some ⟨w.heap.size + 1, 0, none⟩, 1, 1, [asn]⟩⟩]⟩, nx, -1, -1, ⟨none, 0, 0, []⟩⟩ := ⟨(fun _ a e => by injection e with e; subst e; exact Nat.le_add_right _ _), (fun _ a e => by cases e), (fun z hz => by rw [List.mem_singleton] at hz; subst hz; exact fun _ a e => by injection e with e; subst e; exact Nat.le_add_right _ _)⟩
  have HZ := Lib.hid (And.intro hwz (And.intro (And.intro hy hnw) (F.out.1.trans (hsz.below (Nat.le_refl _)))))
  clear hwz hsz hy hnw
  go_wp2_with fail
  refine ret_cell rfl rfl rfl HZ.out.1 Tryz.underlying40 rfl (by kernel_rfl) ?_
  exact ⟨_, rfl, HZ.out.2.1.1, HZ.out.2.1.2, rfl, HZ.out.2.2⟩

theorem HoldF.and {F : Nat → Prop} {w : World} {P Q : World → Prop} (h : HoldF F w P) (k : HoldF F w Q) : HoldF F w fun W => P W ∧ Q W := fun w' h1 h2 => ⟨h w' h1 h2, k w' h1 h2⟩
/-- a table of a law: what it reads as; what else holds, whatever becomes of the table -/
def LvS (w : World) (b : Nat) (asn room : Int) (S : List Rt) (ref : Int) (P : World → Prop) (W : World) : Prop := ∃ R n G, R.b = b ∧ RibAt W R (fun _ => False) n asn room ref G ∧ G.map RtV.rt = S ∧ (∀ k, R.F k → w.heap.size ≤ k) ∧ Below w.heap.size w W ∧ HoldF R.F W P
section
variable {w W W' : World} {b : Nat} {asn room ref : Int} {S : List Rt} {P Q : World → Prop}
theorem LvS.keep (h : LvS w b asn room S ref P W) (hb : Below W.heap.size W W') : LvS w b asn room S ref P W' := by
  obtain ⟨R, n, G, h1, h2, h3, h4, h5, h6⟩ := h
  exact ⟨R, n, G, h1, h2.below hb, h3, h4, bcall h5 (Nat.le_refl _) hb, h6.below hb⟩
theorem LvS.now (h : LvS w b asn room S ref P W) : P W := by
  obtain ⟨R, n, G, h1, h2, h3, h4, h5, h6⟩ := h
  exact h6.now
theorem LvS.bw (h : LvS w b asn room S ref P W) : Below w.heap.size w W := by
  obtain ⟨R, n, G, h1, h2, h3, h4, h5, h6⟩ := h
  exact h5
theorem LvS.rok (h : LvS w b asn room S ref P W) : ROk S := by
  obtain ⟨R, n, G, h1, h2, h3, h4, h5, h6⟩ := h
  rw [← h3]; exact h2.rok
theorem lv_new (w W : World) (hw : Below w.heap.size w W) (asn room : Int) (h : (0 ≤ asn ∧ asn ≤ 4294967295) ∧ (0 ≤ room ∧ room ≤ 65536)) : Calls Tryz.prog 21 #[.int .i64 asn, .int .i64 room] W fun e w' => ∃ b, e = .returned (.tuple #[.pointer (some ⟨b, 0, none⟩), .int .i64 0]) ∧ LvS w b asn room [] 0 (fun _ => True) w' :=
  (rnew_ok W asn room h).mono fun _e _w' ⟨R, h1, h2, h3, h4⟩ => ⟨R.b, h1, R, 0, [], rfl, h2, rfl, (fun k hk => Nat.le_trans hw.size (h3 k hk)), bcall hw (Nat.le_refl _) h4, fun _ _ _ => trivial⟩
theorem lv_apply (h : LvS w b asn room S ref P W) (hb : Below W.heap.size W W') {x : UpV} (hx : UpOk W' x) (hg : NewS W.heap.size x.g ∨ LowS w.heap.size x.g) (hr : NewS W.heap.size x.r ∨ LowS w.heap.size x.r) (ha : OutA (fun k => w.heap.size ≤ k ∧ k < W.heap.size) x.a) {r : Int} (hm : mayR r x.up = true) (hn : x.g.n ≤ 3000 ∧ x.r.n ≤ 3000) (hS : S.length + x.r.n ≤ 3000000) (href : 0 ≤ ref ∧ ref + x.r.n ≤ 900000000) :
    Calls Tryz.prog 30 #[.pointer (some ⟨b, 0, none⟩), .int .i64 r, x.v] W' fun e w' => ∃ v L, e = .returned (.tuple #[v, .int .i64 0]) ∧ RPk.Own w' W'.heap.size v L ∧ Chg S (applyR asn room r x.up (S, ref)).1 L ∧ LvS w b asn room (applyR asn room r x.up (S, ref)).1 (applyR asn room r x.up (S, ref)).2 P w' := by
  obtain ⟨R, n, G, rfl, h2, h3, h4, h5, h6⟩ := h
  have hF : ∀ k, Rb.FX R (fun _ => False) k → w.heap.size ≤ k ∧ k < W.heap.size := fun k hk => hk.elim (fun h => ⟨h4 k h, h2.lt h⟩) False.elim
  have hs : ∀ {s : SlV Nl}, NewS W.heap.size s ∨ LowS w.heap.size s → 0 < s.n → ∀ a, s.a = some a → ¬ Rb.FX R (fun _ => False) a.block := fun hh hn a e hf => by
    have h1 := hF _ hf
    rcases hh with h | h
    · have := h hn a e; omega
    · have := h hn a e; omega
  have hup : HoldF (R.FX fun _ => False) W' fun W => UpOk W x := fun w' hsz he =>
    ⟨hx.g.same (fun hn a e hl => he _ hl (hs hg hn a e)) (fun _ _ h => h), hx.r.same (fun hn a e hl => he _ hl (hs hr hn a e)) (fun _ _ h => h), (hx.a.hold (F := R.FX fun _ => False) ⟨fun hn a e hf => ha.p hn a e (hF _ hf), fun hn a e hf => ha.c hn a e (hF _ hf), fun y hy hn a e hf => ha.s y hy hn a e (hF _ hf)⟩) w' hsz he⟩
  have hGl : G.length = S.length := by rw [← h3, List.length_map]
  refine (apply_any (h2.below hb) (fun k hk => hk.elim) hup hm hn (by rw [hGl]; exact hS) href).mono ?_
  rintro e w' ⟨v, L, R', n', G', ref', rfl, ho, hc, hr', hst, hb', hmv⟩
  rw [h3] at hc hst
  rw [← hst]
  refine ⟨v, L, rfl, ho, hc, R', n', G', hb', hr', rfl, fun k hk => (hmv.foot k hk).elim (h4 k) (fun h => Nat.le_trans h5.size (Nat.le_trans hb.size h)), ?_, (h6.below hb).moved hmv⟩
  exact (bcall h5 (Nat.le_refl _) hb).trans (hmv.below (Nat.le_trans h5.size hb.size) h4)
theorem lv_bad (h : LvS w b asn room S ref P W) {x : UpV} (hx : UpOk W x) {r : Int} (hm : mayR r x.up = false) : Calls Tryz.prog 30 #[.pointer (some ⟨b, 0, none⟩), .int .i64 r, x.v] W fun e w' => e = .returned (.tuple #[.slice none 0 0, .int .i64 1]) ∧ LvS w b asn room S ref P w' ∧ Below W.heap.size W w' := by
  have h0 := h
  obtain ⟨R, n, G, rfl, h2, h3, h4, h5, h6⟩ := h
  exact (apply_bad h2 hx hm).mono fun e w' ⟨h7, h8⟩ => ⟨h7, h0.keep h8, h8⟩
theorem lv_flush (h : LvS w b asn room S ref P W) (hS : S.length ≤ 3000000) (r : Int) : Calls Tryz.prog 36 #[.pointer (some ⟨b, 0, none⟩), .int .i64 r] W fun e w' => ∃ v L, e = .returned v ∧ RPk.Own w' W.heap.size v L ∧ Chg S (flushR r S) L ∧ LvS w b asn room (flushR r S) ref P w' := by
  obtain ⟨R, n, G, rfl, h2, h3, h4, h5, h6⟩ := h
  have hGl : G.length = S.length := by rw [← h3, List.length_map]
  refine (flush_any h2 (fun k hk => hk.elim) (by rw [hGl]; exact hS) r).mono ?_
  rintro e w' ⟨v, L, R', n', G', rfl, ho, hc, hr', hst, hb', hmv⟩
  rw [h3] at hc hst
  rw [hst] at hc
  exact ⟨v, L, rfl, ho, hc, R', n', G', hb', hr', hst, (fun k hk => (hmv.foot k hk).elim (h4 k) (fun h => Nat.le_trans h5.size h)), h5.trans (hmv.below h5.size h4), h6.moved hmv⟩
theorem lv_routes (h : LvS w b asn room S ref P W) (hS : S.length ≤ 4000000) {k : PK} (hk : k.1 < 4294967296 ∧ I64 k.2) : Calls Tryz.prog 32 #[.pointer (some ⟨b, 0, none⟩), pfx k.1 k.2] W fun e w' => ∃ s : SlV RtV, e = .returned (.slice s.a s.n s.c) ∧ s.l.map RtV.rt = routesR S k ∧ NewS W.heap.size s ∧ Below W.heap.size W w' ∧ LvS w b asn room S ref (fun W => P W ∧ SlOk RRt RtOk W s) w' := by
  obtain ⟨R, n, G, rfl, h2, h3, h4, h5, h6⟩ := h
  have hGl : G.length = S.length := by rw [← h3, List.length_map]
  refine (routes_any h2 hk (by rw [hGl]; exact hS)).mono ?_
  rintro e w' ⟨s, rfl, hs1, hs2, hb⟩
  rw [h3] at hs2
  exact ⟨s, rfl, hs2, hs1.new, hb, R, n, G, rfl, h2.below hb, h3, h4, bcall h5 (Nat.le_refl _) hb, (h6.below hb).and (hs1.hold fun k hk => h2.lt hk)⟩
theorem lv_get (h : LvS w b asn room S ref P W) {r i : Int} {k : PK} (hk : k.1 < 4294967296 ∧ I64 k.2) (hr : I64 r) (hi : I64 i) : Calls Tryz.prog 27 #[.pointer (some ⟨b, 0, none⟩), .agg #[.int .i64 r, .int .u32 (k.1 : Int), .int .i64 k.2, .int .i64 i]] W fun e w' => ∃ y : AtV, e = .returned (.tuple #[y.v, .bool (lookR S (r, k, i)).isSome]) ∧ y.at = ((lookR S (r, k, i)).map Rt.a).getD atZ ∧ NewA W.heap.size y ∧ Below W.heap.size W w' ∧ LvS w b asn room S ref (fun W => P W ∧ AtOk W y) w' := by
  obtain ⟨R, n, G, rfl, h2, h3, h4, h5, h6⟩ := h
  refine (get14_any h2 hk hr hi).mono ?_
  rintro e w' ⟨y, rfl, hy1, hy2, hy3, hb⟩
  rw [h3] at hy1 ⊢
  exact ⟨y, rfl, hy1, hy3, hb, R, n, G, rfl, h2.below hb, h3, h4, bcall h5 (Nat.le_refl _) hb, (h6.below hb).and (hy2.hold (hy3.out fun k hk => h2.lt hk))⟩
theorem lv_prefixes (h : LvS w b asn room S ref P W) (hS : S.length ≤ 4000000) : Calls Tryz.prog 31 #[.pointer (some ⟨b, 0, none⟩)] W fun e w' => ∃ v L, e = .returned v ∧ RPk.Own w' W.heap.size v L ∧ PfxOf S L ∧ Below W.heap.size W w' ∧ LvS w b asn room S ref P w' := by
  have h0 := h
  obtain ⟨R, n, G, rfl, h2, h3, h4, h5, h6⟩ := h
  have hGl : G.length = S.length := by rw [← h3, List.length_map]
  refine (prefixes14_any h2 (by rw [hGl]; exact hS)).mono ?_
  rintro e w' ⟨v, L, rfl, ho, hp, hb⟩
  rw [h3] at hp
  exact ⟨v, L, rfl, ho, hp, hb, h0.keep hb⟩
def cntR (S : List Rt) (r : Int) : Int := ((S.filter fun x => decide (x.r = r)).length : Nat)
theorem lv_small (h : LvS w b asn room S ref P W) : (Calls Tryz.prog 38 #[.pointer (some ⟨b, 0, none⟩)] W fun e w' => e = .returned (.int .i64 (S.length : Int)) ∧ w' = W) ∧ (Calls Tryz.prog 40 #[.pointer (some ⟨b, 0, none⟩)] W fun e w' => e = .returned (.int .i64 ref) ∧ w' = W) ∧ ∀ r, I64 r → Calls Tryz.prog 39 #[.pointer (some ⟨b, 0, none⟩), .int .i64 r] W fun e w' => e = .returned (.int .i64 (cntR S r)) ∧ w' = W := by
  obtain ⟨R, n, G, rfl, h2, h3, h4, h5, h6⟩ := h
  have hGl : G.length = S.length := by rw [← h3, List.length_map]
  refine ⟨?_, rrefused_any h2, fun r hr => ?_⟩
  · rw [← hGl]; exact rlen_any h2
  · have hc : cntR S r = cntV G r := by
      unfold cntR cntV
      rw [← h3, List.filter_map, List.length_map]
      rfl
    rw [hc]
    exact rof_any h2 hr
end
end Go.Proofs.YtadoflcomienoaaGreat
/- A region that draws its order and yet hardly has a choice: the order that is forced, checked once; the region's operations by a name of their own. -/
namespace Go.Proofs.YtadoflcomienoaaGreat
open Go Go.RowKit

/-- the operations of the region that bears this number -/
def regF (n : Nat) : Code → Option (List Oper)
  | .region id ops _ => if id = n then some ops.toList else none
  | .seq a b => (regF n a).or (regF n b)
  | .cond _ a b => (regF n a).or (regF n b)
  | .block _ b => regF n b
  | .loop b => regF n b
  | .rangeFunc _ _ a b => (regF n a).or (regF n b)
  | .scope b => regF n b
  | _ => none
def regO (n : Nat) (f : Func) : List Oper := (regF n (f.body.getD .skip)).getD []

section
variable {P : Program} {l : List Oper} {md : Region.Mode} {Q : Exit → Act → World → Prop}

def forcedB (md : Region.Mode) (ops : Array Oper) : List Nat → Array Bool → Bool
  | [], _ => true
  | i :: r, ls => decide (Region.ready md ops ls = [i]) && forcedB md ops r (ls.setIfInBounds i true)
theorem op_one {Q : Exit → Act → World → Prop} {K0 : Act → World → Prop} {i : Nat} {rest : List Nat} {K : Act → World → Prop} {a : Act} {w : World} (hi : i < l.length)
    (h : wpList P l.toArray (Exit.then K0 Q) (pick l (i :: rest)) a w) (hK : ∀ a w, wpList P l.toArray (Exit.then K0 Q) (pick l rest) a w → K a w) : wpOp P l.toArray Q i K a w := by
  have ho : l.toArray[i]? = some (l[i]'hi) := by simp [hi]
  have hp : pick l (i :: rest) = (l[i]'hi) :: pick l rest := by simp [pick, List.getD_eq_getElem?_getD, hi]
  rw [hp] at h
  unfold wpOp
  simp only [ho]
  unfold wpList at h
  by_cases hw : Region.wanted (l[i]'hi) (yielded l.toArray a.tmps) = true
  · rw [if_pos hw] at h ⊢
    refine h.imp (fun h => wp_then (Oper.wp_mono (fun a' w' h' => hK a' w' h') h)) (fun h => ⟨h.1, let ⟨a, w, h⟩ := h.2; ⟨a, w, h⟩⟩)
  · rw [if_neg hw] at h ⊢
    exact hK _ _ h
theorem any_forced {g n : Nat} (hd : List Nat) (hn : hd.length + g = n) {l0 : Array Bool} {a : Act} {w : World} (hB : forcedB md l.toArray hd l0 = true)
    (h : wpList P l.toArray (Exit.then (wpAny P md l.toArray Q g (setAll hd l0)) Q) (pick l hd) a w) : wpAny P md l.toArray Q n l0 a w := by
  subst hn
  revert l0 a w
  induction hd with
  | nil => intro l0 a w _ h; rw [List.length_nil, Nat.zero_add]; exact h
  | cons i r ih =>
    intro l0 a w hB h
    simp only [forcedB, Bool.and_eq_true, decide_eq_true_eq] at hB
    rw [List.length_cons, Nat.succ_add]
    obtain ⟨o, ho⟩ := ready_lt (md := md) (ops := l.toArray) (listed := l0) (i := i) (by rw [hB.1]; simp)
    have hi : i < l.length := by have := (Array.getElem?_eq_some_iff.1 ho).1; simpa using this
    refine wpAny_all hB.1 (by simp) fun j hj => ?_
    obtain rfl : j = i := by simpa using hj
    exact op_one hi h fun a' w' h' => ih hB.2 h'
/-- two that come up together and may come in either order -/
theorem any_pair {g : Nat} (i j : Nat) {l0 : Array Bool} {a : Act} {w : World}
    (hB : (decide (Region.ready md l.toArray l0 = [i, j]) && decide (Region.ready md l.toArray (l0.setIfInBounds i true) = [j]) && decide (Region.ready md l.toArray (l0.setIfInBounds j true) = [i])) = true) (hne : i ≠ j)
    (h1 : wpList P l.toArray (Exit.then (wpAny P md l.toArray Q g (setAll [i, j] l0)) Q) (pick l [i, j]) a w)
    (h2 : wpList P l.toArray (Exit.then (wpAny P md l.toArray Q g (setAll [i, j] l0)) Q) (pick l [j, i]) a w) : wpAny P md l.toArray Q (g + 2) l0 a w := by
  simp only [Bool.and_eq_true, decide_eq_true_eq] at hB
  obtain ⟨⟨b1, b2⟩, b3⟩ := hB
  have lt : ∀ k, k ∈ [i, j] → k < l.length := fun k hk => by
    obtain ⟨o, ho⟩ := ready_lt (md := md) (ops := l.toArray) (listed := l0) (i := k) (by rw [b1]; exact hk)
    have := (Array.getElem?_eq_some_iff.1 ho).1
    simpa using this
  have e : setAll [j, i] l0 = setAll [i, j] l0 := by
    show (l0.setIfInBounds j true).setIfInBounds i true = (l0.setIfInBounds i true).setIfInBounds j true
    exact Array.setIfInBounds_comm _ _ hne.symm
  refine wpAny_all b1 (by simp) fun k hk => ?_
  simp only [List.mem_cons, List.not_mem_nil, or_false] at hk
  rcases hk with rfl | rfl
  · exact op_one (lt _ (by simp)) h1 fun a' w' h' => any_forced (g := g) [j] (by simp [Nat.add_comm]) (by simp [forcedB, b2]) h'
  · refine op_one (lt _ (by simp)) h2 fun a' w' h' => any_forced (g := g) [i] (by simp [Nat.add_comm]) (by simp [forcedB, b3]) ?_
    have e2 : setAll [i] (l0.setIfInBounds k true) = setAll [i, k] l0 := e
    rw [e2]
    exact h'
theorem any_done {l0 : Array Bool} {a : Act} {w : World} (hB : decide (Region.ready md l.toArray l0 = []) = true) (h : Q .normal a w) : wpAny P md l.toArray Q 0 l0 a w :=
  ⟨by simpa using hB, h⟩
theorem region_forced {id n : Nat} {a : Act} {w : World} (hm : P.follows .mixedOrders = true) (hn : l.length = n)
    (h : wpAny P .any l.toArray Q n (Array.replicate n false) a w.drew) : (Code.region id l.toArray true).wp P Q a w := by
  subst hn
  exact wp_region_pieces hm h
theorem wpList_want {o : Oper} {rest : List Oper} {a : Act} {w : World} (hw : Region.wanted o (yielded l.toArray a.tmps) = true)
    (h : ∀ K : Act → World → Prop, (∀ a w, wpList P l.toArray Q rest a w → K a w) → o.wp P a w K Q) : wpList P l.toArray Q (o :: rest) a w :=
  wpList_step fun K hK => by rw [if_pos hw]; exact h K hK
theorem pick_nil : pick l [] = [] := rfl
theorem pick_cons (i : Nat) (r : List Nat) : pick l (i :: r) = l.getD i default :: pick l r := rfl
end
end Go.Proofs.YtadoflcomienoaaGreat
/- The last region of lives (chapter 14): its operations, by a name; its order. -/
namespace Go.Proofs.YtadoflcomienoaaGreat
open Go Go.RowKit

theorem forcedB_app {md : Region.Mode} {ops : Array Oper} : ∀ (A B : List Nat) (l0 : Array Bool), forcedB md ops A l0 = true → forcedB md ops B (setAll A l0) = true → forcedB md ops (A ++ B) l0 = true
  | [], _, _, _, h => h
  | i :: A, B, l0, h, h2 => by
    simp only [List.cons_append, forcedB, Bool.and_eq_true] at h ⊢
    exact ⟨h.1, forcedB_app A B _ h.2 h2⟩
noncomputable def ops14 : List Oper := regO 14 Tryz.f23
def s14a : List Nat := [0, 1, 2, 3, 4, 5, 6, 7, 8, 9, 10, 11, 12, 13, 14, 15, 16, 17, 18, 19, 20, 21, 22, 23, 24, 25, 26, 27, 28, 29, 30, 31, 32, 33, 34, 35, 36, 37, 38, 39, 40, 41, 42, 43, 44, 45, 46, 47, 48, 49, 50, 51, 52, 53, 54, 55, 56, 57, 58, 59]
def s14b : List Nat := [62, 63, 64, 65, 66, 67, 68, 69, 70, 71, 72, 73, 74, 75, 76, 77, 78, 79, 80, 81, 82, 83, 84, 85, 86, 87, 88, 89, 90, 91, 92]
theorem pick14a : pick ops14 s14a = pick ops14 [0, 1, 2, 3, 4, 5, 6, 7, 8, 9, 10, 11, 12, 13, 14, 15, 16, 17, 18, 19, 20, 21, 22, 23, 24, 25, 26, 27, 28, 29, 30, 31, 32, 33, 34, 35, 36, 37, 38, 39, 40, 41, 42, 43, 44, 45, 46, 47, 48, 49, 50, 51, 52, 53, 54, 55, 56, 57, 58, 59] := rfl
theorem pick14b : pick ops14 s14b = pick ops14 [62, 63, 64, 65, 66, 67, 68, 69, 70, 71, 72, 73, 74, 75, 76, 77, 78, 79, 80, 81, 82, 83, 84, 85, 86, 87, 88, 89, 90, 91, 92] := rfl
theorem ops14_len : ops14.length = 93 := by kernel_rfl
theorem fr14a0 : forcedB .any ops14.toArray [0, 1, 2, 3, 4, 5, 6, 7, 8, 9] (Array.replicate 93 false) = true := by kernel_rfl
theorem fr14a1 : forcedB .any ops14.toArray [10, 11, 12, 13, 14, 15, 16, 17, 18, 19] (setAll [0, 1, 2, 3, 4, 5, 6, 7, 8, 9] (Array.replicate 93 false)) = true := by kernel_rfl
theorem fr14a2 : forcedB .any ops14.toArray [20, 21, 22, 23, 24, 25, 26, 27, 28, 29] (setAll [10, 11, 12, 13, 14, 15, 16, 17, 18, 19] (setAll [0, 1, 2, 3, 4, 5, 6, 7, 8, 9] (Array.replicate 93 false))) = true := by kernel_rfl
theorem fr14a3 : forcedB .any ops14.toArray [30, 31, 32, 33, 34, 35, 36, 37, 38, 39] (setAll [20, 21, 22, 23, 24, 25, 26, 27, 28, 29] (setAll [10, 11, 12, 13, 14, 15, 16, 17, 18, 19] (setAll [0, 1, 2, 3, 4, 5, 6, 7, 8, 9] (Array.replicate 93 false)))) = true := by kernel_rfl
theorem fr14a4 : forcedB .any ops14.toArray [40, 41, 42, 43, 44, 45, 46, 47, 48, 49] (setAll [30, 31, 32, 33, 34, 35, 36, 37, 38, 39] (setAll [20, 21, 22, 23, 24, 25, 26, 27, 28, 29] (setAll [10, 11, 12, 13, 14, 15, 16, 17, 18, 19] (setAll [0, 1, 2, 3, 4, 5, 6, 7, 8, 9] (Array.replicate 93 false))))) = true := by kernel_rfl
theorem fr14a5 : forcedB .any ops14.toArray [50, 51, 52, 53, 54, 55, 56, 57, 58, 59] (setAll [40, 41, 42, 43, 44, 45, 46, 47, 48, 49] (setAll [30, 31, 32, 33, 34, 35, 36, 37, 38, 39] (setAll [20, 21, 22, 23, 24, 25, 26, 27, 28, 29] (setAll [10, 11, 12, 13, 14, 15, 16, 17, 18, 19] (setAll [0, 1, 2, 3, 4, 5, 6, 7, 8, 9] (Array.replicate 93 false)))))) = true := by kernel_rfl
theorem fr14a : forcedB .any ops14.toArray s14a (Array.replicate 93 false) = true := (forcedB_app [0, 1, 2, 3, 4, 5, 6, 7, 8, 9] _ _ fr14a0 (forcedB_app [10, 11, 12, 13, 14, 15, 16, 17, 18, 19] _ _ fr14a1 (forcedB_app [20, 21, 22, 23, 24, 25, 26, 27, 28, 29] _ _ fr14a2 (forcedB_app [30, 31, 32, 33, 34, 35, 36, 37, 38, 39] _ _ fr14a3 (forcedB_app [40, 41, 42, 43, 44, 45, 46, 47, 48, 49] _ _ fr14a4 fr14a5)))))
theorem fr14p : (decide (Region.ready .any ops14.toArray (setAll s14a (Array.replicate 93 false)) = [60, 61]) && decide (Region.ready .any ops14.toArray ((setAll s14a (Array.replicate 93 false)).setIfInBounds 60 true) = [61]) && decide (Region.ready .any ops14.toArray ((setAll s14a (Array.replicate 93 false)).setIfInBounds 61 true) = [60])) = true := by kernel_rfl
theorem fr14b0 : forcedB .any ops14.toArray [62, 63, 64, 65, 66, 67, 68, 69, 70, 71] (setAll [60, 61] (setAll s14a (Array.replicate 93 false))) = true := by kernel_rfl
theorem fr14b1 : forcedB .any ops14.toArray [72, 73, 74, 75, 76, 77, 78, 79, 80, 81] (setAll [62, 63, 64, 65, 66, 67, 68, 69, 70, 71] (setAll [60, 61] (setAll s14a (Array.replicate 93 false)))) = true := by kernel_rfl
theorem fr14b2 : forcedB .any ops14.toArray [82, 83, 84, 85, 86, 87, 88, 89, 90, 91] (setAll [72, 73, 74, 75, 76, 77, 78, 79, 80, 81] (setAll [62, 63, 64, 65, 66, 67, 68, 69, 70, 71] (setAll [60, 61] (setAll s14a (Array.replicate 93 false))))) = true := by kernel_rfl
theorem fr14b3 : forcedB .any ops14.toArray [92] (setAll [82, 83, 84, 85, 86, 87, 88, 89, 90, 91] (setAll [72, 73, 74, 75, 76, 77, 78, 79, 80, 81] (setAll [62, 63, 64, 65, 66, 67, 68, 69, 70, 71] (setAll [60, 61] (setAll s14a (Array.replicate 93 false)))))) = true := by kernel_rfl
theorem fr14b : forcedB .any ops14.toArray s14b (setAll [60, 61] (setAll s14a (Array.replicate 93 false))) = true := (forcedB_app [62, 63, 64, 65, 66, 67, 68, 69, 70, 71] _ _ fr14b0 (forcedB_app [72, 73, 74, 75, 76, 77, 78, 79, 80, 81] _ _ fr14b1 (forcedB_app [82, 83, 84, 85, 86, 87, 88, 89, 90, 91] _ _ fr14b2 fr14b3)))
theorem fr14d : decide (Region.ready .any ops14.toArray (setAll s14b (setAll [60, 61] (setAll s14a (Array.replicate 93 false)))) = []) = true := by kernel_rfl
end Go.Proofs.YtadoflcomienoaaGreat
