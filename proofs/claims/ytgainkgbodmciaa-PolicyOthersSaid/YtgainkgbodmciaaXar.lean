/- Detours. -/
import Derived.Test.YtgainkgbodmciaaXaq
import Derived.Test.YtgainkgbodmciaaXal
import Derived.Test.YtgainkgbodmciaaXak
namespace Go.Proofs.Ytgainkgbodmciaa
open Go.RowKit

theorem T49 : Rep.Ty Try.prog 49 R46 120 := Rep.Ty.mk' Try.underlying49 (z := .agg #[.int .i64 0, .int .u32 0, .int .i64 0, .int .i64 0, .int .i64 0, .slice none 0 0, .int .u32 0, .int .i64 0, .int .i64 0, .slice none 0 0, .int .i64 0]) (by kernel_rfl) rfl
def dets (lg : Int) (ds : List Int) (F : Int → Int → Option If) (G : Int → Option Cy) (y : Rt) (r : List Rt) : List Cd := (r.map fun x => (x, optI F x)).filter fun c => allowB lg ds G c (y, optI F y)
def detOf (lg : Int) (ds : List Int) (F : Int → Int → Option If) (G : Int → Option Cy) (L : List Rt) : List Cd := match rankOf L with
  | [] => []
  | y :: r => dets lg ds F G y r
theorem dets_succ {lg : Int} {ds : List Int} {F : Int → Int → Option If} {G : Int → Option Cy} {y : Rt} {r : List Rt} {i : Nat} (hi : i < r.length) : dets lg ds F G y (r.take (i + 1)) = dets lg ds F G y (r.take i) ++ if allowB lg ds G (r.getD i default, optI F (r.getD i default)) (y, optI F y) then [(r.getD i default, optI F (r.getD i default))] else [] := by
  unfold dets
  rw [List.take_succ_eq_append_getElem hi, List.map_append, List.filter_append]
  have e : r.getD i default = r[i] := by rw [List.getD_eq_getElem?_getD, List.getElem?_eq_getElem hi]; rfl
  rw [e]
  simp only [List.map_cons, List.map_nil, List.filter_cons, List.filter_nil]
theorem dets_length {lg : Int} {ds : List Int} {F : Int → Int → Option If} {G : Int → Option Cy} {y : Rt} {r : List Rt} : (dets lg ds F G y r).length ≤ r.length := by
  unfold dets
  exact Nat.le_trans (List.length_filter_le _ _) (by rw [List.length_map]; exact Nat.le_refl _)
theorem rankOf_mem {L : List Rt} {x : Rt} (h : x ∈ rankOf L) : x ∈ L := rank_mem _ L x (Nat.le_refl _) h
theorem rankOf_length (L : List Rt) : (rankOf L).length = L.length := rank_length _ L
def RtC (b o : Nat) (x : Rt) (w : World) : Prop := w.cell? ⟨b, o, none⟩ = some (.int .i64 x.r) ∧ w.cell? ⟨b, o + 1, none⟩ = some (.int .u32 x.a) ∧ w.cell? ⟨b, o + 2, none⟩ = some (.int .i64 x.l) ∧ w.cell? ⟨b, o + 3, none⟩ = some (.int .i64 x.i) ∧ w.cell? ⟨b, o + 4, none⟩ = some (.int .i64 x.o) ∧ w.cell? ⟨b, o + 5, none⟩ = some (.slice x.pa x.pn x.pc) ∧ w.cell? ⟨b, o + 6, none⟩ = some (.int .u32 x.nx) ∧ w.cell? ⟨b, o + 7, none⟩ = some (.int .i64 x.md) ∧ w.cell? ⟨b, o + 8, none⟩ = some (.int .i64 x.pf) ∧ w.cell? ⟨b, o + 9, none⟩ = some (.slice x.ca x.cn x.cc)
theorem rtC_row {w : World} {b o : Nat} {L : List Rt} (h : R40.Row w b o L) {i : Nat} (hi : i < L.length) : RtC b (o + i * 10) (L.getD i default) w := by
  have hat := h.get i hi
  exact ⟨hat 0 (by decide), hat 1 (by decide), hat 2 (by decide), hat 3 (by decide), hat 4 (by decide), hat 5 (by decide), hat 6 (by decide), hat 7 (by decide), hat 8 (by decide), hat 9 (by decide)⟩
theorem rtC_of {w : World} {b : Nat} {x : Rt} {T : TypeId} {fr : Nat × Nat} (h : w.heap[b]? = some (.cells #[.int .i64 x.r, .int .u32 x.a, .int .i64 x.l, .int .i64 x.i, .int .i64 x.o, .slice x.pa x.pn x.pc, .int .u32 x.nx, .int .i64 x.md, .int .i64 x.pf, .slice x.ca x.cn x.cc] T fr)) : RtC b 0 x w :=
  ⟨cell_of h rfl, cell_of h rfl, cell_of h rfl, cell_of h rfl, cell_of h rfl, cell_of h rfl, cell_of h rfl, cell_of h rfl, cell_of h rfl, cell_of h rfl⟩
set_option maxRecDepth 100000 in
set_option maxHeartbeats 4000000 in
theorem detours_any {w : World} {C : Array Value} {lg : Int} {im : Nat} {da : Option Addr} {dn dc : Nat} (HCf : CfA C lg im da dn dc) {B : Nat} {ds : List Int} (hd : IntsAt w B da dn ds) {hp xp : Option Addr} {F : Int → Int → Option If} (HF : Finds w (.pointer hp) F) {G : Int → Option Cy} (HG : Gets w (.pointer xp) G) {oa : Option Addr} {n c : Nat} {L : List Rt} (hs : R40.Sl w oa n c L) (hc : oa = none → c = 0) (hi : Ins w B L) (hnx : NxOk L) (hok : ∀ x ∈ L, IN.ok (optI F x)) :
    Calls Try.prog 10 #[.agg C, .pointer hp, .pointer xp, .slice oa n c] w fun e w' => ∃ v, e = .returned v ∧ R46.Own w' w.heap.size v (detOf lg ds F G L) ∧ Below w.heap.size w w' := by
  have hal := (Below.refl w.heap.size w).alloc (Nat.le_refl _) (.cells C 26)
  have h0 : (w.alloc (.cells C 26)).heap[w.heap.size]? = some (.cells C 26) := hnew _ _
  have HR := Lib.hid (rank_any oa n c L _ B (hs.keep hal) hc (hi.below (hal.mono hi.hB)))
  have hsz : (Try.prog.info? 26).map (·.size) = some C.size := by rw [HCf.size]; kernel_rfl
  have HA := Lib.hid (And.intro hal (And.intro h0 (And.intro hsz HCf)))
  have HM := Lib.hid (And.intro (HF.keep hal) (And.intro (HG.keep hal) (And.intro (hi.below (hal.mono hi.hB)) (hd.below (hal.mono hi.hB)))))
  have HNx := Lib.hid (show ∀ x ∈ rankOf L, (0 ≤ x.nx ∧ x.nx < 4294967296) ∧ IN.ok (optI F x) ∧ x ∈ L from fun x hx => ⟨hnx x (rankOf_mem hx), hok x (rankOf_mem hx), rankOf_mem hx⟩)
  have hrl := rankOf_length L
  have h60 := hi.h60
  have HWs := Lib.hid (show (w.alloc (.cells C 26)).heap.size = w.heap.size + 1 by simp)
  obtain ⟨D, hD⟩ : ∃ D, detOf lg ds F G L = D := ⟨_, rfl⟩
  rw [hD]
  unfold detOf at hD
  have HD := Lib.hid hD
  clear hal h0 hs hc hi hnx hok HF HG hd hsz HCf hD
  generalize hRk : rankOf L = Rk at *
  clear hRk
  obtain ⟨N, hN⟩ : ∃ N, Rk.length = N := ⟨_, rfl⟩
  have hN60 : N ≤ 60 := by omega
  have HN := Lib.hid (And.intro hN hrl)
  clear hrl h60
  go_enter Try.func10, Try.ntmps10
  go_wp2_with fail
  generalize w.alloc (.cells C 26) = W1 at *
  refine (HR.out).mono ?_
  rintro e W2 ⟨v, rfl, hown, hb2⟩
  have F2 := Lib.hid (And.intro (HA.out.1.trans (hb2.mono HA.out.1.size)) (And.intro ((hb2.block _ (lt_of_blk HA.out.2.1)).trans HA.out.2.1) (And.intro (HM.out.1.keep hb2) (And.intro (HM.out.2.1.keep hb2) (And.intro (HM.out.2.2.1.below (hb2.mono HM.out.2.2.1.hB)) (HM.out.2.2.2.below (hb2.mono HM.out.2.2.1.hB)))))))
  clear hb2 HR HM
  rcases hown.cases with ⟨rfl, rfl⟩ | ⟨g, cap, hv, hg, hgl, hl1, hl2, hrow, hfr, hcur⟩
  · have hDn : D = [] := HD.out.symm
    subst hDn
    go_wp2_with fail
    go_ret
    exact ⟨_, rfl, Rep.Own.nil _ _, F2.out.1⟩
  · rw [hN] at hv hl1
    subst hv
    by_cases hne : Rk = []
    · subst hne
      obtain rfl : N = 0 := hN.symm
      have hDn : D = [] := HD.out.symm
      subst hDn
      go_wp2_with fail
      go_ret
      exact ⟨_, rfl, Rep.Own.nil _ _, F2.out.1⟩
    · obtain ⟨y, r, rfl⟩ := List.exists_cons_of_ne_nil hne
      have hDd : dets lg ds F G y r = D := HD.out
      obtain ⟨m, rfl⟩ : ∃ m, N = m + 1 := ⟨r.length, by rw [← hN, List.length_cons]⟩
      have hrn : r.length = m := by rw [List.length_cons] at hN; omega
      have HRN := Lib.hid hrn
      have HRow := Lib.hid (And.intro hrow hgl)
      have HDd := Lib.hid hDd
      clear hown hcur hfr hrow hgl hg hne hDd hrn hN
      have hm0 : ((m : Int) + 1 = 0) = False := eq_false (by omega)
      have hm1 : (((m : Int) + 1) == 0) = false := by rw [beq_eq_false_iff_ne]; omega
      have hc0 : ((0 : Int) < (m : Int) + 1) = True := eq_true (by omega)
      go_wp2_with fail
      have hyc : ∀ w', Below W2.heap.size W2 w' → RtC g 0 y w' ∧ w'.heap[w.heap.size]? = some (.cells C 26) := fun w' hw' => ⟨by have := rtC_row (HRow.out.1.below hw') (i := 0) (by simp); simpa using this, (hw'.block _ (lt_of_blk F2.out.2.1)).trans F2.out.2.1⟩
      have HX := Lib.hid hyc
      have HNy := Lib.hid (HNx.out y (by simp))
      have HFc := Lib.hid (filt_of HA.out.2.2.2 hp xp y (optI F y))
      obtain ⟨Fc, hFc⟩ := HFc.out
      have HFc := Lib.hid hFc
      clear hyc hFc
      refine wp_region_heldP (Below W2.heap.size W2) (by kernel_rfl) ?_
      have HB := Lib.hid (Below.refl W2.heap.size W2).drew
      generalize W2.drew = W3 at *
      refine held_reads [0, 1, 2, 3, 4, 5, 6] (g := 4) rfl (by kernel_rfl) HB.out (fun _ _ d _ _ h => by cases d <;> exact h) ?_
      simp only [pick, List.getD_cons_zero, List.getD_cons_succ]
      (with_reducible refine wpRead_step (fun K hK => ?_))
      refine (if_pos (by rfl)).mpr ⟨.agg C, fun w' hw' => exec_load_whole 26 _ rfl w.heap.size C rfl (HX.out w' hw').2 Try.underlying26 rfl HA.out.2.2.1, hK _ ?_⟩
      clear hK K
      iterate 6 ((with_reducible refine wpRead_step (fun K hK => ?_)); go_simp; first | ((with_reducible refine hK _ ?_); clear hK K) | (apply Exists.intro; (with_reducible refine ⟨fun w' hw' => ?_, hK _ ?_⟩); (obtain ⟨f0, f1, f2, f3, f4, f5, f6, f7, f8, f9⟩ := (HX.out _ hw').1; go_simp; first | exact rfl | exact ⟨rfl, rfl⟩); clear hK K))
      with_reducible refine wpRead_nil ?_
      refine held_two 7 9 (by kernel_rfl) ?_ ?_
      · simp only [pick, List.getD_cons_zero, List.getD_cons_succ]
        go_wp2_with fail
        refine (option_any (F2.out.2.2.1.keep HB.out) y HNy.out.1).mono ?_
        rintro e W4 ⟨rfl, hb4⟩
        have HB := Lib.hid (bcall HB.out (Nat.le_refl _) hb4)
        clear hb4
        go_wp2_with fail
        refine ⟨HB.out, ?_⟩
        refine held_reads [8] (g := 2) rfl (by kernel_rfl) HB.out (fun _ _ d _ _ h => by cases d <;> exact h) ?_
        simp only [pick, List.getD_cons_zero, List.getD_cons_succ]
        (with_reducible refine wpRead_step (fun K hK => ?_))
        refine (if_pos (by rfl)).mpr ⟨.agg Fc, fun w' hw' => exec_build 80 #[(0, .tmp 20), (1, .tmp 21), (2, .tmp 22), (3, .tmp 27)] rfl Fc HFc.out.1, hK _ ?_⟩
        clear hK K
        with_reducible refine wpRead_nil ?_
        refine held_one 9 (by kernel_rfl) ?_
        simp only [pick, List.getD_cons_zero, List.getD_cons_succ]
        have HBo := Lib.hid HB.out
        go_wp2_with fail
        have hal := (Below.refl W4.heap.size W4).alloc (Nat.le_refl _) (.cells #[.int .i64 0, .int .u32 0, .int .i64 0, .int .i64 0, .int .i64 0, .int .i64 0, .int .i64 0, .slice none 0 0, .int .i64 0, .int .i64 0, .int .i64 0, .int .i64 0, .int .i64 0, .int .i64 0, .int .i64 0, .int .i64 0, .int .i64 0, .slice none 0 0, .int .i64 0, .int .i64 0, .pointer none, .pointer none, .int .i64 0, .int .u32 0, .int .i64 0, .int .i64 0, .int .i64 0, .slice none 0 0, .int .u32 0, .int .i64 0, .int .i64 0, .slice none 0 0, .int .i64 0] 80)
        have hzz : (W4.alloc (.cells #[.int .i64 0, .int .u32 0, .int .i64 0, .int .i64 0, .int .i64 0, .int .i64 0, .int .i64 0, .slice none 0 0, .int .i64 0, .int .i64 0, .int .i64 0, .int .i64 0, .int .i64 0, .int .i64 0, .int .i64 0, .int .i64 0, .int .i64 0, .slice none 0 0, .int .i64 0, .int .i64 0, .pointer none, .pointer none, .int .i64 0, .int .u32 0, .int .i64 0, .int .i64 0, .int .i64 0, .slice none 0 0, .int .u32 0, .int .i64 0, .int .i64 0, .slice none 0 0, .int .i64 0] 80)).heap[W4.heap.size]? = some (.cells #[.int .i64 0, .int .u32 0, .int .i64 0, .int .i64 0, .int .i64 0, .int .i64 0, .int .i64 0, .slice none 0 0, .int .i64 0, .int .i64 0, .int .i64 0, .int .i64 0, .int .i64 0, .int .i64 0, .int .i64 0, .int .i64 0, .int .i64 0, .slice none 0 0, .int .i64 0, .int .i64 0, .pointer none, .pointer none, .int .i64 0, .int .u32 0, .int .i64 0, .int .i64 0, .int .i64 0, .slice none 0 0, .int .u32 0, .int .i64 0, .int .i64 0, .slice none 0 0, .int .i64 0] 80) := hnew _ _
        have HZZ := Lib.hid hzz
        have HB := Lib.hid (bcall HB.out (Nat.le_refl _) hal)
        have hfb : W2.heap.size ≤ W4.heap.size := HBo.out.size
        have HFb := Lib.hid hfb
        clear hal hzz hfb
        generalize W4.alloc (.cells #[.int .i64 0, .int .u32 0, .int .i64 0, .int .i64 0, .int .i64 0, .int .i64 0, .int .i64 0, .slice none 0 0, .int .i64 0, .int .i64 0, .int .i64 0, .int .i64 0, .int .i64 0, .int .i64 0, .int .i64 0, .int .i64 0, .int .i64 0, .slice none 0 0, .int .i64 0, .int .i64 0, .pointer none, .pointer none, .int .i64 0, .int .u32 0, .int .i64 0, .int .i64 0, .int .i64 0, .slice none 0 0, .int .u32 0, .int .i64 0, .int .i64 0, .slice none 0 0, .int .i64 0] 80) = W5 at *
        generalize W4.heap.size = fb at *
        refine ⟨HB.out, ?_⟩
        refine held_one 10 (by kernel_rfl) ?_
        simp only [pick, List.getD_cons_zero, List.getD_cons_succ]
        go_wp2_with (with_reducible refine halt_store 80 rfl ?_)
        refine Halted.go ?_
        refine store_whole rfl 80 _ _ rfl fb Fc rfl rfl HZZ.out (by rw [HFc.out.2.size]; rfl) (by rw [HFc.out.2.size]; kernel_rfl) HFc.out.2.one ?_
        intro Wz hwz hsz
        have HT := Lib.hid (And.intro (HB.out.trans (hsz.below HFb.out)) hwz)
        clear hwz hsz HB HZZ
        go_wp2_with fail
        refine ⟨HT.out.1, ?_⟩
        refine wpAnyH_done (by kernel_rfl) ?_ _
        go_wp2_with fail
        · obtain rfl : m = 0 := by omega
          rw [show ((0 : Nat) : Int) = 0 from rfl]
          have hr0 : r = [] := List.length_eq_zero_iff.1 HRN.out
          have hDn : D = [] := by rw [← HDd.out, hr0]; rfl
          subst hDn
          have HZ := Lib.hid (F2.out.1.trans (HT.out.1.mono F2.out.1.size))
          clear HT
          go_loopw [11, 32] (fun ov iv wr => ov = .slice none 0 0 ∧ iv = .int .i64 0 ∧ wr = Wz) (fun _ _ _ => 0)
          case atStart => exact ⟨rfl, rfl, rfl⟩
          case round =>
            obtain ⟨rfl, rfl, rfl⟩ := hrel
            go_wp2_with fail
            go_ret
            exact ⟨_, rfl, Rep.Own.nil _ _, HZ.out⟩
        · have hbz := HT.out.1
          have hrz : R40.Row Wz g 10 r := by have := (HRow.out.1.below hbz).drop 1; rw [Nat.zero_add, Nat.one_mul] at this; exact this
          have hBW := F2.out.2.2.2.2.1.hB
          have HZ := Lib.hid (And.intro (F2.out.1.trans (hbz.mono F2.out.1.size)) (And.intro HT.out.2 (And.intro (F2.out.2.2.1.keep hbz) (And.intro (F2.out.2.2.2.1.keep hbz) (And.intro (F2.out.2.2.2.2.1.below (hbz.mono hBW)) (And.intro (F2.out.2.2.2.2.2.below (hbz.mono hBW)) hrz))))))
          clear hbz hrz HT hBW
          go_loopw [11, 32] (fun ov iv wr => ∃ i : Nat, i ≤ m ∧ iv = .int .i64 i ∧ R46.Own wr Wz.heap.size ov (dets lg ds F G y (r.take i)) ∧ Below Wz.heap.size Wz wr) (fun _ iv _ => m - (intOf iv).toNat)
          case atStart => exact ⟨0, Nat.zero_le _, rfl, Rep.Own.nil _ _, Below.refl _ _⟩
          case round =>
            obtain ⟨i, hi, rfl, hown, hb⟩ := hrel
            by_cases hlt : i < m
            · have hil : ((i : Int) < (m : Int)) = True := by simp; omega
              have hw3 := wrapS hlt (show m ≤ maxLen by unfold maxLen; omega)
              have hrl : i < r.length := by rw [HRN.out]; exact hlt
              have hxc := rtC_row (HZ.out.2.2.2.2.2.2.below hb) hrl
              have t1 := dets_succ (lg := lg) (ds := ds) (F := F) (G := G) (y := y) hrl
              have hxm := HNx.out _ (List.mem_cons_of_mem _ (getD_mem hrl))
              have hdl : (dets lg ds F G y (r.take i)).length ≤ 60 := Nat.le_trans dets_length (by rw [List.length_take]; omega)
              generalize r.getD i default = x at *
              obtain ⟨f0, f1, f2, f3, f4, f5, f6, f7, f8, f9⟩ := hxc
              have hal := (Below.refl wr.heap.size wr).alloc (Nat.le_refl _) (.cells #[.int .i64 x.r, .int .u32 x.a, .int .i64 x.l, .int .i64 x.i, .int .i64 x.o, .slice x.pa x.pn x.pc, .int .u32 x.nx, .int .i64 x.md, .int .i64 x.pf, .slice x.ca x.cn x.cc] 44)
              have HB := Lib.hid (And.intro (bcall hb (Nat.le_refl _) hal) (And.intro (hown.below hal) (show (wr.alloc (.cells #[.int .i64 x.r, .int .u32 x.a, .int .i64 x.l, .int .i64 x.i, .int .i64 x.o, .slice x.pa x.pn x.pc, .int .u32 x.nx, .int .i64 x.md, .int .i64 x.pf, .slice x.ca x.cn x.cc] 44)).heap[wr.heap.size]? = some (.cells #[.int .i64 x.r, .int .u32 x.a, .int .i64 x.l, .int .i64 x.i, .int .i64 x.o, .slice x.pa x.pn x.pc, .int .u32 x.nx, .int .i64 x.md, .int .i64 x.pf, .slice x.ca x.cn x.cc] 44) from hnew _ _)))
              have HXm := Lib.hid hxm
              have HT1 := Lib.hid t1
              clear hb hown hal hxm t1
              go_wp2_with fail
              generalize wr.alloc (.cells #[.int .i64 x.r, .int .u32 x.a, .int .i64 x.l, .int .i64 x.i, .int .i64 x.o, .slice x.pa x.pn x.pc, .int .u32 x.nx, .int .i64 x.md, .int .i64 x.pf, .slice x.ca x.cn x.cc] 44) = W5 at *
              generalize wr.heap.size = q5 at *
              refine (option_any (HZ.out.2.2.1.keep HB.out.1) x HXm.out.1).mono ?_
              rintro e W6 ⟨rfl, hb6⟩
              have hal6 := (Below.refl W6.heap.size W6).alloc (Nat.le_refl _) (.cells #[.int .i64 x.r, .int .u32 x.a, .int .i64 x.l, .int .i64 x.i, .int .i64 x.o, .slice x.pa x.pn x.pc, .int .u32 x.nx, .int .i64 x.md, .int .i64 x.pf, .slice x.ca x.cn x.cc, .int .i64 (optI F x)] 46)
              have HB6 := Lib.hid (And.intro (bcall (bcall HB.out.1 (Nat.le_refl _) hb6) (Nat.le_refl _) hal6) (And.intro ((HB.out.2.1.below hb6).below hal6) (show (W6.alloc (.cells #[.int .i64 x.r, .int .u32 x.a, .int .i64 x.l, .int .i64 x.i, .int .i64 x.o, .slice x.pa x.pn x.pc, .int .u32 x.nx, .int .i64 x.md, .int .i64 x.pf, .slice x.ca x.cn x.cc, .int .i64 (optI F x)] 46)).heap[W6.heap.size]? = some (.cells #[.int .i64 x.r, .int .u32 x.a, .int .i64 x.l, .int .i64 x.i, .int .i64 x.o, .slice x.pa x.pn x.pc, .int .u32 x.nx, .int .i64 x.md, .int .i64 x.pf, .slice x.ca x.cn x.cc, .int .i64 (optI F x)] 46) from hnew _ _)))
              clear hb6 hal6 HB f0 f1 f2 f3 f4 f5 f6 f7 f8 f9
              have hxe : x.cand (optI F x) = .agg #[.int .i64 x.r, .int .u32 x.a, .int .i64 x.l, .int .i64 x.i, .int .i64 x.o, .slice x.pa x.pn x.pc, .int .u32 x.nx, .int .i64 x.md, .int .i64 x.pf, .slice x.ca x.cn x.cc, .int .i64 (optI F x)] := rfl
              rw [hxe]
              have HXe := Lib.hid hxe
              clear hxe
              go_wp2_with (with_reducible refine halt_load 80 rfl ?_)
              refine Halted.go ?_
              generalize W6.alloc (.cells #[.int .i64 x.r, .int .u32 x.a, .int .i64 x.l, .int .i64 x.i, .int .i64 x.o, .slice x.pa x.pn x.pc, .int .u32 x.nx, .int .i64 x.md, .int .i64 x.pf, .slice x.ca x.cn x.cc, .int .i64 (optI F x)] 46) = W7 at *
              generalize W6.heap.size = q6 at *
              refine load_whole rfl 80 _ rfl fb Fc rfl ((HB6.out.1.block _ (lt_of_blk HZ.out.2.1)).trans HZ.out.2.1) Try.underlying80 rfl (by rw [HFc.out.2.size]; kernel_rfl) ?_
              obtain ⟨g0, g1, g2, g3, g4, g5, g6, g7, g8, g9, g10⟩ := optC_of HB6.out.2.2
              have hBz := HZ.out.2.2.2.2.1.hB
              have hbw := HB6.out.1.mono hBz
              have hins := HZ.out.2.2.2.2.1.below hbw
              have hyy := hins.ok y (HNx.out y (by simp)).2.2
              have hxx := hins.ok x HXm.out.2.2
              have hcall := allowed_any HFc.out.2 hins.hB (HZ.out.2.2.2.2.2.1.below hbw) (HZ.out.2.2.2.1.keep HB6.out.1) hxx.1 hxx.2 hyy.1 hyy.2 HXm.out.2.1
              rw [HXe.out] at hcall
              have HCl := Lib.hid hcall
              clear hcall hxx hyy hins hbw hBz
              go_wp2_with fail
              refine HCl.out.mono ?_
              rintro e W8 ⟨rfl, hb8⟩
              have HB8 := Lib.hid (And.intro (bcall HB6.out.1 (Nat.le_refl _) hb8) (And.intro (HB6.out.2.1.below hb8) ((hb8.block _ (lt_of_blk HB6.out.2.2)).trans HB6.out.2.2)))
              clear hb8 HB6 HCl g0 g1 g2 g3 g4 g5 g6 g7 g8 g9 g10
              cases hab : allowB lg ds G (x, optI F x) (y, optI F y) with
              | false =>
                have ht2 := HT1.out
                rw [hab, if_neg (by decide), List.append_nil] at ht2
                have HB9 := Lib.hid (And.intro HB8.out.1 (ht2 ▸ HB8.out.2.1))
                clear ht2 hab HB8
                go_wp2_with fail
                go_roundw
                case rel => exact ⟨i + 1, hlt, by first | rw [hw3] | rw [Int.natCast_succ], HB9.out.2, HB9.out.1⟩
                case measure => first | (rw [hw3]; exact mSucc hlt) | (rw [← Int.natCast_succ]; exact mSucc hlt)
              | true =>
                have ht2 := HT1.out
                rw [hab, if_pos rfl] at ht2
                have HT2 := Lib.hid ht2
                obtain ⟨g0, g1, g2, g3, g4, g5, g6, g7, g8, g9, g10⟩ := optC_of HB8.out.2.2
                clear ht2 hab
                go_wp2_with (at_builtin; refine halt ?_)
                refine Halted.go ?_
                have hal9 := (Below.refl W8.heap.size W8).alloc (Nat.le_refl _) (.cells #[.int .i64 x.r, .int .u32 x.a, .int .i64 x.l, .int .i64 x.i, .int .i64 x.o, .slice x.pa x.pn x.pc, .int .u32 x.nx, .int .i64 x.md, .int .i64 x.pf, .slice x.ca x.cn x.cc, .int .i64 (optI F x)] 46)
                have hone : R46.Sl (W8.alloc (.cells #[.int .i64 x.r, .int .u32 x.a, .int .i64 x.l, .int .i64 x.i, .int .i64 x.o, .slice x.pa x.pn x.pc, .int .u32 x.nx, .int .i64 x.md, .int .i64 x.pf, .slice x.ca x.cn x.cc, .int .i64 (optI F x)] 46)) (some ⟨W8.heap.size, 0, none⟩) 1 1 [(x, optI F x)] := Rep.sl_one (R := R46) (y := (x, optI F x)) (hnew _ _)
                have HB9 := Lib.hid (And.intro (bcall HB8.out.1 (Nat.le_refl _) hal9) (And.intro (HB8.out.2.1.below hal9) hone))
                clear hal9 hone HB8 g0 g1 g2 g3 g4 g5 g6 g7 g8 g9 g10
                generalize W8.alloc (.cells #[.int .i64 x.r, .int .u32 x.a, .int .i64 x.l, .int .i64 x.i, .int .i64 x.o, .slice x.pa x.pn x.pc, .int .u32 x.nx, .int .i64 x.md, .int .i64 x.pf, .slice x.ca x.cn x.cc, .int .i64 (optI F x)] 46) = W9 at *
                generalize W8.heap.size = q8 at *
                refine Rep.append_list T49 rfl _ _ rfl rfl HB9.out.2.1 rfl HB9.out.2.2 (fun e => by cases e) (by unfold maxLen; omega) (by omega) HB9.out.1.size ?_
                intro vb Wb hownb hbb _
                rw [← HT2.out] at hownb
                have HBb := Lib.hid (And.intro (HB9.out.1.trans hbb) hownb)
                clear hownb hbb HB9
                go_wp2_with fail
                go_roundw
                case rel => exact ⟨i + 1, hlt, by first | rw [hw3] | rw [Int.natCast_succ], HBb.out.2, HBb.out.1⟩
                case measure => first | (rw [hw3]; exact mSucc hlt) | (rw [← Int.natCast_succ]; exact mSucc hlt)
            · obtain rfl : m = i := by omega
              have hil : ((m : Int) < (m : Int)) = False := by simp
              rw [List.take_of_length_le (by rw [HRN.out]; exact Nat.le_refl _), HDd.out] at hown
              have HBb := Lib.hid (And.intro (hown.mono HZ.out.1.size) (HZ.out.1.trans (hb.mono HZ.out.1.size)))
              clear hb hown
              go_wp2_with fail
              go_ret
              exact ⟨_, rfl, HBb.out⟩
      · simp only [pick, List.getD_cons_zero, List.getD_cons_succ]
        have HBo := Lib.hid HB.out
        go_wp2_with fail
        have hal := (Below.refl W3.heap.size W3).alloc (Nat.le_refl _) (.cells #[.int .i64 0, .int .u32 0, .int .i64 0, .int .i64 0, .int .i64 0, .int .i64 0, .int .i64 0, .slice none 0 0, .int .i64 0, .int .i64 0, .int .i64 0, .int .i64 0, .int .i64 0, .int .i64 0, .int .i64 0, .int .i64 0, .int .i64 0, .slice none 0 0, .int .i64 0, .int .i64 0, .pointer none, .pointer none, .int .i64 0, .int .u32 0, .int .i64 0, .int .i64 0, .int .i64 0, .slice none 0 0, .int .u32 0, .int .i64 0, .int .i64 0, .slice none 0 0, .int .i64 0] 80)
        have hzz : (W3.alloc (.cells #[.int .i64 0, .int .u32 0, .int .i64 0, .int .i64 0, .int .i64 0, .int .i64 0, .int .i64 0, .slice none 0 0, .int .i64 0, .int .i64 0, .int .i64 0, .int .i64 0, .int .i64 0, .int .i64 0, .int .i64 0, .int .i64 0, .int .i64 0, .slice none 0 0, .int .i64 0, .int .i64 0, .pointer none, .pointer none, .int .i64 0, .int .u32 0, .int .i64 0, .int .i64 0, .int .i64 0, .slice none 0 0, .int .u32 0, .int .i64 0, .int .i64 0, .slice none 0 0, .int .i64 0] 80)).heap[W3.heap.size]? = some (.cells #[.int .i64 0, .int .u32 0, .int .i64 0, .int .i64 0, .int .i64 0, .int .i64 0, .int .i64 0, .slice none 0 0, .int .i64 0, .int .i64 0, .int .i64 0, .int .i64 0, .int .i64 0, .int .i64 0, .int .i64 0, .int .i64 0, .int .i64 0, .slice none 0 0, .int .i64 0, .int .i64 0, .pointer none, .pointer none, .int .i64 0, .int .u32 0, .int .i64 0, .int .i64 0, .int .i64 0, .slice none 0 0, .int .u32 0, .int .i64 0, .int .i64 0, .slice none 0 0, .int .i64 0] 80) := hnew _ _
        have HZZ := Lib.hid hzz
        have HB := Lib.hid (bcall HB.out (Nat.le_refl _) hal)
        have hfb : W2.heap.size ≤ W3.heap.size := HBo.out.size
        have HFb := Lib.hid hfb
        clear hal hzz hfb
        generalize W3.alloc (.cells #[.int .i64 0, .int .u32 0, .int .i64 0, .int .i64 0, .int .i64 0, .int .i64 0, .int .i64 0, .slice none 0 0, .int .i64 0, .int .i64 0, .int .i64 0, .int .i64 0, .int .i64 0, .int .i64 0, .int .i64 0, .int .i64 0, .int .i64 0, .slice none 0 0, .int .i64 0, .int .i64 0, .pointer none, .pointer none, .int .i64 0, .int .u32 0, .int .i64 0, .int .i64 0, .int .i64 0, .slice none 0 0, .int .u32 0, .int .i64 0, .int .i64 0, .slice none 0 0, .int .i64 0] 80) = W4 at *
        generalize W3.heap.size = fb at *
        refine ⟨HB.out, ?_⟩
        refine held_one 7 (by kernel_rfl) ?_
        simp only [pick, List.getD_cons_zero, List.getD_cons_succ]
        go_wp2_with fail
        refine (option_any (F2.out.2.2.1.keep HB.out) y HNy.out.1).mono ?_
        rintro e W5 ⟨rfl, hb4⟩
        have HB := Lib.hid (bcall HB.out (Nat.le_refl _) hb4)
        have HZZ := Lib.hid ((hb4.block _ (lt_of_blk HZZ.out)).trans HZZ.out)
        clear hb4
        go_wp2_with fail
        refine ⟨HB.out, ?_⟩
        refine held_reads [8] (g := 1) rfl (by kernel_rfl) HB.out (fun _ _ d _ _ h => by cases d <;> exact h) ?_
        simp only [pick, List.getD_cons_zero, List.getD_cons_succ]
        (with_reducible refine wpRead_step (fun K hK => ?_))
        refine (if_pos (by rfl)).mpr ⟨.agg Fc, fun w' hw' => exec_build 80 #[(0, .tmp 20), (1, .tmp 21), (2, .tmp 22), (3, .tmp 27)] rfl Fc HFc.out.1, hK _ ?_⟩
        clear hK K
        with_reducible refine wpRead_nil ?_
        refine held_one 10 (by kernel_rfl) ?_
        simp only [pick, List.getD_cons_zero, List.getD_cons_succ]
        go_wp2_with (with_reducible refine halt_store 80 rfl ?_)
        refine Halted.go ?_
        refine store_whole rfl 80 _ _ rfl fb Fc rfl rfl HZZ.out (by rw [HFc.out.2.size]; rfl) (by rw [HFc.out.2.size]; kernel_rfl) HFc.out.2.one ?_
        intro Wz hwz hsz
        have HT := Lib.hid (And.intro (HB.out.trans (hsz.below HFb.out)) hwz)
        clear hwz hsz HB HZZ
        go_wp2_with fail
        refine ⟨HT.out.1, ?_⟩
        refine wpAnyH_done (by kernel_rfl) ?_ _
        go_wp2_with fail
        · obtain rfl : m = 0 := by omega
          rw [show ((0 : Nat) : Int) = 0 from rfl]
          have hr0 : r = [] := List.length_eq_zero_iff.1 HRN.out
          have hDn : D = [] := by rw [← HDd.out, hr0]; rfl
          subst hDn
          have HZ := Lib.hid (F2.out.1.trans (HT.out.1.mono F2.out.1.size))
          clear HT
          go_loopw [11, 32] (fun ov iv wr => ov = .slice none 0 0 ∧ iv = .int .i64 0 ∧ wr = Wz) (fun _ _ _ => 0)
          case atStart => exact ⟨rfl, rfl, rfl⟩
          case round =>
            obtain ⟨rfl, rfl, rfl⟩ := hrel
            go_wp2_with fail
            go_ret
            exact ⟨_, rfl, Rep.Own.nil _ _, HZ.out⟩
        · have hbz := HT.out.1
          have hrz : R40.Row Wz g 10 r := by have := (HRow.out.1.below hbz).drop 1; rw [Nat.zero_add, Nat.one_mul] at this; exact this
          have hBW := F2.out.2.2.2.2.1.hB
          have HZ := Lib.hid (And.intro (F2.out.1.trans (hbz.mono F2.out.1.size)) (And.intro HT.out.2 (And.intro (F2.out.2.2.1.keep hbz) (And.intro (F2.out.2.2.2.1.keep hbz) (And.intro (F2.out.2.2.2.2.1.below (hbz.mono hBW)) (And.intro (F2.out.2.2.2.2.2.below (hbz.mono hBW)) hrz))))))
          clear hbz hrz HT hBW
          go_loopw [11, 32] (fun ov iv wr => ∃ i : Nat, i ≤ m ∧ iv = .int .i64 i ∧ R46.Own wr Wz.heap.size ov (dets lg ds F G y (r.take i)) ∧ Below Wz.heap.size Wz wr) (fun _ iv _ => m - (intOf iv).toNat)
          case atStart => exact ⟨0, Nat.zero_le _, rfl, Rep.Own.nil _ _, Below.refl _ _⟩
          case round =>
            obtain ⟨i, hi, rfl, hown, hb⟩ := hrel
            by_cases hlt : i < m
            · have hil : ((i : Int) < (m : Int)) = True := by simp; omega
              have hw3 := wrapS hlt (show m ≤ maxLen by unfold maxLen; omega)
              have hrl : i < r.length := by rw [HRN.out]; exact hlt
              have hxc := rtC_row (HZ.out.2.2.2.2.2.2.below hb) hrl
              have t1 := dets_succ (lg := lg) (ds := ds) (F := F) (G := G) (y := y) hrl
              have hxm := HNx.out _ (List.mem_cons_of_mem _ (getD_mem hrl))
              have hdl : (dets lg ds F G y (r.take i)).length ≤ 60 := Nat.le_trans dets_length (by rw [List.length_take]; omega)
              generalize r.getD i default = x at *
              obtain ⟨f0, f1, f2, f3, f4, f5, f6, f7, f8, f9⟩ := hxc
              have hal := (Below.refl wr.heap.size wr).alloc (Nat.le_refl _) (.cells #[.int .i64 x.r, .int .u32 x.a, .int .i64 x.l, .int .i64 x.i, .int .i64 x.o, .slice x.pa x.pn x.pc, .int .u32 x.nx, .int .i64 x.md, .int .i64 x.pf, .slice x.ca x.cn x.cc] 44)
              have HB := Lib.hid (And.intro (bcall hb (Nat.le_refl _) hal) (And.intro (hown.below hal) (show (wr.alloc (.cells #[.int .i64 x.r, .int .u32 x.a, .int .i64 x.l, .int .i64 x.i, .int .i64 x.o, .slice x.pa x.pn x.pc, .int .u32 x.nx, .int .i64 x.md, .int .i64 x.pf, .slice x.ca x.cn x.cc] 44)).heap[wr.heap.size]? = some (.cells #[.int .i64 x.r, .int .u32 x.a, .int .i64 x.l, .int .i64 x.i, .int .i64 x.o, .slice x.pa x.pn x.pc, .int .u32 x.nx, .int .i64 x.md, .int .i64 x.pf, .slice x.ca x.cn x.cc] 44) from hnew _ _)))
              have HXm := Lib.hid hxm
              have HT1 := Lib.hid t1
              clear hb hown hal hxm t1
              go_wp2_with fail
              generalize wr.alloc (.cells #[.int .i64 x.r, .int .u32 x.a, .int .i64 x.l, .int .i64 x.i, .int .i64 x.o, .slice x.pa x.pn x.pc, .int .u32 x.nx, .int .i64 x.md, .int .i64 x.pf, .slice x.ca x.cn x.cc] 44) = W5 at *
              generalize wr.heap.size = q5 at *
              refine (option_any (HZ.out.2.2.1.keep HB.out.1) x HXm.out.1).mono ?_
              rintro e W6 ⟨rfl, hb6⟩
              have hal6 := (Below.refl W6.heap.size W6).alloc (Nat.le_refl _) (.cells #[.int .i64 x.r, .int .u32 x.a, .int .i64 x.l, .int .i64 x.i, .int .i64 x.o, .slice x.pa x.pn x.pc, .int .u32 x.nx, .int .i64 x.md, .int .i64 x.pf, .slice x.ca x.cn x.cc, .int .i64 (optI F x)] 46)
              have HB6 := Lib.hid (And.intro (bcall (bcall HB.out.1 (Nat.le_refl _) hb6) (Nat.le_refl _) hal6) (And.intro ((HB.out.2.1.below hb6).below hal6) (show (W6.alloc (.cells #[.int .i64 x.r, .int .u32 x.a, .int .i64 x.l, .int .i64 x.i, .int .i64 x.o, .slice x.pa x.pn x.pc, .int .u32 x.nx, .int .i64 x.md, .int .i64 x.pf, .slice x.ca x.cn x.cc, .int .i64 (optI F x)] 46)).heap[W6.heap.size]? = some (.cells #[.int .i64 x.r, .int .u32 x.a, .int .i64 x.l, .int .i64 x.i, .int .i64 x.o, .slice x.pa x.pn x.pc, .int .u32 x.nx, .int .i64 x.md, .int .i64 x.pf, .slice x.ca x.cn x.cc, .int .i64 (optI F x)] 46) from hnew _ _)))
              clear hb6 hal6 HB f0 f1 f2 f3 f4 f5 f6 f7 f8 f9
              have hxe : x.cand (optI F x) = .agg #[.int .i64 x.r, .int .u32 x.a, .int .i64 x.l, .int .i64 x.i, .int .i64 x.o, .slice x.pa x.pn x.pc, .int .u32 x.nx, .int .i64 x.md, .int .i64 x.pf, .slice x.ca x.cn x.cc, .int .i64 (optI F x)] := rfl
              rw [hxe]
              have HXe := Lib.hid hxe
              clear hxe
              go_wp2_with (with_reducible refine halt_load 80 rfl ?_)
              refine Halted.go ?_
              generalize W6.alloc (.cells #[.int .i64 x.r, .int .u32 x.a, .int .i64 x.l, .int .i64 x.i, .int .i64 x.o, .slice x.pa x.pn x.pc, .int .u32 x.nx, .int .i64 x.md, .int .i64 x.pf, .slice x.ca x.cn x.cc, .int .i64 (optI F x)] 46) = W7 at *
              generalize W6.heap.size = q6 at *
              refine load_whole rfl 80 _ rfl fb Fc rfl ((HB6.out.1.block _ (lt_of_blk HZ.out.2.1)).trans HZ.out.2.1) Try.underlying80 rfl (by rw [HFc.out.2.size]; kernel_rfl) ?_
              obtain ⟨g0, g1, g2, g3, g4, g5, g6, g7, g8, g9, g10⟩ := optC_of HB6.out.2.2
              have hBz := HZ.out.2.2.2.2.1.hB
              have hbw := HB6.out.1.mono hBz
              have hins := HZ.out.2.2.2.2.1.below hbw
              have hyy := hins.ok y (HNx.out y (by simp)).2.2
              have hxx := hins.ok x HXm.out.2.2
              have hcall := allowed_any HFc.out.2 hins.hB (HZ.out.2.2.2.2.2.1.below hbw) (HZ.out.2.2.2.1.keep HB6.out.1) hxx.1 hxx.2 hyy.1 hyy.2 HXm.out.2.1
              rw [HXe.out] at hcall
              have HCl := Lib.hid hcall
              clear hcall hxx hyy hins hbw hBz
              go_wp2_with fail
              refine HCl.out.mono ?_
              rintro e W8 ⟨rfl, hb8⟩
              have HB8 := Lib.hid (And.intro (bcall HB6.out.1 (Nat.le_refl _) hb8) (And.intro (HB6.out.2.1.below hb8) ((hb8.block _ (lt_of_blk HB6.out.2.2)).trans HB6.out.2.2)))
              clear hb8 HB6 HCl g0 g1 g2 g3 g4 g5 g6 g7 g8 g9 g10
              cases hab : allowB lg ds G (x, optI F x) (y, optI F y) with
              | false =>
                have ht2 := HT1.out
                rw [hab, if_neg (by decide), List.append_nil] at ht2
                have HB9 := Lib.hid (And.intro HB8.out.1 (ht2 ▸ HB8.out.2.1))
                clear ht2 hab HB8
                go_wp2_with fail
                go_roundw
                case rel => exact ⟨i + 1, hlt, by first | rw [hw3] | rw [Int.natCast_succ], HB9.out.2, HB9.out.1⟩
                case measure => first | (rw [hw3]; exact mSucc hlt) | (rw [← Int.natCast_succ]; exact mSucc hlt)
              | true =>
                have ht2 := HT1.out
                rw [hab, if_pos rfl] at ht2
                have HT2 := Lib.hid ht2
                obtain ⟨g0, g1, g2, g3, g4, g5, g6, g7, g8, g9, g10⟩ := optC_of HB8.out.2.2
                clear ht2 hab
                go_wp2_with (at_builtin; refine halt ?_)
                refine Halted.go ?_
                have hal9 := (Below.refl W8.heap.size W8).alloc (Nat.le_refl _) (.cells #[.int .i64 x.r, .int .u32 x.a, .int .i64 x.l, .int .i64 x.i, .int .i64 x.o, .slice x.pa x.pn x.pc, .int .u32 x.nx, .int .i64 x.md, .int .i64 x.pf, .slice x.ca x.cn x.cc, .int .i64 (optI F x)] 46)
                have hone : R46.Sl (W8.alloc (.cells #[.int .i64 x.r, .int .u32 x.a, .int .i64 x.l, .int .i64 x.i, .int .i64 x.o, .slice x.pa x.pn x.pc, .int .u32 x.nx, .int .i64 x.md, .int .i64 x.pf, .slice x.ca x.cn x.cc, .int .i64 (optI F x)] 46)) (some ⟨W8.heap.size, 0, none⟩) 1 1 [(x, optI F x)] := Rep.sl_one (R := R46) (y := (x, optI F x)) (hnew _ _)
                have HB9 := Lib.hid (And.intro (bcall HB8.out.1 (Nat.le_refl _) hal9) (And.intro (HB8.out.2.1.below hal9) hone))
                clear hal9 hone HB8 g0 g1 g2 g3 g4 g5 g6 g7 g8 g9 g10
                generalize W8.alloc (.cells #[.int .i64 x.r, .int .u32 x.a, .int .i64 x.l, .int .i64 x.i, .int .i64 x.o, .slice x.pa x.pn x.pc, .int .u32 x.nx, .int .i64 x.md, .int .i64 x.pf, .slice x.ca x.cn x.cc, .int .i64 (optI F x)] 46) = W9 at *
                generalize W8.heap.size = q8 at *
                refine Rep.append_list T49 rfl _ _ rfl rfl HB9.out.2.1 rfl HB9.out.2.2 (fun e => by cases e) (by unfold maxLen; omega) (by omega) HB9.out.1.size ?_
                intro vb Wb hownb hbb _
                rw [← HT2.out] at hownb
                have HBb := Lib.hid (And.intro (HB9.out.1.trans hbb) hownb)
                clear hownb hbb HB9
                go_wp2_with fail
                go_roundw
                case rel => exact ⟨i + 1, hlt, by first | rw [hw3] | rw [Int.natCast_succ], HBb.out.2, HBb.out.1⟩
                case measure => first | (rw [hw3]; exact mSucc hlt) | (rw [← Int.natCast_succ]; exact mSucc hlt)
            · obtain rfl : m = i := by omega
              have hil : ((m : Int) < (m : Int)) = False := by simp
              rw [List.take_of_length_le (by rw [HRN.out]; exact Nat.le_refl _), HDd.out] at hown
              have HBb := Lib.hid (And.intro (hown.mono HZ.out.1.size) (HZ.out.1.trans (hb.mono HZ.out.1.size)))
              clear hb hown
              go_wp2_with fail
              go_ret
              exact ⟨_, rfl, HBb.out⟩
end Go.Proofs.Ytgainkgbodmciaa
/- Allowed. -/
namespace Go.Proofs.Ytgainkgbodmciaa
open Go.RowKit

set_option maxRecDepth 100000 in
set_option maxHeartbeats 4000000 in
theorem allow21 {w : World} {C : Array Value} {lg : Int} {im : Nat} {da : Option Addr} {dn dc : Nat} (HCf : CfA C lg im da dn dc) {B : Nat} (hB : B ≤ w.heap.size) {ds : List Int} (hd : IntsAt w B da dn ds) {hp xp : Option Addr} {F : Int → Int → Option If} (HF : Finds w (.pointer hp) F) {G : Int → Option Cy} (HG : Gets w (.pointer xp) G) {x y : Rt} (hx : RtOk w B x ∧ Small x) (hy : RtOk w B y ∧ Small y) (hnx : 0 ≤ x.nx ∧ x.nx < 4294967296) (hny : 0 ≤ y.nx ∧ y.nx < 4294967296) (hok : IN.ok (optI F x)) :
    Calls Try.prog 21 #[.agg C, .pointer hp, .pointer xp, y.val, x.val] w fun e w' => e = .returned (.bool (allowB lg ds G (x, optI F x) (y, optI F y))) ∧ Below w.heap.size w w' := by
  have hal := (((Below.refl w.heap.size w).alloc (Nat.le_refl _) (.cells C 26)).alloc (by simp) (.cells #[.int .i64 y.r, .int .u32 y.a, .int .i64 y.l, .int .i64 y.i, .int .i64 y.o, .slice y.pa y.pn y.pc, .int .u32 y.nx, .int .i64 y.md, .int .i64 y.pf, .slice y.ca y.cn y.cc] 44)).alloc (by simp; omega) (.cells #[.int .i64 x.r, .int .u32 x.a, .int .i64 x.l, .int .i64 x.i, .int .i64 x.o, .slice x.pa x.pn x.pc, .int .u32 x.nx, .int .i64 x.md, .int .i64 x.pf, .slice x.ca x.cn x.cc] 44)
  have h0 : (((w.alloc (.cells C 26)).alloc (.cells #[.int .i64 y.r, .int .u32 y.a, .int .i64 y.l, .int .i64 y.i, .int .i64 y.o, .slice y.pa y.pn y.pc, .int .u32 y.nx, .int .i64 y.md, .int .i64 y.pf, .slice y.ca y.cn y.cc] 44)).alloc (.cells #[.int .i64 x.r, .int .u32 x.a, .int .i64 x.l, .int .i64 x.i, .int .i64 x.o, .slice x.pa x.pn x.pc, .int .u32 x.nx, .int .i64 x.md, .int .i64 x.pf, .slice x.ca x.cn x.cc] 44)).heap[w.heap.size]? = some (.cells C 26) := hold (hold (hnew _ _))
  have h1 : (((w.alloc (.cells C 26)).alloc (.cells #[.int .i64 y.r, .int .u32 y.a, .int .i64 y.l, .int .i64 y.i, .int .i64 y.o, .slice y.pa y.pn y.pc, .int .u32 y.nx, .int .i64 y.md, .int .i64 y.pf, .slice y.ca y.cn y.cc] 44)).alloc (.cells #[.int .i64 x.r, .int .u32 x.a, .int .i64 x.l, .int .i64 x.i, .int .i64 x.o, .slice x.pa x.pn x.pc, .int .u32 x.nx, .int .i64 x.md, .int .i64 x.pf, .slice x.ca x.cn x.cc] 44)).heap[w.heap.size + 1]? = some (.cells #[.int .i64 y.r, .int .u32 y.a, .int .i64 y.l, .int .i64 y.i, .int .i64 y.o, .slice y.pa y.pn y.pc, .int .u32 y.nx, .int .i64 y.md, .int .i64 y.pf, .slice y.ca y.cn y.cc] 44) := hold (hnewAt (by simp))
  have h2 : (((w.alloc (.cells C 26)).alloc (.cells #[.int .i64 y.r, .int .u32 y.a, .int .i64 y.l, .int .i64 y.i, .int .i64 y.o, .slice y.pa y.pn y.pc, .int .u32 y.nx, .int .i64 y.md, .int .i64 y.pf, .slice y.ca y.cn y.cc] 44)).alloc (.cells #[.int .i64 x.r, .int .u32 x.a, .int .i64 x.l, .int .i64 x.i, .int .i64 x.o, .slice x.pa x.pn x.pc, .int .u32 x.nx, .int .i64 x.md, .int .i64 x.pf, .slice x.ca x.cn x.cc] 44)).heap[w.heap.size + 1 + 1]? = some (.cells #[.int .i64 x.r, .int .u32 x.a, .int .i64 x.l, .int .i64 x.i, .int .i64 x.o, .slice x.pa x.pn x.pc, .int .u32 x.nx, .int .i64 x.md, .int .i64 x.pf, .slice x.ca x.cn x.cc] 44) := hnewAt (by simp)
  have hsz : (Try.prog.info? 26).map (·.size) = some C.size := by rw [HCf.size]; kernel_rfl
  have hc : ∀ w', Below (((w.alloc (.cells C 26)).alloc (.cells #[.int .i64 y.r, .int .u32 y.a, .int .i64 y.l, .int .i64 y.i, .int .i64 y.o, .slice y.pa y.pn y.pc, .int .u32 y.nx, .int .i64 y.md, .int .i64 y.pf, .slice y.ca y.cn y.cc] 44)).alloc (.cells #[.int .i64 x.r, .int .u32 x.a, .int .i64 x.l, .int .i64 x.i, .int .i64 x.o, .slice x.pa x.pn x.pc, .int .u32 x.nx, .int .i64 x.md, .int .i64 x.pf, .slice x.ca x.cn x.cc] 44)).heap.size (((w.alloc (.cells C 26)).alloc (.cells #[.int .i64 y.r, .int .u32 y.a, .int .i64 y.l, .int .i64 y.i, .int .i64 y.o, .slice y.pa y.pn y.pc, .int .u32 y.nx, .int .i64 y.md, .int .i64 y.pf, .slice y.ca y.cn y.cc] 44)).alloc (.cells #[.int .i64 x.r, .int .u32 x.a, .int .i64 x.l, .int .i64 x.i, .int .i64 x.o, .slice x.pa x.pn x.pc, .int .u32 x.nx, .int .i64 x.md, .int .i64 x.pf, .slice x.ca x.cn x.cc] 44)) w' → (RtC (w.heap.size + 1) 0 y w' ∧ RtC (w.heap.size + 1 + 1) 0 x w') ∧ w'.heap[w.heap.size]? = some (.cells C 26) := fun w' hw' => ⟨⟨rtC_of ((hw'.block _ (lt_of_blk h1)).trans h1), rtC_of ((hw'.block _ (lt_of_blk h2)).trans h2)⟩, (hw'.block _ (lt_of_blk h0)).trans h0⟩
  have HX := Lib.hid hc
  have HA := Lib.hid (And.intro hal (And.intro hsz (And.intro (HF.keep hal) (And.intro (HG.keep hal) (And.intro hd (And.intro hB (And.intro hx (And.intro hy (And.intro hnx (And.intro hny hok))))))))))
  obtain ⟨Fc, hFc⟩ := filt_of HCf hp xp y (optI F y)
  have HFc := Lib.hid hFc
  obtain ⟨BB, hBB⟩ : ∃ BB, allowB lg ds G (x, optI F x) (y, optI F y) = BB := ⟨_, rfl⟩
  rw [hBB]
  have HBB := Lib.hid hBB
  clear hal h0 h1 h2 hsz hc HF HG hd hB hx hy hnx hny hok hFc hBB
  unfold Rt.val
  go_enter Try.func21, Try.ntmps21
  go_wp2_with fail
  generalize (((w.alloc (.cells C 26)).alloc (.cells #[.int .i64 y.r, .int .u32 y.a, .int .i64 y.l, .int .i64 y.i, .int .i64 y.o, .slice y.pa y.pn y.pc, .int .u32 y.nx, .int .i64 y.md, .int .i64 y.pf, .slice y.ca y.cn y.cc] 44)).alloc (.cells #[.int .i64 x.r, .int .u32 x.a, .int .i64 x.l, .int .i64 x.i, .int .i64 x.o, .slice x.pa x.pn x.pc, .int .u32 x.nx, .int .i64 x.md, .int .i64 x.pf, .slice x.ca x.cn x.cc] 44)) = W1 at *
  refine wp_region_heldP (Below W1.heap.size W1) (by kernel_rfl) ?_
  have HB := Lib.hid (Below.refl W1.heap.size W1).drew
  generalize W1.drew = W2 at *
  refine held_reads [0, 1, 2, 3, 4, 7, 8] (g := 5) rfl (by kernel_rfl) HB.out (fun _ _ d _ _ h => by cases d <;> exact h) ?_
  simp only [pick, List.getD_cons_zero, List.getD_cons_succ]
  (with_reducible refine wpRead_step (fun K hK => ?_))
  refine (if_pos (by rfl)).mpr ⟨.agg C, fun w' hw' => exec_load_whole 26 _ rfl w.heap.size C rfl (HX.out w' hw').2 Try.underlying26 rfl HA.out.2.1, hK _ ?_⟩
  clear hK K
  iterate 6 ((with_reducible refine wpRead_step (fun K hK => ?_)); go_simp; first | ((with_reducible refine hK _ ?_); clear hK K) | (apply Exists.intro; (with_reducible refine ⟨fun w' hw' => ?_, hK _ ?_⟩); (obtain ⟨⟨⟨f0, f1, f2, f3, f4, f5, f6, f7, f8, f9⟩, e0, e1, e2, e3, e4, e5, e6, e7, e8, e9⟩, -⟩ := HX.out _ hw'; go_simp; first | exact rfl | exact ⟨rfl, rfl⟩); clear hK K))
  with_reducible refine wpRead_nil ?_
  refine held_one 5 (by kernel_rfl) ?_
  simp only [pick, List.getD_cons_zero, List.getD_cons_succ]
  go_wp2_with fail
  refine (option_any (HA.out.2.2.1.keep HB.out) y HA.out.2.2.2.2.2.2.2.2.2.1).mono ?_
  rintro e W3 ⟨rfl, hbW3⟩
  have HB := Lib.hid (bcall HB.out (Nat.le_refl _) hbW3)
  clear hbW3
  go_wp2_with fail
  refine ⟨HB.out, ?_⟩
  refine held_reads [6] (g := 3) rfl (by kernel_rfl) HB.out (fun _ _ d _ _ h => by cases d <;> exact h) ?_
  simp only [pick, List.getD_cons_zero, List.getD_cons_succ]
  (with_reducible refine wpRead_step (fun K hK => ?_))
  refine (if_pos (by rfl)).mpr ⟨.agg Fc, fun w' hw' => exec_build 80 #[(0, .tmp 11), (1, .tmp 12), (2, .tmp 13), (3, .tmp 16)] rfl Fc HFc.out.1, hK _ ?_⟩
  clear hK K
  with_reducible refine wpRead_nil ?_
  refine held_one 9 (by kernel_rfl) ?_
  simp only [pick, List.getD_cons_zero, List.getD_cons_succ]
  go_wp2_with fail
  refine (option_any (HA.out.2.2.1.keep HB.out) x HA.out.2.2.2.2.2.2.2.2.1).mono ?_
  rintro e W4 ⟨rfl, hbW4⟩
  have HB := Lib.hid (bcall HB.out (Nat.le_refl _) hbW4)
  clear hbW4
  go_wp2_with fail
  refine ⟨HB.out, ?_⟩
  refine held_one 10 (by kernel_rfl) ?_
  simp only [pick, List.getD_cons_zero, List.getD_cons_succ]
  have hbw := HA.out.1.trans (HB.out.mono HA.out.1.size)
  have hBo := HA.out.2.2.2.2.2.1
  have hcall := allowed_any HFc.out.2 (Nat.le_trans hBo hbw.size) (HA.out.2.2.2.2.1.below (hbw.mono hBo)) (HA.out.2.2.2.1.keep HB.out) (HA.out.2.2.2.2.2.2.1.1.below (hbw.mono hBo)) HA.out.2.2.2.2.2.2.1.2 (HA.out.2.2.2.2.2.2.2.1.1.below (hbw.mono hBo)) HA.out.2.2.2.2.2.2.2.1.2 HA.out.2.2.2.2.2.2.2.2.2.2
  rw [HBB.out] at hcall
  have HCl := Lib.hid hcall
  clear hcall hbw hBo
  go_wp2_with fail
  refine HCl.out.mono ?_
  rintro e W5 ⟨rfl, hb5⟩
  have HB := Lib.hid (bcall HB.out (Nat.le_refl _) hb5)
  clear hb5 HCl
  go_wp2_with fail
  refine ⟨HB.out, ?_⟩
  refine held_one 11 (by kernel_rfl) ?_
  simp only [pick, List.getD_cons_zero, List.getD_cons_succ]
  go_wp2_with fail
  refine ⟨HB.out, ?_⟩
  refine wpAnyH_done (by kernel_rfl) ?_ _
  go_wp2_with fail
  go_ret
  exact ⟨rfl, HA.out.1.trans (HB.out.mono HA.out.1.size)⟩
end Go.Proofs.Ytgainkgbodmciaa
/- What lives is made of. -/
namespace Go.Proofs.Ytgainkgbodmciaa
open Go.RowKit

def mkR (pa sa : Option Addr) (id nx pf : Int) : Rt := { r := 0, a := 201326592, l := 8, i := id, o := 0, pa := pa, pn := 1, pc := 1, nx := nx, md := -1, pf := pf, ca := none, cn := 0, cc := 0, path := [⟨false, sa, 1, 1, [7]⟩], comms := [] }
theorem mkR_small (pa sa : Option Addr) (id nx pf : Int) : Small (mkR pa sa id nx pf) := ⟨by show 1 ≤ 20; omega, by show 0 ≤ 100; omega, fun s hs => by obtain rfl := List.mem_singleton.1 hs; show 1 ≤ 200; omega⟩
theorem RtOk.up {w w' : World} {x : Rt} (h : RtOk w w.heap.size x) (hb : Below w.heap.size w w') : RtOk w' w'.heap.size x := by
  have := h.below hb
  exact ⟨⟨this.path.1, this.path.2.1, fun h0 => let ⟨b, o, e, hl, hc⟩ := this.path.2.2.1 h0; ⟨b, o, e, Nat.lt_of_lt_of_le hl hb.size, hc⟩, fun s hs => ⟨(this.path.2.2.2 s hs).1, (this.path.2.2.2 s hs).2.1, fun h0 => let ⟨b, o, e, hl, hc⟩ := (this.path.2.2.2 s hs).2.2 h0; ⟨b, o, e, Nat.lt_of_lt_of_le hl hb.size, hc⟩⟩⟩,
      ⟨this.comms.1, this.comms.2.1, fun h0 => let ⟨b, o, e, hl, hc⟩ := this.comms.2.2 h0; ⟨b, o, e, Nat.lt_of_lt_of_le hl hb.size, hc⟩⟩, this.pf1, this.fr⟩
theorem IntsAt.move {w w' : World} {B B' q : Nat} {oa : Option Addr} {n : Nat} {xs : List Int} (h : IntsAt w B oa n xs) (hm : ∀ k, k < B → k ≠ q → w'.heap[k]? = w.heap[k]?) (hB : B ≤ B') (hq : ∀ b o, oa = some ⟨b, o, none⟩ → b ≠ q) : IntsAt w' B' oa n xs :=
  ⟨h.1, h.2.1, fun h0 => by
    obtain ⟨b, o, e, hl, hc⟩ := h.2.2 h0
    exact ⟨b, o, e, Nat.lt_of_lt_of_le hl hB, fun i hi => (cell_same (hm b hl (hq b o e))).trans (hc i hi)⟩⟩
theorem PathAt.move {w w' : World} {B B' q : Nat} {oa : Option Addr} {n : Nat} {p : List SegV} (h : PathAt w B oa n p) (hm : ∀ k, k < B → k ≠ q → w'.heap[k]? = w.heap[k]?) (hB : B ≤ B') (hq : ∀ b o, oa = some ⟨b, o, none⟩ → b ≠ q) (hs : ∀ s ∈ p, ∀ b o, s.sa = some ⟨b, o, none⟩ → b ≠ q) : PathAt w' B' oa n p :=
  ⟨h.1, h.2.1, fun h0 => by
    obtain ⟨b, o, e, hl, hc⟩ := h.2.2.1 h0
    exact ⟨b, o, e, Nat.lt_of_lt_of_le hl hB, fun i hi => ⟨(cell_same (hm b hl (hq b o e))).trans (hc i hi).1, (cell_same (hm b hl (hq b o e))).trans (hc i hi).2⟩⟩, fun s hs' => (h.2.2.2 s hs').move hm hB (hs s hs')⟩
set_option maxRecDepth 100000 in
set_option maxHeartbeats 1000000 in
theorem route20 (id nx pf : Int) (hpf : pf ≤ 9223372036854775807) (w : World) : Calls Try.prog 20 #[.int .i64 id, .int .u32 nx, .int .i64 pf] w fun e w' => (∃ pa sa, e = .returned (mkR pa sa id nx pf).val ∧ RtOk w' w'.heap.size (mkR pa sa id nx pf) ∧ (∀ b o, pa = some ⟨b, o, none⟩ → w.heap.size ≤ b) ∧ ∀ b o, sa = some ⟨b, o, none⟩ → w.heap.size ≤ b) ∧ Below w.heap.size w w' := by
  have hal := (Below.refl w.heap.size w).alloc (Nat.le_refl _) (.cells #[.int .i64 0, .int .u32 0, .int .i64 0, .int .i64 0, .int .i64 0, .slice none 0 0, .int .u32 0, .int .i64 0, .int .i64 0, .slice none 0 0] 44)
  have h0 : (w.alloc (.cells #[.int .i64 0, .int .u32 0, .int .i64 0, .int .i64 0, .int .i64 0, .slice none 0 0, .int .u32 0, .int .i64 0, .int .i64 0, .slice none 0 0] 44)).heap[w.heap.size]? = some (.cells #[.int .i64 0, .int .u32 0, .int .i64 0, .int .i64 0, .int .i64 0, .slice none 0 0, .int .u32 0, .int .i64 0, .int .i64 0, .slice none 0 0] 44) := hnew _ _
  have HA := Lib.hid (And.intro hal (And.intro h0 hpf))
  clear hal h0 hpf
  go_enter Try.func20, Try.ntmps20
  go_wp2_with fail
  generalize w.alloc (.cells #[.int .i64 0, .int .u32 0, .int .i64 0, .int .i64 0, .int .i64 0, .slice none 0 0, .int .u32 0, .int .i64 0, .int .i64 0, .slice none 0 0] 44) = W2 at *
  refine (said_any 7 nx W2).mono ?_
  rintro e W3 ⟨rfl, hpath, hb3⟩
  have hal4 := (Below.refl W3.heap.size W3).alloc (Nat.le_refl _) (.cells #[.int .i64 0, .slice (some ⟨W2.heap.size + 2, 0, none⟩) 1 1, .int .u32 nx, .int .i64 (-1), .int .i64 pf, .slice none 0 0] 42)
  have h44 := (hb3.block _ (lt_of_blk HA.out.2.1)).trans HA.out.2.1
  have HB := Lib.hid (And.intro (bcall HA.out.1 (Nat.le_refl _) (bcall hb3 (Nat.le_refl _) hal4)) (And.intro (hold h44 : (W3.alloc (.cells #[.int .i64 0, .slice (some ⟨W2.heap.size + 2, 0, none⟩) 1 1, .int .u32 nx, .int .i64 (-1), .int .i64 pf, .slice none 0 0] 42)).heap[w.heap.size]? = _) (And.intro hal4 (And.intro hpath (And.intro hb3 (lt_of_blk HA.out.2.1))))))
  clear hal4 hb3 hpath h44
  go_wp2_with (with_reducible refine halt_store 44 rfl ?_)
  refine Halted.go ?_
  refine store_whole rfl 44 _ _ rfl w.heap.size (mkR (some ⟨W2.heap.size + 2, 0, none⟩) (some ⟨W2.heap.size + 1, 0, none⟩) id nx pf).cells.toArray rfl rfl HB.out.2.1 rfl (by kernel_rfl) (by simp [Value.oneCell', mkR, Rt.cells]) ?_
  intro Wz hwz hsz
  have hpz : PathAt Wz Wz.heap.size (some ⟨W2.heap.size + 2, 0, none⟩) 1 [⟨false, some ⟨W2.heap.size + 1, 0, none⟩, 1, 1, [7]⟩] := by
    obtain ⟨-, -, hal4, hp, hb3, hlt⟩ := HB.out
    have hsz4 := hal4.size
    have hsz3 := hb3.size
    refine hp.move (q := w.heap.size) (fun k hk hne => (hsz.other hne).trans (hal4.block k hk)) (by rw [hsz.size]; exact hsz4) (fun b o e => ?_) (fun s hs b o e => ?_)
    · injection e with e; injection e with e; omega
    · obtain rfl := List.mem_singleton.1 hs
      dsimp only at e
      injection e with e; injection e with e; omega
  have HZ := Lib.hid (And.intro hwz (And.intro (Below.trans HB.out.1 (hsz.below (Nat.le_refl _))) hpz))
  clear hwz hsz hpz
  go_wp2_with fail
  refine ret_cell rfl rfl rfl HZ.out.1 Try.underlying44 rfl (by kernel_rfl) ?_
  have hw2 := HA.out.1.size
  exact ⟨⟨_, _, rfl, ⟨HZ.out.2.2, ⟨rfl, by show 0 ≤ maxLen; omega, fun h => absurd h (Nat.lt_irrefl _)⟩, HA.out.2.2, by show -9223372036854775808 ≤ (7 : Int) ∧ (7 : Int) ≤ 9223372036854775807; omega⟩, fun b o e => (by injection e with e; injection e with e; omega), fun b o e => (by injection e with e; injection e with e; omega)⟩, HZ.out.2.1⟩
theorem RtOk.move {w w' : World} {B B' q : Nat} {x : Rt} (h : RtOk w B x) (hm : ∀ k, k < B → k ≠ q → w'.heap[k]? = w.heap[k]?) (hB : B ≤ B') (hp : ∀ b o, x.pa = some ⟨b, o, none⟩ → b ≠ q) (hs : ∀ s ∈ x.path, ∀ b o, s.sa = some ⟨b, o, none⟩ → b ≠ q) (hc : ∀ b o, x.ca = some ⟨b, o, none⟩ → b ≠ q) : RtOk w' B' x :=
  ⟨h.path.move hm hB hp hs, h.comms.move hm hB hc, h.pf1, h.fr⟩
theorem mkR_move {w w' : World} {B B' q : Nat} {pa sa : Option Addr} {id nx pf : Int} (h : RtOk w B (mkR pa sa id nx pf)) (hm : ∀ k, k < B → k ≠ q → w'.heap[k]? = w.heap[k]?) (hB : B ≤ B') (hp : ∀ b o, pa = some ⟨b, o, none⟩ → q < b) (hs : ∀ b o, sa = some ⟨b, o, none⟩ → q < b) : RtOk w' B' (mkR pa sa id nx pf) :=
  h.move hm hB (fun b o e => by have := hp b o e; omega) (fun s hs' b o e => by obtain rfl := List.mem_singleton.1 hs'; have := hs b o e; omega) (fun b o e => by cases e)
theorem row_of {α : Type} [Inhabited α] {R : Rep α} {w : World} {b : Nat} {cs : Array Value} {T : TypeId} {fr : Nat × Nat} {L : List α} (h : w.heap[b]? = some (.cells cs T fr)) (hcs : cs.toList = R.flat L) : R.Row w b 0 L :=
  ⟨lt_of_blk h, fun i hi j hj => by
    rw [Nat.zero_add, ← R.flat_get L i j hi hj, ← hcs]
    simp [World.cell?, h]⟩
def twoL : List If := [⟨1, 0, 167772160, 8, 100⟩, ⟨2, 0, 184549376, 8, 100⟩]
theorem twoL_good : Good twoL := by
  refine ⟨fun x hx => ?_, fun k i hk hi => ?_, fun k i hk hi => ?_, by show 2 ≤ 256; omega⟩
  · simp only [twoL, List.mem_cons, List.mem_nil_iff, or_false] at hx
    rcases hx with rfl | rfl <;> kernel_rfl
  · have hi2 : i < 2 := hi
    obtain rfl : i = 1 := by omega
    obtain rfl : k = 0 := by omega
    decide
  · have hi2 : i < 2 := hi
    obtain rfl : i = 1 := by omega
    obtain rfl : k = 0 := by omega
    intro _ h
    exact absurd h (by decide)
set_option maxRecDepth 100000 in
theorem two_any (w : World) : Calls Try.prog 18 #[] w fun e w' => e = .returned (.slice (some ⟨w.heap.size, 0, none⟩) 2 2) ∧ Ifs w' (some ⟨w.heap.size, 0, none⟩) 2 2 twoL ∧ Below w.heap.size w w' := by
  go_enter Try.func18, Try.ntmps18
  go_wp2_with fail
  go_ret
  refine ⟨rfl, ⟨⟨rfl, by unfold maxLen; omega, fun _ => ⟨w.heap.size, 0, rfl, by simp, fun i hi j hj => ?_⟩⟩, fun x hx => ?_⟩, (Below.refl _ _).alloc (Nat.le_refl _) _⟩
  · have hi2 : i < 2 := hi
    have hj2 : j < 5 := hj
    rw [cell_of (hnew w _) (v := (RIf.cells (twoL.getD i default))[j]?.getD undef) ?_]
    · have hi3 : i = 0 ∨ i = 1 := by omega
      have hj3 : j = 0 ∨ j = 1 ∨ j = 2 ∨ j = 3 ∨ j = 4 := by omega
      rcases hi3 with rfl | rfl <;> rcases hj3 with rfl | rfl | rfl | rfl | rfl <;> rfl
    · have hi3 : i = 0 ∨ i = 1 := by omega
      have hj3 : j = 0 ∨ j = 1 ∨ j = 2 ∨ j = 3 ∨ j = 4 := by omega
      rcases hi3 with rfl | rfl <;> rcases hj3 with rfl | rfl | rfl | rfl | rfl <;> rfl
  · simp only [twoL, List.mem_cons, List.mem_nil_iff, or_false] at hx
    rcases hx with rfl | rfl <;> decide
set_option maxRecDepth 100000 in
theorem conf19 (w : World) : Calls Try.prog 19 #[] w fun e w' => (∃ C, e = .returned (.agg C) ∧ CfA C 2 0 none 0 0) ∧ Below w.heap.size w w' := by
  go_enter Try.func19, Try.ntmps19
  go_wp2_with (with_reducible refine halt_store 26 rfl ?_)
  refine Halted.go ?_
  refine store_whole rfl 26 _ _ rfl w.heap.size #[.int .i64 65000, .int .u32 184483841, .int .i64 90, .int .i64 30, .int .i64 1, .int .i64 1, .int .i64 0, .slice none 0 0, .int .i64 900, .int .i64 700, .int .i64 16, .int .i64 30, .int .i64 90, .int .i64 2, .int .i64 120, .int .i64 1000, .int .i64 2, .slice none 0 0, .int .i64 65536, .int .i64 65536] rfl rfl (hnew _ _) rfl (by kernel_rfl) (by simp [Value.oneCell']) ?_
  intro Wz hwz hsz
  have HZ := Lib.hid (And.intro hwz (Below.trans ((Below.refl w.heap.size w).alloc (Nat.le_refl _) _) (hsz.below (Nat.le_refl _))))
  clear hwz hsz
  go_wp2_with fail
  refine ret_cell rfl rfl rfl HZ.out.1 Try.underlying26 rfl (by kernel_rfl) ?_
  exact ⟨⟨_, rfl, rfl, ⟨none, 0, rfl⟩, rfl, rfl, by simp [Value.oneCell'], Nat.zero_le _, Nat.zero_le _⟩, HZ.out.2⟩
end Go.Proofs.Ytgainkgbodmciaa
