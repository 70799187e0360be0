/- RibDoes. -/
import Derived.Test.YtadoflcomienoaaGreatZbd
import Derived.Test.YtadoflcomienoaaGreatZbf
namespace Go.Proofs.YtadoflcomienoaaGreat.Rr
open Go.RowKit

theorem LvX.moreX {w W W' : World} {b q : Nat} {asn room ref : Int} {S : List Rt} {P Q : World → Prop} (h : LvX w (fun _ => False) b asn room S ref P W) (hb : Below W.heap.size W W') (hq : W.heap.size ≤ q ∧ q < W'.heap.size) (hQ : ∀ V, Q V) : LvX w (fun k => k = q) b asn room S ref Q W' := by
  obtain ⟨R, n, G, h1, h2, h3, h4, h5, h6, h7⟩ := h
  exact ⟨R, n, G, h1, h2.more hb fun k hk => .inr (by rw [hk]; exact hq.1), h3, fun k hk => ⟨(h4 k hk).1, fun e => by have := h2.lt hk; omega⟩, bcall h5 (Nat.le_refl _) hb, fun V _ _ => hQ V, fun k hk => by rw [hk]; exact ⟨Nat.le_trans h5.size hq.1, hq.2⟩⟩
theorem look_has {S : List Rt} {k : RKey} : (lookR S k).isSome = hasR S k := by
  unfold lookR hasR Kl.look
  rw [Bool.eq_iff_iff, List.find?_isSome, List.any_eq_true]
theorem get_same {L : List RtV} {S : List Rt} {k : RKey} {y2 : AtV} (h : RefOk L S) (_hS : ROk S) (h1 : ∀ z ∈ L, z.key = k → y2 = z.a) (h2 : hasO L k = false → y2 = atZV) : ((lookR S k).map Rt.a).getD atZ = y2.at := by
  cases hl : lookR S k with
  | none =>
    have h3 : hasO L k = false := by rw [h.has, ← look_has, hl]; rfl
    rw [h2 h3]
    rfl
  | some z =>
    unfold lookR at hl
    obtain ⟨h3, h4⟩ := Kl.look_mem hl
    obtain ⟨x, hx, rfl⟩ := List.mem_map.1 ((h.mem z).2 h3)
    rw [h1 x hx h4]
    rfl
structure DnS (qo b1 o1 : Nat) (y : OpV) (n0 : Nl) (W : World) : Prop where
  b : BxOp qo y W
  e : RNl.At W b1 o1 n0
theorem op_keep {V W : World} {b o : Nat} {y : OpV} (h : ROp.At V b o y) (hb : Below V.heap.size V W) : ROp.At W b o y := fun j hj =>
  (hb.cell (World.block_lt_of_cell? _ _ (by rw [h j hj, List.getElem?_eq_getElem (by rw [ROp.len]; exact hj)]))).trans (h j hj)
set_option maxRecDepth 100000 in
set_option maxHeartbeats 16000000 in
theorem does_law {w : World} {asn room : Int} {oa : Option Addr} {on oc : Nat} {ol : List OpV} (ho : SlOk ROp OpOk w ⟨oa, on, oc, ol⟩) : Calls Tryz.prog 5 #[.int .i64 asn, .int .i64 room, .slice oa on oc] w fun e w' => e = .returned (.bool true) ∧ Below w.heap.size w w' := by
  by_cases hgood : (0 ≤ asn ∧ asn ≤ 4294967295) ∧ (0 ≤ room ∧ room ≤ 65536)
  · have HN := Lib.hid (lvx_new (X := fun _ => False) (P := fun _ => True) w _ (Below.refl _ _) (fun k hk => hk.elim) (fun _ _ _ => trivial) asn room hgood)
    have HXN := Lib.hid (fun W => xnew_ok W asn room hgood)
    have hmax : on ≤ maxLen := ho.sl.max
    have HLN := Lib.hid (show on = ol.length from ho.sl.len)
    have H0 := Lib.hid ho
    clear ho hgood
    go_enter Tryz.func5, Tryz.ntmps5
    go_wp2_with fail
    refine (HN.out).mono ?_
    rintro e W1 ⟨b, rfl, hst, -⟩
    have F1 := Lib.hid hst
    clear hst HN
    go_wp2_with fail
    refine (HXN.out _).mono ?_
    rintro e W2 ⟨rfl, hblk, hb⟩
    have hds : DoS w b W1.heap.size asn room [] 0 ⟨none, 0, 0, []⟩ (fun _ => True) W2 := ⟨LvX.moreX F1.out hb ⟨Nat.le_refl _, lt_of_blk hblk⟩ fun V => ⟨slZ, trivial⟩, hblk, RefOk.nil⟩
    have F2 := Lib.hid hds
    generalize W1.heap.size = q at *
    clear hds hblk hb HXN F1
    go_wp2_with fail
    refine (lives14 _).mono ?_
    rintro e W3 ⟨rfl, hb⟩
    have F3 := Lib.hid (F2.out.keep hb)
    clear hb F2
    go_wp2_with fail
    go_loopw [10] (fun iv wr => ∃ (i : Nat) (S : List Rt) (rf : Int) (s : SlV RtV), i ≤ on ∧ i ≤ 40 ∧ iv = .int .i64 i ∧ DoS w b q asn room S rf s (fun _ => True) wr ∧ S.length ≤ 30 * i ∧ (0 ≤ rf ∧ rf ≤ 30 * (i : Int))) (fun iv _ => on - (intOf iv).toNat)
    case atStart => exact ⟨0, [], 0, ⟨none, 0, 0, []⟩, Nat.zero_le _, by omega, rfl, F3.out, Nat.le_refl _, by omega, by omega⟩
    case round =>
      obtain ⟨i, S, rf, s, hi, hi40, rfl, hds, hSl, hrf⟩ := hrel
      obtain ⟨w2, rfl⟩ : ∃ w2 : World, w2 = wr := ⟨_, rfl⟩
      by_cases hlt : i < on
      · have hil : ((i : Int) < (on : Int)) = True := by simp; omega
        by_cases h40 : i < 40
        · have h40t : ((i : Int) < (40 : Int)) = True := by simp; omega
          have hi0 : ((0 : Int) ≤ (i : Int)) = True := by simp
          have hw3 := wrapS hlt hmax
          have h40 : i + 1 ≤ 40 := h40
          obtain ⟨b0, o0, ea, hbb, hat⟩ := H0.out.sl.at hlt
          dsimp only at ea
          subst ea
          have hmem := getD_mem (M := ol) (i := i) (by rw [← HLN.out]; exact hlt)
          have hokV := H0.out.all _ hmem
          dsimp only at hat hmem hokV
          generalize ol.getD i default = y at *
          have hat2 := op_keep hat hds.lv.bw
          have HOKV := Lib.hid hokV
          have K0 := Lib.hid (And.intro hds (And.intro hSl hrf))
          have d0 := hat2 0 (by decide)
          have d1 := hat2 1 (by decide)
          have d2 := hat2 2 (by decide)
          have d3 := hat2 3 (by decide)
          have d4 := hat2 4 (by decide)
          have d5 := hat2 5 (by decide)
          have d6 := hat2 6 (by decide)
          have d7 := hat2 7 (by decide)
          have d8 := hat2 8 (by decide)
          have d9 := hat2 9 (by decide)
          have d10 := hat2 10 (by decide)
          simp only [ROp, Nat.add_zero, List.getElem?_cons_zero, List.getElem?_cons_succ] at d0 d1 d2 d3 d4 d5 d6 d7 d8 d9 d10
          clear hbb hat hmem hokV hds hSl hrf hat2
          go_wp2_with (with_reducible refine halt_store 53 (x := .tmp 11) rfl ?_)
          refine Halted.go ?_
          clear d0 d1 d2 d3 d4 d5 d6 d7 d8 d9 d10
          have hal := (Below.refl w2.heap.size w2).alloc (Nat.le_refl _) (.cells #[.int .i64 0, .int .i64 0, .slice none 0 0, .slice none 0 0, .int .i64 0, .slice none 0 0, .int .u32 0, .int .i64 0, .int .i64 0, .slice none 0 0, .bool false] 53)
          refine store_whole rfl 53 _ _ rfl w2.heap.size #[.int .i64 y.k, .int .i64 y.r, .slice y.u.g.a y.u.g.n y.u.g.c, .slice y.u.r.a y.u.r.n y.u.r.c, .int .i64 y.u.a.o, .slice y.u.a.p.a y.u.a.p.n y.u.a.p.c, .int .u32 y.u.a.nx, .int .i64 y.u.a.md, .int .i64 y.u.a.pf, .slice y.u.a.c.a y.u.a.c.n y.u.a.c.c, .bool y.u.soft] rfl rfl (hnew _ _) rfl (by kernel_rfl) (by simp [Value.oneCell']) ?_
          intro W4 hwz hsz
          have hzb : Below w2.heap.size w2 W4 := Below.trans hal (hsz.below (Nat.le_refl _))
          have hds4 := K0.out.1.addB hzb (Nat.le_refl _) hwz
          have F4 := Lib.hid (show DoS w b q asn room S rf s (fun V => BxOp w2.heap.size y V) W4 from hds4)
          have HL := largeU_any (HOKV.out.2.2.keep F4.out.lv.bw)
          unfold UpV.v at HL
          obtain ⟨v, hv⟩ : ∃ v, largeU y.u.up = v := ⟨_, rfl⟩
          rw [hv] at HL
          have HL := Lib.hid HL
          have HV := Lib.hid hv
          generalize w2.heap.size = qo at *
          clear hal hwz hsz hzb hds4 hv
          have hbo : BxOp qo y _ := F4.out.lv.now.2
          obtain ⟨c0, c1, c2, c3, c4, c5, c6, c7, c8, c9, c10⟩ := hbo.cells
          clear hbo
          go_wp2_with fail
          refine (HL.out).mono ?_
          rintro e W5 ⟨rfl, hb⟩
          have F5 := Lib.hid (F4.out.keep hb)
          clear hb HL F4
          clear c0 c1 c2 c3 c4 c5 c6 c7 c8 c9 c10
          cases v with
          | true =>
            go_wp2_with fail
            exact ⟨⟨i + 1, S, rf, s, hlt, h40, by first | rw [hw3] | rw [Int.natCast_succ], F5.out.imp fun _ _ => trivial, by have := K0.out.2.1; omega, by have := K0.out.2.2; push_cast; omega⟩, by first | (rw [hw3]; exact mSucc hlt) | (rw [← Int.natCast_succ]; exact mSucc hlt)⟩

          | false =>
            have hsm := large_small HV.out
            have hgn : y.u.g.n = y.u.g.l.length := HOKV.out.2.2.g.sl.len
            have hrn : y.u.r.n = y.u.r.l.length := HOKV.out.2.2.r.sl.len
            have hle : y.u.g.n ≤ 1100 ∧ y.u.r.n ≤ 1100 := by
              unfold UpV.up at hsm
              dsimp only at hsm
              omega
            have hbo : BxOp qo y _ := F5.out.lv.now.2
            obtain ⟨c0, c1, c2, c3, c4, c5, c6, c7, c8, c9, c10⟩ := hbo.cells
            clear hbo
            by_cases h30 : 30 < y.u.g.n + y.u.r.n
            · have e30 : ((30 : Int) < (y.u.g.n : Int) + (y.u.r.n : Int)) = True := eq_true (by clear hsm hgn hrn hle; omega)
              have hws : wrap64 ((y.u.g.n : Int) + (y.u.r.n : Int)) = (y.u.g.n : Int) + (y.u.r.n : Int) := by clear e30; unfold wrap64; omega
              clear h30 hsm hgn hrn hle
              go_wp2_with fail
              exact ⟨⟨i + 1, S, rf, s, hlt, h40, by first | rw [hw3] | rw [Int.natCast_succ], F5.out.imp fun _ _ => trivial, by have := K0.out.2.1; omega, by have := K0.out.2.2; push_cast; omega⟩, by first | (rw [hw3]; exact mSucc hlt) | (rw [← Int.natCast_succ]; exact mSucc hlt)⟩

            · have e30 : ((30 : Int) < (y.u.g.n : Int) + (y.u.r.n : Int)) = False := eq_false (by clear hsm hgn hrn hle; omega)
              have hws0 := hle
              have H30 := Lib.hid h30
              clear h30 hsm hgn hrn hle
              have HLE := Lib.hid hws0
              clear hws0
              have HDO := Lib.hid (rdo_any F5.out HOKV.out (by have h1 := H30.out; have h2 := K0.out.2.1; omega) (by have h1 := H30.out; have h2 := K0.out.2.2; omega))
              have hws : wrap64 ((y.u.g.n : Int) + (y.u.r.n : Int)) = (y.u.g.n : Int) + (y.u.r.n : Int) := by have hle := HLE.out; clear e30; unfold wrap64; omega
              go_wp2_with fail
              clear hws e30 HLE
              refine (HDO.out).mono ?_
              rintro e W6a ⟨rfl, S', rf', s', hds, hl', hr'⟩
              have F6 := Lib.hid hds
              have HLN2 := Lib.hid (show S'.length ≤ 30 * (i + 1) ∧ (0 ≤ rf' ∧ rf' ≤ 30 * ((i + 1 : Nat) : Int)) by have h1 := H30.out; have h2 := K0.out.2.1; have h3 := K0.out.2.2; omega)
              clear hds hl' hr' HDO F5
              clear c0 c1 c2 c3 c4 c5 c6 c7 c8 c9 c10
              have hbo : BxOp qo y _ := F6.out.lv.now.2
              obtain ⟨c0, c1, c2, c3, c4, c5, c6, c7, c8, c9, c10⟩ := hbo.cells
              clear hbo
              have HAL := Lib.hid (alike_any F6.out (by have := HLN2.out.1; omega) HOKV.out.2.1)
              go_wp2_with fail
              refine (HAL.out).mono ?_
              rintro e W6 ⟨rfl, hb⟩
              have F6N := Lib.hid (F6.out.keep hb)
              clear hb HAL F6
              have F6 := F6N
              clear F6N
              clear c0 c1 c2 c3 c4 c5 c6 c7 c8 c9 c10
              have hbo : BxOp qo y _ := F6.out.lv.now.2
              obtain ⟨c0, c1, c2, c3, c4, c5, c6, c7, c8, c9, c10⟩ := hbo.cells
              clear hbo
              by_cases hr0 : 0 < y.u.r.n
              · have er : ((0 : Int) < (y.u.r.n : Int)) = True := by simp; omega
                have er2 : (0 < y.u.r.n) = True := eq_true hr0
                obtain ⟨b1, o1, eb, -, -⟩ := HOKV.out.2.2.r.sl.at hr0
                have hat0 : ∀ W, Below w.heap.size w W → RNl.At W b1 o1 (y.u.r.l.getD 0 default) := fun W hb => by
                  have h1 := (HOKV.out.2.2.keep hb).r.sl
                  rw [eb] at h1
                  have h2 := sl_at h1 hr0
                  rw [Nat.zero_mul, Nat.add_zero] at h2
                  exact h2
                have hno := (HOKV.out.2.2.r.all _ (getD_mem (M := y.u.r.l) (i := 0) (by have := HOKV.out.2.2.r.sl.len; omega)))
                obtain ⟨yk, yr, ⟨yg, ⟨yra, yrn, yrc, yrl⟩, ya, yso⟩⟩ := y
                dsimp only at eb hat0 hno hr0 er er2 c0 c1 c2 c3 c4 c5 c6 c7 c8 c9 c10 ⊢
                subst eb
                obtain ⟨n0, hn0⟩ : ∃ n0, yrl.getD 0 default = n0 := ⟨_, rfl⟩
                rw [hn0] at hat0 hno
                have HAT := Lib.hid hat0
                have HNO := Lib.hid hno
                clear hat0 hno hn0
                go_wp2_with fail
                clear c0 c1 c2 c3 c4 c5 c6 c7 c8 c9 c10
                refine wp_region_T 16 (DnS qo b1 o1 (⟨yk, yr, ⟨yg, ⟨some ⟨b1, o1, none⟩, yrn, yrc, yrl⟩, ya, yso⟩⟩ : OpV) n0) (by kernel_rfl) ?_
                have hd := (Below.refl W6.heap.size W6).drew
                have F7 := Lib.hid (F6.out.keep hd)
                have HS := Lib.hid (show DnS qo b1 o1 (⟨yk, yr, ⟨yg, ⟨some ⟨b1, o1, none⟩, yrn, yrc, yrl⟩, ya, yso⟩⟩ : OpV) n0 W6.drew from ⟨F7.out.lv.now.2, HAT.out _ F7.out.lv.bw⟩)
                generalize W6.drew = W7 at *
                clear hd F6
                refine T_reads [0, 1, 2, 3, 4, 5, 6, 7, 8, 9, 10, 11, 12, 13, 14] (g := 2) rfl (by kernel_rfl) HS.out (fun _ _ d _ _ h => by cases d <;> exact h) ?_
                simp only [pick, List.getD_cons_zero, List.getD_cons_succ]
                ((with_reducible refine wpRead_step (fun K hK => ?_)); go_simp; first | (rw [if_neg (by decide)]; (with_reducible refine hK _ ?_); clear hK K) | ((with_reducible refine hK _ ?_); clear hK K) | (apply Exists.intro; (with_reducible refine ⟨fun w' hw' => ?_, hK _ ?_⟩); ((go_simp; first | exact rfl | exact ⟨rfl, rfl⟩)); clear hK K))
                ((with_reducible refine wpRead_step (fun K hK => ?_)); go_simp; first | ((with_reducible refine hK _ ?_); clear hK K) | (apply Exists.intro; (with_reducible refine ⟨fun w' hw' => ?_, hK _ ?_⟩); ((have f0 := cell_of (o := 1) hw'.b rfl; go_simp; first | exact rfl | exact ⟨rfl, rfl⟩)); clear hK K))
                iterate 2 ((with_reducible refine wpRead_step (fun K hK => ?_)); go_simp; first | (rw [if_neg (by decide)]; (with_reducible refine hK _ ?_); clear hK K) | ((with_reducible refine hK _ ?_); clear hK K) | (apply Exists.intro; (with_reducible refine ⟨fun w' hw' => ?_, hK _ ?_⟩); ((go_simp; first | exact rfl | exact ⟨rfl, rfl⟩)); clear hK K))
                ((with_reducible refine wpRead_step (fun K hK => ?_)); go_simp; first | ((with_reducible refine hK _ ?_); clear hK K) | (apply Exists.intro; (with_reducible refine ⟨fun w' hw' => ?_, hK _ ?_⟩); ((have f0 := cell_of (o := 3) hw'.b rfl; dsimp only at f0; go_simp; first | exact rfl | exact ⟨rfl, rfl⟩)); clear hK K))
                iterate 2 ((with_reducible refine wpRead_step (fun K hK => ?_)); go_simp; first | (rw [if_neg (by decide)]; (with_reducible refine hK _ ?_); clear hK K) | ((with_reducible refine hK _ ?_); clear hK K) | (apply Exists.intro; (with_reducible refine ⟨fun w' hw' => ?_, hK _ ?_⟩); ((go_simp; first | exact rfl | exact ⟨rfl, rfl⟩)); clear hK K))
                with_reducible refine wpRead_yes ?_ ?_
                rotate_left
                rfl
                intro K hK
                refine read_load 58 _ rfl b1 (o1 + 1) #[.int .u32 (n0.a : Int), .int .i64 n0.ln] rfl (fun w' hw' => at_rangeN hw'.e) Tryz.underlying58 rfl (by kernel_rfl) (hK _ ?_)
                clear hK K
                iterate 2 ((with_reducible refine wpRead_step (fun K hK => ?_)); go_simp; first | (rw [if_neg (by decide)]; (with_reducible refine hK _ ?_); clear hK K) | ((with_reducible refine hK _ ?_); clear hK K) | (apply Exists.intro; (with_reducible refine ⟨fun w' hw' => ?_, hK _ ?_⟩); ((go_simp; first | exact rfl | exact ⟨rfl, rfl⟩)); clear hK K))
                ((with_reducible refine wpRead_step (fun K hK => ?_)); go_simp; first | ((with_reducible refine hK _ ?_); clear hK K) | (apply Exists.intro; (with_reducible refine ⟨fun w' hw' => ?_, hK _ ?_⟩); ((have f0 := cell_of (o := 3) hw'.b rfl; dsimp only at f0; go_simp; first | exact rfl | exact ⟨rfl, rfl⟩)); clear hK K))
                iterate 2 ((with_reducible refine wpRead_step (fun K hK => ?_)); go_simp; first | (rw [if_neg (by decide)]; (with_reducible refine hK _ ?_); clear hK K) | ((with_reducible refine hK _ ?_); clear hK K) | (apply Exists.intro; (with_reducible refine ⟨fun w' hw' => ?_, hK _ ?_⟩); ((go_simp; first | exact rfl | exact ⟨rfl, rfl⟩)); clear hK K))
                ((with_reducible refine wpRead_step (fun K hK => ?_)); go_simp; first | ((with_reducible refine hK _ ?_); clear hK K) | (apply Exists.intro; (with_reducible refine ⟨fun w' hw' => ?_, hK _ ?_⟩); ((have f0 := hw'.e 0 (by decide); simp only [RNl, List.getElem?_cons_zero, Nat.add_zero] at f0; go_simp; first | exact rfl | exact ⟨rfl, rfl⟩)); clear hK K))
                ((with_reducible refine wpRead_step (fun K hK => ?_)); go_simp; first | (rw [if_neg (by decide)]; (with_reducible refine hK _ ?_); clear hK K) | ((with_reducible refine hK _ ?_); clear hK K) | (apply Exists.intro; (with_reducible refine ⟨fun w' hw' => ?_, hK _ ?_⟩); ((go_simp; first | exact rfl | exact ⟨rfl, rfl⟩)); clear hK K))
                with_reducible refine wpRead_nil ?_
                have hal := (Below.refl W7.heap.size W7).alloc (Nat.le_refl _) (.cells #[.int .i64 0, .int .u32 0, .int .i64 0, .int .i64 0] 62)
                have HS4 := Lib.hid (show DnS qo b1 o1 (⟨yk, yr, ⟨yg, ⟨some ⟨b1, o1, none⟩, yrn, yrc, yrl⟩, ya, yso⟩⟩ : OpV) n0 (W7.alloc (.cells #[.int .i64 0, .int .u32 0, .int .i64 0, .int .i64 0] 62)) from ⟨(hal.block _ (lt_of_blk HS.out.b)).trans HS.out.b, nl_keep HS.out.e hal⟩)
                refine T_one 15 (by kernel_rfl) ?_
                simp only [pick, List.getD_cons_zero, List.getD_cons_succ]
                go_wp2_with fail
                refine ⟨fun _ => HS4.out, ?_⟩
                refine T_one 16 (by kernel_rfl) ?_
                simp only [pick, List.getD_cons_zero, List.getD_cons_succ]
                go_wp2_with (with_reducible refine halt_store 62 (x := .tmp 12) rfl ?_)
                refine Halted.go ?_
                refine store_whole rfl 62 _ _ rfl W7.heap.size #[.int .i64 yr, .int .u32 (n0.a : Int), .int .i64 n0.ln, .int .i64 n0.id] rfl rfl (hnew _ _) rfl (by kernel_rfl) (by simp [Value.oneCell']) ?_
                intro W8 hwz hsz
                have hzb : Below W7.heap.size W7 W8 := Below.trans hal (hsz.below (Nat.le_refl _))
                obtain ⟨qk, hqk⟩ : ∃ qk, W7.heap.size = qk := ⟨_, rfl⟩
                rw [show (⟨W7.heap.size, 0, none⟩ : Addr) = ⟨qk, 0, none⟩ by rw [hqk]]
                rw [hqk] at hwz
                have F8 := Lib.hid (And.intro (F7.out.keep hzb) hwz)
                have HG := lvx_get F8.out.1.lv (r := yr) (i := n0.id) (k := n0.key) ⟨HNO.out.1, HNO.out.2.2⟩ HOKV.out.2.1 HNO.out.2.1
                obtain ⟨F, hFq, hFl, hFP, hFK⟩ := LvX.split F8.out.1.lv (q := q) rfl
                unfold AtV.v Nl.key at HG
                dsimp only at HG
                have HG := Lib.hid HG
                have z0 := cell_of (o := 0) hwz rfl
                have z1 := cell_of (o := 1) hwz rfl
                have z2 := cell_of (o := 2) hwz rfl
                have z3 := cell_of (o := 3) hwz rfl
                clear hal hwz hsz hzb hqk HS4 HS F7 hFq hFl hFP hFK
                go_wp2_with fail
                refine ⟨fun h => absurd rfl h, ?_⟩
                refine T_done (by kernel_rfl) ?_ _
                go_wp2_with fail
                refine (HG.out).mono ?_
                rintro e W9 ⟨y1, rfl, hy1, hst, hb⟩
                have F9 := Lib.hid (And.intro (F8.out.1.keep hb) (And.intro ((hb.block _ (lt_of_blk F8.out.2)).trans F8.out.2) (And.intro hst.now.2 hy1)))
                clear hst hy1 hb HG z0 z1 z2 z3 F8
                go_wp2_with (with_reducible refine halt_store 40 (x := .tmp 13) rfl ?_)
                refine Halted.go ?_
                have hal := (Below.refl W9.heap.size W9).alloc (Nat.le_refl _) (.cells #[.int .i64 0, .slice none 0 0, .int .u32 0, .int .i64 0, .int .i64 0, .slice none 0 0] 40)
                refine store_whole rfl 40 _ _ rfl W9.heap.size #[.int .i64 y1.o, .slice y1.p.a y1.p.n y1.p.c, .int .u32 y1.nx, .int .i64 y1.md, .int .i64 y1.pf, .slice y1.c.a y1.c.n y1.c.c] rfl rfl (hnew _ _) rfl (by kernel_rfl) (by simp [Value.oneCell']) ?_
                intro W10 hwz hsz
                have hzb : Below W9.heap.size W9 W10 := Below.trans hal (hsz.below (Nat.le_refl _))
                have F10 := Lib.hid (And.intro (F9.out.1.keep hzb) (And.intro ((hzb.block _ (lt_of_blk F9.out.2.1)).trans F9.out.2.1) (And.intro (F9.out.2.2.1.keep hzb) (And.intro F9.out.2.2.2 hwz))))
                obtain ⟨qa, hqa⟩ : ∃ qa, W9.heap.size = qa := ⟨_, rfl⟩
                rw [show (⟨W9.heap.size, 0, none⟩ : Addr) = ⟨qa, 0, none⟩ by rw [hqa]]
                have F10N := Lib.hid (show DoS w b q asn room S' rf' s' (fun V => BxOp qo (⟨yk, yr, ⟨yg, ⟨some ⟨b1, o1, none⟩, yrn, yrc, yrl⟩, ya, yso⟩⟩ : OpV) V) W10 ∧ W10.heap[qk]? = some (.cells #[.int .i64 yr, .int .u32 (n0.a : Int), .int .i64 n0.ln, .int .i64 n0.id] 62) ∧ AtOk W10 y1 ∧ _ ∧ BxA qa y1 W10 from hqa ▸ F10.out)
                clear hal hwz hsz hzb F9 hqa F10
                have F10 := F10N
                clear F10N
                obtain ⟨F, hFq, hFl, hFP, hFK⟩ := LvX.split F10.out.1.lv (q := q) rfl
                have hRF : RefF F W10 q asn room rf' s' := ⟨F10.out.1.blk, hFP.imp fun _ h => h.1, hFq, fun k hk => (hFl k hk).2⟩
                have HX := xget_any hRF F10.out.1.ok.ord (yr, n0.key, n0.id)
                unfold AtV.v Nl.key at HX
                dsimp only at HX
                have HX := Lib.hid HX
                have z0 := cell_of (o := 0) F10.out.2.1 rfl
                have z1 := cell_of (o := 1) F10.out.2.1 rfl
                have z2 := cell_of (o := 2) F10.out.2.1 rfl
                have z3 := cell_of (o := 3) F10.out.2.1 rfl
                clear hFq hFl hFP hFK hRF
                go_wp2_with fail
                refine (HX.out).mono ?_
                rintro e W11 ⟨y2, rfl, hg1, hg2, hg3, hb⟩
                have hsame : y1.at = y2.at := F10.out.2.2.2.1.trans (get_same F10.out.1.ok F10.out.1.lv.rok hg1 hg2)
                have F11 := Lib.hid (And.intro (F10.out.1.keep hb) (And.intro (F10.out.2.2.1.keep hb) (And.intro (F10.out.2.2.2.2.keep hb) (And.intro hg3.now hsame))))
                clear hg1 hg2 hg3 hb hsame HX z0 z1 z2 z3 F10
                go_wp2_with (with_reducible refine halt_store 40 (x := .tmp 15) rfl ?_)
                refine Halted.go ?_
                have hal := (Below.refl W11.heap.size W11).alloc (Nat.le_refl _) (.cells #[.int .i64 0, .slice none 0 0, .int .u32 0, .int .i64 0, .int .i64 0, .slice none 0 0] 40)
                refine store_whole rfl 40 _ _ rfl W11.heap.size #[.int .i64 y2.o, .slice y2.p.a y2.p.n y2.p.c, .int .u32 y2.nx, .int .i64 y2.md, .int .i64 y2.pf, .slice y2.c.a y2.c.n y2.c.c] rfl rfl (hnew _ _) rfl (by kernel_rfl) (by simp [Value.oneCell']) ?_
                intro W12 hwz hsz
                have hzb : Below W11.heap.size W11 W12 := Below.trans hal (hsz.below (Nat.le_refl _))
                have F12 := Lib.hid (And.intro (F11.out.1.keep hzb) (And.intro (F11.out.2.1.keep hzb) (And.intro (F11.out.2.2.1.keep hzb) (And.intro (F11.out.2.2.2.1.keep hzb) (And.intro F11.out.2.2.2.2 (show BxA W11.heap.size y2 W12 from hwz))))))
                have HSA := rasame_any (F11.out.2.1.keep hzb) (F11.out.2.2.2.1.keep hzb)
                rw [F11.out.2.2.2.2, decide_eq_true rfl] at HSA
                unfold AtV.v at HSA
                have HSA := Lib.hid HSA
                obtain ⟨a0, a1, a2, a3, a4, a5⟩ := F12.out.2.2.1.cells
                obtain ⟨b0', b1', b2', b3', b4', b5'⟩ := F12.out.2.2.2.2.2.cells
                have hee : hasO s'.l (yr, (n0.a, n0.ln), n0.id) = (lookR S' (yr, (n0.a, n0.ln), n0.id)).isSome := by rw [F12.out.1.ok.has, look_has]
                rw [hee]
                generalize (lookR S' (yr, (n0.a, n0.ln), n0.id)).isSome = bv at *
                clear hee
                clear hal hwz hsz hzb F11
                go_wp2_with fail
                refine (HSA.out).mono ?_
                rintro e W13 ⟨rfl, hb⟩
                have F13 := Lib.hid (F12.out.1.keep hb)
                clear hb HSA F12 a0 a1 a2 a3 a4 a5 b0' b1' b2' b3' b4' b5'
                go_wp2_with fail
                exact ⟨⟨i + 1, S', rf', s', hlt, h40, by first | rw [hw3] | rw [Int.natCast_succ], F13.out.imp fun _ _ => trivial, HLN2.out.1, HLN2.out.2⟩, by first | (rw [hw3]; exact mSucc hlt) | (rw [← Int.natCast_succ]; exact mSucc hlt)⟩
              · have er : ((0 : Int) < (y.u.r.n : Int)) = False := by simp; omega
                have er2 : (0 < y.u.r.n) = False := eq_false hr0
                clear hr0
                go_wp2_with fail
                exact ⟨⟨i + 1, S', rf', s', hlt, h40, by first | rw [hw3] | rw [Int.natCast_succ], F6.out.imp fun _ _ => trivial, HLN2.out.1, HLN2.out.2⟩, by first | (rw [hw3]; exact mSucc hlt) | (rw [← Int.natCast_succ]; exact mSucc hlt)⟩
        · have h40f : ((i : Int) < (40 : Int)) = False := by simp; omega
          have FE := Lib.hid hds.lv.bw
          clear hds hSl hrf h40
          go_wp2_with fail
          go_ret
          exact ⟨rfl, FE.out⟩
      · obtain rfl : on = i := by omega
        have hil : ((on : Int) < (on : Int)) = False := by simp
        have FE := Lib.hid hds.lv.bw
        clear hds hSl hrf hi hi40
        go_wp2_with fail
        go_ret
        exact ⟨rfl, FE.out⟩
  · have HN := Lib.hid (rnew_no w asn room hgood)
    have HXN := Lib.hid (fun W => xnew_no W asn room hgood)
    clear ho hgood
    go_enter Tryz.func5, Tryz.ntmps5
    go_wp2_with fail
    refine (HN.out).mono ?_
    rintro e W9 ⟨rfl, hw⟩
    have hw := hw.symm
    subst hw
    go_wp2_with fail
    refine (HXN.out _).mono ?_
    rintro e W2 ⟨rfl, hb⟩
    have F2 := Lib.hid hb
    clear hb HXN HN
    go_wp2_with fail
    refine (lives14 _).mono ?_
    rintro e W3 ⟨rfl, hb⟩
    have F3 := Lib.hid (bcall F2.out (Nat.le_refl _) hb)
    clear hb F2
    go_wp2_with fail
    go_loopw [10] (fun iv wr => iv = .int .i64 0 ∧ Below W3.heap.size W3 wr) (fun _ _ => 0)
    case atStart => exact ⟨rfl, Below.refl _ _⟩
    case round =>
      obtain ⟨rfl, hb⟩ := hrel
      obtain ⟨w2, rfl⟩ : ∃ w2 : World, w2 = wr := ⟨_, rfl⟩
      have FE := Lib.hid (bcall F3.out (Nat.le_refl _) hb)
      clear hb
      by_cases hlt : 0 < on
      · have hil : ((0 : Int) < (on : Int)) = True := by simp; omega
        go_wp2_with fail
        go_ret
        exact ⟨rfl, FE.out⟩
      · have hil : ((0 : Int) < (on : Int)) = False := by simp; omega
        go_wp2_with fail
        go_ret
        exact ⟨rfl, FE.out⟩
end Go.Proofs.YtadoflcomienoaaGreat.Rr

