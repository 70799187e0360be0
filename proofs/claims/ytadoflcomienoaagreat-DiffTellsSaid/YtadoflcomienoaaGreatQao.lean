/- The body of an update, as the reference tells: how many bytes. -/
import Derived.Test.YtadoflcomienoaaGreatQan
import Derived.Test.YtadoflcomienoaaGreatQaa
import Derived.Maps.AppendAt
namespace Go.Proofs.YtadoflcomienoaaGreat
open Go.RowKit

theorem own_two {W : World} {g base n : Nat} (h : W.heap[g]? = some (.cells #[.int .u8 ((n : Int) / 256), .int .u8 ((n : Int) % 256)] 5)) (hb : base ≤ g) : RB.Own W base (.slice (some ⟨g, 0, none⟩) 2 2) [n / 256, n % 256] := by
  have e1 : (n : Int) / 256 = ((n / 256 : Nat) : Int) := by omega
  have e2 : (n : Int) % 256 = ((n % 256 : Nat) : Int) := by omega
  rw [e1, e2] at h
  exact Rep.own_flat (R := RB) (M := [n / 256, n % 256]) h hb (by unfold maxLen; simp)
theorem own_sl {W : World} {g base : Nat} {L : List Nat} {n c : Nat} (h : RB.Own W base (.slice (some ⟨g, 0, none⟩) n c) L) (hn : L.length = n) : RB.Sl W (some ⟨g, 0, none⟩) n c L := by
  obtain ⟨a, c', e, hs, -⟩ := h.sl0
  injection e with e1 e2 e3
  subst hn
  rw [e1, e3]
  exact hs
set_option maxRecDepth 100000 in
set_option maxHeartbeats 4000000 in
theorem rubody_len {w : World} {x : UpV} (hx : UpOk w x) (four : Bool) (hg : okL false x.g.l = true) (hr : okL false x.r.l = true) (ha : okAt four x.up = true) : Calls Tryz.prog 63 #[x.v, .bool four, .bool false] w fun e w' => (∃ v B, e = .returned v ∧ RB.Own w' w.heap.size v B ∧ B.length = lenU four x.up) ∧ Below w.heap.size w w' := by
  have hal := (Below.refl w.heap.size w).alloc (Nat.le_refl _) (.cells #[.slice x.g.a x.g.n x.g.c, .slice x.r.a x.r.n x.r.c, .int .i64 x.a.o, .slice x.a.p.a x.a.p.n x.a.p.c, .int .u32 x.a.nx, .int .i64 x.a.md, .int .i64 x.a.pf, .slice x.a.c.a x.a.c.n x.a.c.c, .bool x.soft] 42)
  have hX : BxU w.heap.size x (w.alloc (.cells #[.slice x.g.a x.g.n x.g.c, .slice x.r.a x.r.n x.r.c, .int .i64 x.a.o, .slice x.a.p.a x.a.p.n x.a.p.c, .int .u32 x.a.nx, .int .i64 x.a.md, .int .i64 x.a.pf, .slice x.a.c.a x.a.c.n x.a.c.c, .bool x.soft] 42)) := hnew _ _
  have HG := Lib.hid (fun W (h : UpOk W x) => rnput_any h.g.nls false hg)
  have HR := Lib.hid (fun W (h : UpOk W x) => rnput_any h.r.nls false hr)
  have hlg := nbs_ok hg
  have hlr := nbs_ok hr
  have hla := aszU_le ha
  have HLen := Lib.hid (show lenU four x.up = 4 + (nbs false x.g.l).length + aszU four x.up + (nbs false x.r.l).length from rfl)
  have hrl := hx.r.sl.len
  have HA := Lib.hid (show ∀ W, UpOk W x → x.r.n ≠ 0 → Calls Tryz.prog 113 #[.agg #[.int .i64 x.a.o, .slice x.a.p.a x.a.p.n x.a.p.c, .int .u32 x.a.nx, .int .i64 x.a.md, .int .i64 x.a.pf, .slice x.a.c.a x.a.c.n x.a.c.c], .bool four] W fun e w' => ∃ v B, e = .returned v ∧ RB.Own w' W.heap.size v B ∧ B.length = aszU four x.up ∧ Below W.heap.size W w' from fun W h h0 => by
    have hz : ¬ x.up.routes.length = 0 := by show ¬ x.r.l.length = 0; omega
    have e1 : okA four x.a.at = true := by have := ha; unfold okAt at this; rwa [if_neg hz] at this
    have e2 : aszU four x.up = asz four x.a.at := if_neg hz
    rw [e2]
    exact rput_len h.a e1)
  have HZ0 := Lib.hid (show x.r.n = 0 → aszU four x.up = 0 from fun h => if_pos (show x.r.l.length = 0 by omega))
  have F0 := Lib.hid (And.intro hal (And.intro hX (hx.keep hal)))
  obtain ⟨c0, c1, c2, c3, c4, c5, c6, c7, c8⟩ := hX.cells
  generalize aszU four x.up = la at *
  generalize lenU four x.up = lu at *
  clear hal hX hx hg hr ha hrl
  unfold UpV.v
  go_enter Tryz.func63, Tryz.ntmps63
  go_wp2_with fail
  refine (HG.out _ F0.out.2.2).mono ?_
  rintro e w1 ⟨v1, rfl, ho, hb⟩
  obtain ⟨o1, k1, rfl, hs1, hn1⟩ := ho.sl0
  obtain ⟨lg, hlgv⟩ : ∃ z, (nbs false x.g.l).length = z := ⟨_, rfl⟩
  rw [hlgv] at hs1 hlg ⊢
  rw [hlgv] at HLen
  generalize nbs false x.g.l = BG at *
  have F1 := Lib.hid (And.intro (bcall F0.out.1 (by simp) hb) (And.intro (F0.out.2.1.keep hb) (And.intro (F0.out.2.2.keep hb) (And.intro hs1 (And.intro hn1 hlgv)))))
  clear hb ho hs1 hn1 hlgv c0 c1 c2 c3 c4 c5 c6 c7 c8 F0
  obtain ⟨c0, c1, c2, c3, c4, c5, c6, c7, c8⟩ := F1.out.2.1.cells
  by_cases h0 : x.r.n = 0
  · have e1 : ((0 : Int) < (x.r.n : Int)) = False := by simp; omega
    have e2 : (0 < x.r.n) = False := by simp; omega
    have H0 := Lib.hid h0
    clear h0
    go_wp2_with (at_builtin; refine halt ?_)
    refine Halted.go ?_
    clear c0 c1 c2 c3 c4 c5 c6 c7 c8
    have T0 := Lib.hid (And.intro ((Below.refl w1.heap.size w1).alloc (Nat.le_refl _) (.cells #[.int .u8 ((lg : Int) / 256), .int .u8 ((lg : Int) % 256)] 5)) (own_two (base := w1.heap.size) (W := w1.alloc (.cells #[.int .u8 ((lg : Int) / 256), .int .u8 ((lg : Int) % 256)] 5)) (g := w1.heap.size) (n := lg) (hnew _ _) (Nat.le_refl _)))
    have hll : ([lg / 256, lg % 256]).length = 2 := rfl
    refine Rep.append_list T27 rfl _ _ rfl rfl T0.out.2 (L := [lg / 256, lg % 256]) (M := BG) rfl (F1.out.2.2.2.1.keep T0.out.1) (F1.out.2.2.2.2.1) (by rw [hll]; unfold maxLen; omega) (by rw [hll]; omega) T0.out.1.size ?_
    intro u1 V1 hown hb _
    have hln : ([lg / 256, lg % 256] ++ BG).length = 2 + lg := by rw [List.length_append, hll, F1.out.2.2.2.2.2]
    have hbn := T0.out.1.trans hb
    generalize [lg / 256, lg % 256] ++ BG = Bq1 at *
    obtain ⟨oo1, kk1, rfl, -, -⟩ := hown.sl0
    rw [hln] at hown ⊢
    have T1x := Lib.hid (And.intro hbn hown)
    have T1xl := Lib.hid hln
    clear hown hb hln hbn hll T0
    go_wp2_with (at_builtin; refine halt ?_)
    refine Halted.go ?_
    have T9 := Lib.hid (And.intro (bcall T1x.out.1 (Nat.le_refl _) ((Below.refl V1.heap.size V1).alloc (Nat.le_refl _) (.cells #[.int .u8 0, .int .u8 0] 5))) (T1x.out.2.below ((Below.refl V1.heap.size V1).alloc (Nat.le_refl _) (.cells #[.int .u8 0, .int .u8 0] 5))))
    have hp2 : RB.Sl (V1.alloc (.cells #[.int .u8 0, .int .u8 0] 5)) (some ⟨V1.heap.size, 0, none⟩) 2 2 [0, 0] := Rep.sl_flat (R := RB) (M := [0, 0]) (hnew _ _) (by unfold maxLen; simp)
    have HP2 := Lib.hid hp2
    clear hp2
    have hll : (Bq1).length = 2 + lg := T1xl.out
    refine Rep.append_list T27 rfl _ _ rfl rfl T9.out.2 (L := Bq1) (M := [0, 0]) rfl (HP2.out) (fun h => by cases h) (by rw [hll]; unfold maxLen; omega) (by rw [hll]; omega) T9.out.1.size ?_
    intro u2 V2 hown hb _
    have hln : (Bq1 ++ [0, 0]).length = 2 + lg + 2 := by rw [List.length_append, hll, show ([0, 0]).length = 2 from rfl]
    have hbn := T9.out.1.trans hb
    generalize Bq1 ++ [0, 0] = Bq2 at *
    obtain ⟨oo2, kk2, rfl, -, -⟩ := hown.sl0
    rw [hln] at hown ⊢
    have T2x := Lib.hid (And.intro hbn hown)
    have T2xl := Lib.hid hln
    clear hown hb hln hbn hll T9
    clear HP2
    go_wp2_with (at_builtin; refine halt ?_)
    refine Halted.go ?_
    have hll : (Bq2).length = 2 + lg + 2 := T2xl.out
    refine Rep.append_list T27 rfl _ _ rfl rfl T2x.out.2 (L := Bq2) (M := []) rfl (Rep.sl_nil) (fun _ => rfl) (by rw [hll]; unfold maxLen; omega) (by rw [hll]; omega) T2x.out.1.size ?_
    intro u3 V3 hown hb _
    have hln : (Bq2 ++ []).length = 2 + lg + 2 + 0 := by rw [List.length_append, hll, List.length_nil]
    have hbn := T2x.out.1.trans hb
    generalize Bq2 ++ [] = Bq3 at *
    obtain ⟨oo3, kk3, rfl, -, -⟩ := hown.sl0
    rw [hln] at hown ⊢
    have T3x := Lib.hid (And.intro hbn hown)
    have T3xl := Lib.hid hln
    clear hown hb hln hbn hll T2x
    obtain ⟨c0, c1, c2, c3, c4, c5, c6, c7, c8⟩ := (F1.out.2.1.keep T3x.out.1).cells
    go_wp2_with fail
    refine (HR.out _ (F1.out.2.2.1.keep T3x.out.1)).mono ?_
    rintro e C5 ⟨v5, rfl, ho, hb⟩
    obtain ⟨o5, k5, rfl, hs5, hn5⟩ := ho.sl0
    obtain ⟨lr, hlrv⟩ : ∃ z, (nbs false x.r.l).length = z := ⟨_, rfl⟩
    rw [hlrv] at hs5 hlr ⊢
    rw [hlrv] at HLen
    have T5 := Lib.hid (And.intro (bcall T3x.out.1 (Nat.le_refl _) hb) (T3x.out.2.below hb))
    have HS5 := Lib.hid (And.intro hs5 (And.intro hn5 hlrv))
    clear hb ho hs5 hn5 hlrv c0 c1 c2 c3 c4 c5 c6 c7 c8
    go_wp2_with (at_builtin; refine halt ?_)
    refine Halted.go ?_
    have hll : (Bq3).length = 2 + lg + 2 + 0 := T3xl.out
    refine Rep.append_list T27 rfl _ _ rfl rfl T5.out.2 (L := Bq3) (M := (nbs false x.r.l)) rfl (HS5.out.1) (HS5.out.2.1) (by rw [hll]; unfold maxLen; omega) (by rw [hll]; omega) T5.out.1.size ?_
    intro u4 V4 hown hb _
    have hln : (Bq3 ++ (nbs false x.r.l)).length = 2 + lg + 2 + 0 + lr := by rw [List.length_append, hll, HS5.out.2.2]
    have hbn := T5.out.1.trans hb
    generalize Bq3 ++ (nbs false x.r.l) = Bq4 at *
    obtain ⟨oo4, kk4, rfl, -, -⟩ := hown.sl0
    rw [hln] at hown ⊢
    have T4x := Lib.hid (And.intro hbn hown)
    have T4xl := Lib.hid hln
    clear hown hb hln hbn hll T5
    go_wp2_with fail
    go_ret
    exact ⟨⟨_, _, rfl, T4x.out.2.mono F1.out.1.size, by rw [T4xl.out, HLen.out]; rw [HZ0.out H0.out]; omega⟩, F1.out.1.trans (T4x.out.1.mono F1.out.1.size)⟩
  · have e1 : ((0 : Int) < (x.r.n : Int)) = True := by simp; omega
    have e2 : (0 < x.r.n) = True := by simp; omega
    go_wp2_with fail
    refine (HA.out _ F1.out.2.2.1 h0).mono ?_
    rintro e w2 ⟨v2, BA, rfl, ho, hl, hb⟩
    obtain ⟨o2, k2, rfl, hs2, hn2⟩ := ho.sl0
    rw [hl] at hs2 ⊢
    have F2 := Lib.hid (And.intro (bcall F1.out.1 (Nat.le_refl _) hb) (And.intro (F1.out.2.1.keep hb) (And.intro (F1.out.2.2.1.keep hb) (And.intro (F1.out.2.2.2.1.keep hb) (And.intro F1.out.2.2.2.2.1 (And.intro F1.out.2.2.2.2.2 (And.intro hs2 (And.intro hn2 hl))))))))
    clear hb ho hs2 hn2 hl c0 c1 c2 c3 c4 c5 c6 c7 c8 F1
    obtain ⟨c0, c1, c2, c3, c4, c5, c6, c7, c8⟩ := F2.out.2.1.cells
    go_wp2_with (at_builtin; refine halt ?_)
    refine Halted.go ?_
    clear c0 c1 c2 c3 c4 c5 c6 c7 c8
    have T0 := Lib.hid (And.intro ((Below.refl w2.heap.size w2).alloc (Nat.le_refl _) (.cells #[.int .u8 ((lg : Int) / 256), .int .u8 ((lg : Int) % 256)] 5)) (own_two (base := w2.heap.size) (W := w2.alloc (.cells #[.int .u8 ((lg : Int) / 256), .int .u8 ((lg : Int) % 256)] 5)) (g := w2.heap.size) (n := lg) (hnew _ _) (Nat.le_refl _)))
    have hll : ([lg / 256, lg % 256]).length = 2 := rfl
    refine Rep.append_list T27 rfl _ _ rfl rfl T0.out.2 (L := [lg / 256, lg % 256]) (M := BG) rfl (F2.out.2.2.2.1.keep T0.out.1) (F2.out.2.2.2.2.1) (by rw [hll]; unfold maxLen; omega) (by rw [hll]; omega) T0.out.1.size ?_
    intro u1 V1 hown hb _
    have hln : ([lg / 256, lg % 256] ++ BG).length = 2 + lg := by rw [List.length_append, hll, F2.out.2.2.2.2.2.1]
    have hbn := T0.out.1.trans hb
    generalize [lg / 256, lg % 256] ++ BG = Bq1 at *
    obtain ⟨oo1, kk1, rfl, -, -⟩ := hown.sl0
    rw [hln] at hown ⊢
    have T1x := Lib.hid (And.intro hbn hown)
    have T1xl := Lib.hid hln
    clear hown hb hln hbn hll T0
    go_wp2_with (at_builtin; refine halt ?_)
    refine Halted.go ?_
    have T9 := Lib.hid (And.intro (bcall T1x.out.1 (Nat.le_refl _) ((Below.refl V1.heap.size V1).alloc (Nat.le_refl _) (.cells #[.int .u8 ((la : Int) / 256), .int .u8 ((la : Int) % 256)] 5))) (T1x.out.2.below ((Below.refl V1.heap.size V1).alloc (Nat.le_refl _) (.cells #[.int .u8 ((la : Int) / 256), .int .u8 ((la : Int) % 256)] 5))))
    have hp2 : RB.Sl (V1.alloc (.cells #[.int .u8 ((la : Int) / 256), .int .u8 ((la : Int) % 256)] 5)) (some ⟨V1.heap.size, 0, none⟩) 2 2 [la / 256, la % 256] := own_sl (own_two (base := 0) (n := la) (hnew _ _) (Nat.zero_le _)) rfl
    have HP2 := Lib.hid hp2
    clear hp2
    have hll : (Bq1).length = 2 + lg := T1xl.out
    refine Rep.append_list T27 rfl _ _ rfl rfl T9.out.2 (L := Bq1) (M := [la / 256, la % 256]) rfl (HP2.out) (fun h => by cases h) (by rw [hll]; unfold maxLen; omega) (by rw [hll]; omega) T9.out.1.size ?_
    intro u2 V2 hown hb _
    have hln : (Bq1 ++ [la / 256, la % 256]).length = 2 + lg + 2 := by rw [List.length_append, hll, show ([la / 256, la % 256]).length = 2 from rfl]
    have hbn := T9.out.1.trans hb
    generalize Bq1 ++ [la / 256, la % 256] = Bq2 at *
    obtain ⟨oo2, kk2, rfl, -, -⟩ := hown.sl0
    rw [hln] at hown ⊢
    have T2x := Lib.hid (And.intro hbn hown)
    have T2xl := Lib.hid hln
    clear hown hb hln hbn hll T9
    clear HP2
    go_wp2_with (at_builtin; refine halt ?_)
    refine Halted.go ?_
    have hll : (Bq2).length = 2 + lg + 2 := T2xl.out
    refine Rep.append_list T27 rfl _ _ rfl rfl T2x.out.2 (L := Bq2) (M := BA) rfl (F2.out.2.2.2.2.2.2.1.keep T2x.out.1) (F2.out.2.2.2.2.2.2.2.1) (by rw [hll]; unfold maxLen; omega) (by rw [hll]; omega) T2x.out.1.size ?_
    intro u3 V3 hown hb _
    have hln : (Bq2 ++ BA).length = 2 + lg + 2 + la := by rw [List.length_append, hll, F2.out.2.2.2.2.2.2.2.2]
    have hbn := T2x.out.1.trans hb
    generalize Bq2 ++ BA = Bq3 at *
    obtain ⟨oo3, kk3, rfl, -, -⟩ := hown.sl0
    rw [hln] at hown ⊢
    have T3x := Lib.hid (And.intro hbn hown)
    have T3xl := Lib.hid hln
    clear hown hb hln hbn hll T2x
    obtain ⟨c0, c1, c2, c3, c4, c5, c6, c7, c8⟩ := (F2.out.2.1.keep T3x.out.1).cells
    go_wp2_with fail
    refine (HR.out _ (F2.out.2.2.1.keep T3x.out.1)).mono ?_
    rintro e C5 ⟨v5, rfl, ho, hb⟩
    obtain ⟨o5, k5, rfl, hs5, hn5⟩ := ho.sl0
    obtain ⟨lr, hlrv⟩ : ∃ z, (nbs false x.r.l).length = z := ⟨_, rfl⟩
    rw [hlrv] at hs5 hlr ⊢
    rw [hlrv] at HLen
    have T5 := Lib.hid (And.intro (bcall T3x.out.1 (Nat.le_refl _) hb) (T3x.out.2.below hb))
    have HS5 := Lib.hid (And.intro hs5 (And.intro hn5 hlrv))
    clear hb ho hs5 hn5 hlrv c0 c1 c2 c3 c4 c5 c6 c7 c8
    go_wp2_with (at_builtin; refine halt ?_)
    refine Halted.go ?_
    have hll : (Bq3).length = 2 + lg + 2 + la := T3xl.out
    refine Rep.append_list T27 rfl _ _ rfl rfl T5.out.2 (L := Bq3) (M := (nbs false x.r.l)) rfl (HS5.out.1) (HS5.out.2.1) (by rw [hll]; unfold maxLen; omega) (by rw [hll]; omega) T5.out.1.size ?_
    intro u4 V4 hown hb _
    have hln : (Bq3 ++ (nbs false x.r.l)).length = 2 + lg + 2 + la + lr := by rw [List.length_append, hll, HS5.out.2.2]
    have hbn := T5.out.1.trans hb
    generalize Bq3 ++ (nbs false x.r.l) = Bq4 at *
    obtain ⟨oo4, kk4, rfl, -, -⟩ := hown.sl0
    rw [hln] at hown ⊢
    have T4x := Lib.hid (And.intro hbn hown)
    have T4xl := Lib.hid hln
    clear hown hb hln hbn hll T5
    go_wp2_with fail
    go_ret
    exact ⟨⟨_, _, rfl, T4x.out.2.mono F2.out.1.size, by rw [T4xl.out, HLen.out]; omega⟩, F2.out.1.trans (T4x.out.1.mono F2.out.1.size)⟩
end Go.Proofs.YtadoflcomienoaaGreat
/- Which updates may be put, as the reference tells. -/
namespace Go.Proofs.YtadoflcomienoaaGreat
open Go.RowKit

set_option maxRecDepth 100000 in
set_option maxHeartbeats 2000000 in
theorem rucheck_any {w : World} {x : UpV} (hx : UpOk w x) (four : Bool) : Calls Tryz.prog 17 #[x.v, .bool four, .bool false] w fun e w' => e = .returned (.bool (chkU four x.up)) ∧ Below w.heap.size w w' := by
  have hal := (Below.refl w.heap.size w).alloc (Nat.le_refl _) (.cells #[.slice x.g.a x.g.n x.g.c, .slice x.r.a x.r.n x.r.c, .int .i64 x.a.o, .slice x.a.p.a x.a.p.n x.a.p.c, .int .u32 x.a.nx, .int .i64 x.a.md, .int .i64 x.a.pf, .slice x.a.c.a x.a.c.n x.a.c.c, .bool x.soft] 42)
  have hX : BxU w.heap.size x (w.alloc (.cells #[.slice x.g.a x.g.n x.g.c, .slice x.r.a x.r.n x.r.c, .int .i64 x.a.o, .slice x.a.p.a x.a.p.n x.a.p.c, .int .u32 x.a.nx, .int .i64 x.a.md, .int .i64 x.a.pf, .slice x.a.c.a x.a.c.n x.a.c.c, .bool x.soft] 42)) := hnew _ _
  have F0 := Lib.hid (And.intro hal (And.intro hX (hx.keep hal)))
  have HG := Lib.hid (rncheck_any F0.out.2.2.g.nls false)
  obtain ⟨c0, c1, c2, c3, c4, c5, c6, c7, c8⟩ := hX.cells
  obtain ⟨v, hv⟩ : ∃ b, chkU four x.up = b := ⟨_, rfl⟩
  have HV := Lib.hid (show v = (((!x.soft && okL false x.g.l) && (okL false x.r.l && okAt four x.up)) && decide (lenU four x.up ≤ 4077)) from hv.symm)
  rw [hv]
  clear hal hX hx hv
  obtain ⟨xg, xr, xa, xs⟩ := x
  unfold UpV.v
  dsimp only at *
  obtain ⟨og, hog⟩ : ∃ b, okL false xg.l = b := ⟨_, rfl⟩
  rw [hog] at HV HG
  have HOG := Lib.hid hog
  clear hog
  cases xs with
  | true =>
    go_enter Tryz.func17, Tryz.ntmps17
    go_wp2_with fail
    go_ret
    exact ⟨ret_bool (by rw [HV.out]; rfl), F0.out.1⟩
  | false =>
    go_enter Tryz.func17, Tryz.ntmps17
    go_wp2_with fail
    refine (HG.out).mono ?_
    rintro e F1w ⟨rfl, hb⟩
    have F1 := Lib.hid (And.intro (bcall F0.out.1 (by first | exact Nat.le_refl _ | simp) hb) (And.intro (F0.out.2.1.keep hb) (F0.out.2.2.keep hb)))
    clear hb c0 c1 c2 c3 c4 c5 c6 c7 c8 F0
    cases og with
    | false =>
      go_wp2_with fail
      go_ret
      exact ⟨ret_bool (by rw [HV.out]; rfl), F1.out.1⟩
    | true =>
      have HR := Lib.hid (rncheck_any F1.out.2.2.r.nls false)
      dsimp only at HR
      obtain ⟨orr, hor⟩ : ∃ b, okL false xr.l = b := ⟨_, rfl⟩
      rw [hor] at HV HR
      have HOR := Lib.hid hor
      clear hor
      obtain ⟨c0, c1, c2, c3, c4, c5, c6, c7, c8⟩ := F1.out.2.1.cells
      go_wp2_with fail
      refine (HR.out).mono ?_
      rintro e F2w ⟨rfl, hb⟩
      have F2 := Lib.hid (And.intro (bcall F1.out.1 (by first | exact Nat.le_refl _ | simp) hb) (And.intro (F1.out.2.1.keep hb) (F1.out.2.2.keep hb)))
      clear hb c0 c1 c2 c3 c4 c5 c6 c7 c8 F1
      cases orr with
      | false =>
        go_wp2_with fail
        go_ret
        exact ⟨ret_bool (by rw [HV.out]; rfl), F2.out.1⟩
      | true =>
        obtain ⟨oa, hoa⟩ : ∃ b, okAt four (UpV.up ⟨xg, xr, xa, false⟩) = b := ⟨_, rfl⟩
        rw [hoa] at HV
        have HOA := Lib.hid hoa
        have hrl : xr.n = xr.l.length := F2.out.2.2.r.sl.len
        by_cases h0 : xr.n = 0
        · have e1 : ((0 : Int) < (xr.n : Int)) = False := by simp; omega
          have e2 : (0 < xr.n) = False := by simp; omega
          have e3 : ((xr.n : Int) == 0) = true := by simp [h0]
          have HS := Lib.hid (rasame_any F2.out.2.2.a (atZ_ok F2w))
          dsimp only at HS
          rw [show atZV.at = atZ from rfl, show decide (xa.at = atZ) = oa from by rw [← hoa]; exact (if_pos (show xr.l.length = 0 by omega)).symm] at HS
          unfold AtV.v atZV at HS
          dsimp only at HS
          clear h0 hoa hrl
          obtain ⟨c0, c1, c2, c3, c4, c5, c6, c7, c8⟩ := F2.out.2.1.cells
          go_wp2_with fail
          refine (HS.out).mono ?_
          rintro e F3w ⟨rfl, hb⟩
          have F3 := Lib.hid (And.intro (bcall F2.out.1 (by first | exact Nat.le_refl _ | simp) hb) (And.intro (F2.out.2.1.keep hb) (F2.out.2.2.keep hb)))
          clear hb c0 c1 c2 c3 c4 c5 c6 c7 c8 F2
          cases oa with
          | false =>
            go_wp2_with fail
            go_ret
            exact ⟨ret_bool (by rw [HV.out]; rfl), F3.out.1⟩
          | true =>
            have HB := Lib.hid (rubody_len F3.out.2.2 four HOG.out HOR.out HOA.out)
            unfold UpV.v at HB
            dsimp only at HB
            obtain ⟨c0, c1, c2, c3, c4, c5, c6, c7, c8⟩ := F3.out.2.1.cells
            go_wp2_with fail
            refine (HB.out).mono ?_
            rintro e W9 ⟨⟨v9, B9, rfl, ho, hl⟩, hb⟩
            obtain ⟨o9, k9, rfl, -, -⟩ := ho.sl0
            rw [hl]
            have HE := Lib.hid (bcall F3.out.1 (Nat.le_refl _) hb)
            clear hb ho hl c0 c1 c2 c3 c4 c5 c6 c7 c8
            obtain ⟨lu, hlu⟩ : ∃ z, lenU four ⟨xg.l, xr.l, xa.at, false⟩ = z := ⟨_, rfl⟩
            rw [show lenU four (UpV.up ⟨xg, xr, xa, false⟩) = lu from hlu] at HV ⊢
            by_cases h9 : lu ≤ 4077
            · have e9 : ((lu : Int) ≤ 4077) = True := by simp; omega
              rw [decide_eq_true h9] at HV
              clear h9
              go_wp2_with fail
              go_ret
              exact ⟨ret_bool (by rw [HV.out]; rfl), HE.out⟩
            · have e9 : ((lu : Int) ≤ 4077) = False := by simp; omega
              rw [decide_eq_false h9] at HV
              clear h9
              go_wp2_with fail
              go_ret
              exact ⟨ret_bool (by rw [HV.out]; rfl), HE.out⟩
        · have e1 : ((0 : Int) < (xr.n : Int)) = True := by simp; omega
          have e2 : (0 < xr.n) = True := by simp; omega
          have e3 : ((xr.n : Int) == 0) = false := by simpa using h0
          have HS := Lib.hid (racheck_any F2.out.2.2.a four)
          dsimp only at HS
          rw [show okA four xa.at = oa from by rw [← hoa]; exact (if_neg (show ¬ xr.l.length = 0 by omega)).symm] at HS
          unfold AtV.v at HS
          clear h0 hoa hrl
          obtain ⟨c0, c1, c2, c3, c4, c5, c6, c7, c8⟩ := F2.out.2.1.cells
          go_wp2_with fail
          refine (HS.out).mono ?_
          rintro e F3w ⟨rfl, hb⟩
          have F3 := Lib.hid (And.intro (bcall F2.out.1 (by first | exact Nat.le_refl _ | simp) hb) (And.intro (F2.out.2.1.keep hb) (F2.out.2.2.keep hb)))
          clear hb c0 c1 c2 c3 c4 c5 c6 c7 c8 F2
          cases oa with
          | false =>
            go_wp2_with fail
            go_ret
            exact ⟨ret_bool (by rw [HV.out]; rfl), F3.out.1⟩
          | true =>
            have HB := Lib.hid (rubody_len F3.out.2.2 four HOG.out HOR.out HOA.out)
            unfold UpV.v at HB
            dsimp only at HB
            obtain ⟨c0, c1, c2, c3, c4, c5, c6, c7, c8⟩ := F3.out.2.1.cells
            go_wp2_with fail
            refine (HB.out).mono ?_
            rintro e W9 ⟨⟨v9, B9, rfl, ho, hl⟩, hb⟩
            obtain ⟨o9, k9, rfl, -, -⟩ := ho.sl0
            rw [hl]
            have HE := Lib.hid (bcall F3.out.1 (Nat.le_refl _) hb)
            clear hb ho hl c0 c1 c2 c3 c4 c5 c6 c7 c8
            obtain ⟨lu, hlu⟩ : ∃ z, lenU four ⟨xg.l, xr.l, xa.at, false⟩ = z := ⟨_, rfl⟩
            rw [show lenU four (UpV.up ⟨xg, xr, xa, false⟩) = lu from hlu] at HV ⊢
            by_cases h9 : lu ≤ 4077
            · have e9 : ((lu : Int) ≤ 4077) = True := by simp; omega
              rw [decide_eq_true h9] at HV
              clear h9
              go_wp2_with fail
              go_ret
              exact ⟨ret_bool (by rw [HV.out]; rfl), HE.out⟩
            · have e9 : ((lu : Int) ≤ 4077) = False := by simp; omega
              rw [decide_eq_false h9] at HV
              clear h9
              go_wp2_with fail
              go_ret
              exact ⟨ret_bool (by rw [HV.out]; rfl), HE.out⟩
end Go.Proofs.YtadoflcomienoaaGreat
/- How many prefixes fit, as the reference tells. -/
namespace Go.Proofs.YtadoflcomienoaaGreat
open Go.RowKit

/-- an update of what comes alone -/
def upR (L : List Nl) (a : At) : Up := ⟨[], L, a, false⟩
theorem nbs_szs (L : List Nl) : (nbs false L).length = szs szN L := by
  unfold nbs szs szN
  induction L with
  | nil => rfl
  | cons x r ih => rw [List.flatMap_cons, List.length_append, ih, List.map_cons, List.sum_cons]
theorem chkU_R {four : Bool} {L : List Nl} {a : At} (hL : ∀ n ∈ L, okN false n = true) (ha : okA four a = true) (h0 : L ≠ []) : chkU four (upR L a) = (decide (L.length ≤ 1024) && decide (asz four a + szs szN L ≤ 4073)) := by
  have hl : ¬ L.length = 0 := fun h => h0 (List.length_eq_zero_iff.1 h)
  have h1 : okL false L = decide (L.length ≤ 1024) := by
    unfold okL
    rw [List.all_eq_true.2 hL, Bool.and_true]
  unfold chkU lenU upR okAt aszU
  dsimp only
  rw [if_neg hl, if_neg hl, ha, h1, show (nbs false ([] : List Nl)).length = 0 from rfl, nbs_szs, show okL false ([] : List Nl) = true from rfl]
  rw [Bool.eq_iff_iff]
  simp only [Bool.and_eq_true, decide_eq_true_eq, Bool.not_false, true_and, and_true]
  omega
end Go.Proofs.YtadoflcomienoaaGreat
/- Slices of the call's own whose elements hold slices themselves. -/
namespace Go.Proofs.YtadoflcomienoaaGreat
open Go.RowKit
/-- it holds whatever becomes of a block, and of new ones -/
def Firm (g : Option Nat) (w : World) (P : World → Prop) : Prop := ∀ w', w.grownBy w' g → P w'
theorem grown_of {w w' : World} (h : Below w.heap.size w w') (g : Option Nat) : w.grownBy w' g := ⟨h.os, h.tape, h.output, h.size, fun k hk _ => h.block k hk⟩
theorem grown_below {B : Nat} {w w' : World} {g : Option Nat} (h : w.grownBy w' g) (hB : B ≤ w.heap.size) (hg : ∀ k, g = some k → B ≤ k) : Below B w w' :=
  ⟨h.os, h.tape, h.output, h.size, fun k hk => h.block k (by omega) (fun e => by have := hg k e.symm; omega)⟩
section
variable {g g' : Option Nat} {w w1 : World} {P Q : World → Prop}
theorem Firm.now (h : Firm g w P) : P w := h w (World.grownBy.refl _ _)
theorem Firm.imp (h : Firm g w P) (hi : ∀ W, P W → Q W) : Firm g w Q := fun w' h' => hi _ (h w' h')
theorem Firm.turn (h : Firm g w P) (hb : w.grownBy w1 g) (hg : ∀ b, b < w.heap.size → g' = some b → g = some b) : Firm g' w1 P := fun w' h' =>
  h w' ⟨h'.os.trans hb.os, h'.tape.trans hb.tape, h'.output.trans hb.output, Nat.le_trans hb.size h'.size, fun b hlt hne => (h'.block b (Nat.lt_of_lt_of_le hlt hb.size) (fun e => hne (hg b hlt e.symm).symm)).trans (hb.block b hlt hne)⟩
theorem Firm.below (h : Firm g w P) (hb : Below w.heap.size w w1) : Firm g w1 P := h.turn (grown_of hb g) fun _ _ e => e
/-- things that a call found: they hold, whatever becomes of blocks of its own -/
theorem Firm.old {w0 : World} (hb : Below w0.heap.size w0 w) (hk : ∀ W, Below w0.heap.size w0 W → P W) (hg : ∀ k, g = some k → w0.heap.size ≤ k) : Firm g w P := fun w' h' =>
  hk w' (hb.trans (grown_below h' hb.size hg))
theorem Firm.sl {α : Type} [Inhabited α] {R : Rep α} {a : Option Addr} {n c : Nat} {L : List α} (h : R.Sl w a n c L) (hg : 0 < n → ∀ x, a = some x → some x.block ≠ g) : Firm g w fun W => R.Sl W a n c L := fun w' h' =>
  ⟨h.len, h.max, fun hn => by
    obtain ⟨b, o, e, r⟩ := h.row hn
    exact ⟨b, o, e, r.keep (h'.block b r.lt (hg hn _ e))⟩⟩
end
/-- a slice of the call's own; all of its elements hold, whatever becomes of it -/
structure OwnP {α : Type} [Inhabited α] (R : Rep α) (P : World → α → Prop) (w : World) (base : Nat) (v : Value) (L : List α) : Prop where
  own : R.Own w base v L
  el : ∀ x ∈ L, Firm v.ownBlock w fun W => P W x
section
variable {α : Type} [Inhabited α] {R : Rep α} {P : World → α → Prop} {w w' : World} {base : Nat} {v v' : Value} {L M : List α}
theorem OwnP.nil : OwnP R P w base (.slice none 0 0) [] := ⟨Rep.Own.nil _ _, fun _ h => by cases h⟩
theorem OwnP.below (h : OwnP R P w base v L) (hb : Below w.heap.size w w') : OwnP R P w' base v L := ⟨h.own.below hb, fun x hx => (h.el x hx).below hb⟩
theorem OwnP.mono {base' : Nat} (h : OwnP R P w base v L) (hb : base' ≤ base) : OwnP R P w base' v L := ⟨h.own.mono hb, h.el⟩
theorem OwnP.append (h : OwnP R P w base v L) (hown : R.Own w' base v' (L ++ M)) (hg : w.grownBy w' v.ownBlock) (hf : v'.ownBlock = v.ownBlock ∨ v'.ownBlock = some w.heap.size) (hM : ∀ x ∈ M, Firm v.ownBlock w fun W => P W x) : OwnP R P w' base v' (L ++ M) := by
  have hg' : ∀ b, b < w.heap.size → v'.ownBlock = some b → v.ownBlock = some b := by
    intro b hb e
    rcases hf with hf | hf
    · exact hf.symm.trans e
    · rw [hf] at e; injection e with e; omega
  refine ⟨hown, fun x hx => ?_⟩
  rcases List.mem_append.1 hx with hx | hx
  · exact (h.el x hx).turn hg hg'
  · exact (hM x hx).turn hg hg'
namespace Rep
variable {Pr : Program}
/-- where append lays its answer -/
theorem append_where {t ty : TypeId} {bytes : Nat} (hT : Ty Pr t R bytes) (hown : R.Own w base v L) {sa : Option Addr} {m c : Nat} (hM : R.Sl w sa m c M) (hc : sa = none → c = 0)
    (hmax : L.length + m ≤ maxLen) (hbytes : (L.length + m) * bytes ≤ 140737488355328) {u : Value} {wu : World} (hr : (Builtin.append_ #[t, t] ty #[v, .slice sa m c]).run Pr w = .ok u wu) : u.ownBlock = v.ownBlock ∨ u.ownBlock = some w.heap.size := by
  obtain ⟨i, z, h1, h2, h3, h4, h5⟩ := hT.hi
  have hsmall : L.length + m ≤ 9223372036854775807 := by simp only [maxLen] at hmax; omega
  cases sa with
  | none =>
    obtain rfl := hc rfl
    have hm : m = 0 := by
      rcases Nat.eq_zero_or_pos m with h0 | h0
      · exact h0
      · obtain ⟨b, o, e, _⟩ := hM.row h0; cases e
    subst hm
    rw [run_append_owned_none (w := w) base t ty R.T i R.k hT.ht h1 v L.length (R.flat L) hown] at hr
    injection hr with hr _
    exact .inl (by rw [hr])
  | some ad =>
    have hl : (R.flat M).length = m * i.size := by rw [R.flat_length, ← hM.len, h3]
    have hnews : ∀ j u, (R.flat M)[j]? = some u → w.cell? (ad.add j) = some u := by
      rcases Nat.eq_zero_or_pos m with h0 | h0
      · have hMe : M = [] := List.length_eq_zero_iff.1 (hM.len.symm.trans h0)
        subst hMe; intro j u hu; simp [flat] at hu
      · obtain ⟨b, o, e, hw9⟩ := hM.row h0
        cases e
        exact news_of_row hw9
    rcases hown.2 with ⟨rfl, h0⟩ | ⟨g, cap, cur, rfl, hbg, hg, hnc, hcm, hcs, htake⟩
    · rcases Nat.eq_zero_or_pos m with hm | hm
      · subst hm
        have : (Builtin.append_ #[t, t] ty #[.slice none 0 0, .slice (some ad) 0 c]).run Pr w = .ok (.slice none 0 0) w := by simp [Builtin.append_, run_underlying hT.ht, sizeOf, typeInfo, h1, Builtin.lenOf, Builtin.firstCells, loadCells, loadCellsFrom]
        rw [this] at hr
        injection hr with hr _
        exact .inl (by rw [← hr])
      · rw [run_append_nil (P := Pr) w t ty R.T i z hT.ht h1 h2 ad m c (R.flat M) hl hnews hm (by omega) (by rw [h4]; rw [h0] at hbytes; simp only [Nat.zero_add] at hbytes; omega)] at hr
        injection hr with hr _
        exact .inr (by rw [← hr]; rfl)
    · by_cases hroom : L.length + m ≤ cap
      · rw [run_append_room (P := Pr) w t ty R.T i hT.ht h1 g L.length cap cur hg ad m c (R.flat M) hl hnews (fun u hu => R.flat_cell1 M u hu) hroom (by rw [hl, hcs, h3, ← Nat.add_mul]; exact Nat.mul_le_mul_right _ hroom)] at hr
        injection hr with hr _
        exact .inl (by rw [← hr]; rfl)
      · have holds : ∀ j u, (R.flat L)[j]? = some u → w.cell? ((⟨g, 0, none⟩ : Addr).add j) = some u := World.ownsRow.cells (g := g) hown rfl
        rw [run_append_grow (P := Pr) w t ty R.T i z hT.ht h1 h2 ⟨g, 0, none⟩ L.length cap (R.flat L) (by rw [R.flat_length, h3]) holds ad m c (R.flat M) hl hnews (by omega) (by omega) (by rw [h4]; exact growslice_fits (by omega) hbytes)] at hr
        injection hr with hr _
        exact .inr (by rw [← hr]; rfl)
variable {ops : Array Oper} {rest : List Oper} {o : Oper} {a : Act} {Q : Exit → Act → World → Prop}
/-- append(v, l...) of elements that hold slices -/
theorem append_listP {t : TypeId} {bytes : Nat} (hT : Ty Pr t R bytes) (hgd : o.guard = none) (s x : Operand) (ho : o.op = .call { callee := .builtin .append, args := #[s, x], argTypes := #[t, t] })
    (hs : a.eval s = v) (hown : OwnP R P w base v L) {sa : Option Addr} {m c : Nat} (hx : a.eval x = .slice sa m c) (hM : R.Sl w sa m c M) (hc : sa = none → c = 0)
    (hel : ∀ x ∈ M, Firm v.ownBlock w fun W => P W x) (hmax : L.length + m ≤ maxLen) (hbytes : (L.length + m) * bytes ≤ 140737488355328) (hbase : base ≤ w.heap.size)
    (h : ∀ v' w', OwnP R P w' base v' (L ++ M) → Below base w w' → wpList Pr ops Q rest (a.put o.dst v') w') : wpList Pr ops Q (o :: rest) a w :=
  wpList_plain hgd fun K hK => by
    obtain ⟨v', w', e1, e2, e3, e4⟩ := run_append_list hT hown.own hM hc hmax hbytes hbase (ty := o.type)
    have hk := hK _ _ (h v' w' (hown.append e2 e4 (append_where hT hown.own hM hc hmax hbytes e1) hel) e3)
    unfold Oper.wp execOp
    simp only [ho, resolve, invoke, builtin, Sem.run_bind, Sem.run_pure, Result.andThen_ok, List.map_toArray, List.map_cons, List.map_nil, hs, hx, e1]
    exact hk
/-- append(v, l...): where the answer lies, what else stays -/
theorem append_listW {t : TypeId} {bytes : Nat} (hT : Ty Pr t R bytes) (hgd : o.guard = none) (s x : Operand) (ho : o.op = .call { callee := .builtin .append, args := #[s, x], argTypes := #[t, t] })
    (hs : a.eval s = v) (hown : R.Own w base v L) {sa : Option Addr} {m c : Nat} (hx : a.eval x = .slice sa m c) (hM : R.Sl w sa m c M) (hc : sa = none → c = 0)
    (hmax : L.length + m ≤ maxLen) (hbytes : (L.length + m) * bytes ≤ 140737488355328) (hbase : base ≤ w.heap.size)
    (h : ∀ v' w', R.Own w' base v' (L ++ M) → Below base w w' → w.grownBy w' v.ownBlock → (v'.ownBlock = v.ownBlock ∨ v'.ownBlock = some w.heap.size) → wpList Pr ops Q rest (a.put o.dst v') w') : wpList Pr ops Q (o :: rest) a w :=
  wpList_plain hgd fun K hK => by
    obtain ⟨v', w', e1, e2, e3, e4⟩ := run_append_list hT hown hM hc hmax hbytes hbase (ty := o.type)
    have hk := hK _ _ (h v' w' e2 e3 e4 (append_where hT hown hM hc hmax hbytes e1))
    unfold Oper.wp execOp
    simp only [ho, resolve, invoke, builtin, Sem.run_bind, Sem.run_pure, Result.andThen_ok, List.map_toArray, List.map_cons, List.map_nil, hs, hx, e1]
    exact hk
/-- append(v, l...) of elements that hold slices; what is firm against it stays so -/
theorem append_listQ {t : TypeId} {bytes : Nat} (hT : Ty Pr t R bytes) (hgd : o.guard = none) (s x : Operand) (ho : o.op = .call { callee := .builtin .append, args := #[s, x], argTypes := #[t, t] })
    (hs : a.eval s = v) (hown : OwnP R P w base v L) {sa : Option Addr} {m c : Nat} (hx : a.eval x = .slice sa m c) (hM : R.Sl w sa m c M) (hc : sa = none → c = 0)
    (hel : ∀ x ∈ M, Firm v.ownBlock w fun W => P W x) (hmax : L.length + m ≤ maxLen) (hbytes : (L.length + m) * bytes ≤ 140737488355328) (hbase : base ≤ w.heap.size)
    (h : ∀ v' w', OwnP R P w' base v' (L ++ M) → Below base w w' → (∀ Z : World → Prop, Firm v.ownBlock w Z → Firm v'.ownBlock w' Z) → wpList Pr ops Q rest (a.put o.dst v') w') : wpList Pr ops Q (o :: rest) a w :=
  append_listW hT hgd s x ho hs hown.own hx hM hc hmax hbytes hbase fun v' w' e2 e3 e4 e5 => h v' w' (hown.append e2 e4 e5 hel) e3 fun Z hZ => hZ.turn e4 (by
    intro b hb e
    rcases e5 with hf | hf
    · exact hf.symm.trans e
    · rw [hf] at e; injection e with e; omega)
end Rep
end
end Go.Proofs.YtadoflcomienoaaGreat
/- What is said, in memory; attributes and updates that hold whatever becomes of a block. -/
namespace Go.Proofs.YtadoflcomienoaaGreat
open Go.RowKit

structure SyV where
  k : PK
  a : AtV
deriving Inhabited
def SyV.sy (x : SyV) : Sy := ⟨x.k, x.a.at⟩
def SyV.v (x : SyV) : Value := .agg #[.int .u32 (x.k.1 : Int), .int .i64 x.k.2, .int .i64 x.a.o, .slice x.a.p.a x.a.p.n x.a.p.c, .int .u32 x.a.nx, .int .i64 x.a.md, .int .i64 x.a.pf, .slice x.a.c.a x.a.c.n x.a.c.c]
def RSy : Rep SyV := ⟨88, 8, by decide, fun x => [.int .u32 (x.k.1 : Int), .int .i64 x.k.2, .int .i64 x.a.o, .slice x.a.p.a x.a.p.n x.a.p.c, .int .u32 x.a.nx, .int .i64 x.a.md, .int .i64 x.a.pf, .slice x.a.c.a x.a.c.n x.a.c.c], fun _ => rfl, fun _ => rfl⟩
theorem TSy : Rep.Ty Tryz.prog 22 RSy 96 := Rep.Ty.mk' Tryz.underlying22 (z := .agg #[.int .u32 0, .int .i64 0, .int .i64 0, .slice none 0 0, .int .u32 0, .int .i64 0, .int .i64 0, .slice none 0 0]) (by kernel_rfl) rfl
theorem TUp : Rep.Ty Tryz.prog 25 RUp 136 := Rep.Ty.mk' Tryz.underlying25 (z := .agg #[.slice none 0 0, .slice none 0 0, .int .i64 0, .slice none 0 0, .int .u32 0, .int .i64 0, .int .i64 0, .slice none 0 0, .bool false]) (by kernel_rfl) rfl
structure SyOk (w : World) (x : SyV) : Prop where
  k : x.k.1 < 4294967296 ∧ I64 x.k.2
  a : AtOk w x.a
theorem SyOk.keep {w w' : World} {x : SyV} (h : SyOk w x) (hb : Below w.heap.size w w') : SyOk w' x := ⟨h.k, h.a.keep hb⟩
theorem SlOk.keepY {w w' : World} {s : SlV SyV} (h : SlOk RSy SyOk w s) (hb : Below w.heap.size w w') : SlOk RSy SyOk w' s := h.keep hb fun _ _ h => h.keep hb
theorem SlOk.keepU {w w' : World} {s : SlV UpV} (h : SlOk RUp UpOk w s) (hb : Below w.heap.size w w') : SlOk RUp UpOk w' s := h.keep hb fun _ _ h => h.keep hb
def BxY (q : Nat) (x : SyV) (W : World) : Prop := W.heap[q]? = some (.cells #[.int .u32 (x.k.1 : Int), .int .i64 x.k.2, .int .i64 x.a.o, .slice x.a.p.a x.a.p.n x.a.p.c, .int .u32 x.a.nx, .int .i64 x.a.md, .int .i64 x.a.pf, .slice x.a.c.a x.a.c.n x.a.c.c] 88)
theorem BxY.keep {q : Nat} {x : SyV} {W W' : World} (h : BxY q x W) (hb : Below W.heap.size W W') : BxY q x W' := (hb.block _ (lt_of_blk h)).trans h
theorem BxY.cells {q : Nat} {x : SyV} {W : World} (h : BxY q x W) : W.cell? ⟨q, 0, none⟩ = some (.int .u32 (x.k.1 : Int)) ∧ W.cell? ⟨q, 1, none⟩ = some (.int .i64 x.k.2) ∧ W.cell? ⟨q, 2, none⟩ = some (.int .i64 x.a.o) ∧ W.cell? ⟨q, 3, none⟩ = some (.slice x.a.p.a x.a.p.n x.a.p.c) ∧ W.cell? ⟨q, 4, none⟩ = some (.int .u32 x.a.nx) ∧ W.cell? ⟨q, 5, none⟩ = some (.int .i64 x.a.md) ∧ W.cell? ⟨q, 6, none⟩ = some (.int .i64 x.a.pf) ∧ W.cell? ⟨q, 7, none⟩ = some (.slice x.a.c.a x.a.c.n x.a.c.c) := ⟨cell_of h rfl, cell_of h rfl, cell_of h rfl, cell_of h rfl, cell_of h rfl, cell_of h rfl, cell_of h rfl, cell_of h rfl⟩

/-- none of it lies in a block -/
def FarS {α : Type} (g : Option Nat) (s : SlV α) : Prop := 0 < s.n → ∀ a, s.a = some a → some a.block ≠ g
theorem SlOk.firm {α : Type} [Inhabited α] {R : Rep α} {ok : World → α → Prop} {g : Option Nat} {w : World} {s : SlV α} (h : SlOk R ok w s) (hg : FarS g s) (hP : ∀ x ∈ s.l, Firm g w fun W => ok W x) : Firm g w fun W => SlOk R ok W s := fun w' h' =>
  ⟨Firm.sl h.sl hg w' h', h.nil, h.nc, h.cm, fun x hx => hP x hx w' h'⟩
theorem SlOk.firmI {g : Option Nat} {w : World} {s : SlV Int} (h : SlOk RI OkI w s) (hg : FarS g s) : Firm g w fun W => SlOk RI OkI W s := h.firm hg fun _ hx _ _ => h.all _ hx
theorem SlOk.firmN {g : Option Nat} {w : World} {s : SlV Nl} (h : SlOk RNl NlOk w s) (hg : FarS g s) : Firm g w fun W => SlOk RNl NlOk W s := h.firm hg fun _ hx _ _ => h.all _ hx
structure FarA (g : Option Nat) (x : AtV) : Prop where
  p : FarS g x.p
  c : FarS g x.c
  s : ∀ y ∈ x.p.l, FarS g y.s
theorem AtOk.firm {g : Option Nat} {w : World} {x : AtV} (h : AtOk w x) (hg : FarA g x) : Firm g w fun W => AtOk W x := fun w' h' =>
  ⟨SlOk.firm (ok := SgOk) h.p hg.p (fun y hy => SlOk.firmI (h.p.all y hy) (hg.s y hy)) w' h', h.c.firmI hg.c w' h', h.o, h.nx, h.md, h.pf⟩
theorem UpOk.firm {g : Option Nat} {w : World} {x : UpV} (h : UpOk w x) (h1 : FarS g x.g) (h2 : FarS g x.r) (h3 : Firm g w fun W => AtOk W x.a) : Firm g w fun W => UpOk W x := fun w' h' =>
  ⟨h.g.firmN h1 w' h', h.r.firmN h2 w' h', h3 w' h'⟩
theorem SyOk.firm {g : Option Nat} {w : World} {x : SyV} (h : SyOk w x) (h3 : Firm g w fun W => AtOk W x.a) : Firm g w fun W => SyOk W x := fun w' h' => ⟨h.k, h3 w' h'⟩
theorem FarS.none {α : Type} {g : Option Nat} {n c : Nat} {l : List α} : FarS g ⟨Option.none, n, c, l⟩ := fun _ _ h => by cases h
/-- it lies in blocks from a number on -/
def NewS {α : Type} (B : Nat) (s : SlV α) : Prop := 0 < s.n → ∀ a, s.a = some a → B ≤ a.block
structure NewA (B : Nat) (x : AtV) : Prop where
  p : NewS B x.p
  c : NewS B x.c
  s : ∀ y ∈ x.p.l, NewS B y.s
theorem NewS.far {α : Type} {B : Nat} {s : SlV α} {g : Option Nat} (h : NewS B s) (hg : ∀ k, g = some k → k < B) : FarS g s := fun hn a e e2 => by have := h hn a e; have := hg _ e2.symm; omega
theorem NewA.far {B : Nat} {x : AtV} {g : Option Nat} (h : NewA B x) (hg : ∀ k, g = some k → k < B) : FarA g x := ⟨h.p.far hg, h.c.far hg, fun y hy => (h.s y hy).far hg⟩
/-- an owned slice, as one that is read -/
theorem Own_slok {α : Type} [Inhabited α] {R : Rep α} {ok : World → α → Prop} {w : World} {base : Nat} {v : Value} {L : List α} (h : R.Own w base v L) (hok : ∀ x ∈ L, ok w x) : ∃ s : SlV α, v = .slice s.a s.n s.c ∧ s.l = L ∧ SlOk R ok w s ∧ NewS base s ∧ (∀ a, s.a = some a → v.ownBlock = some a.block) := by
  rcases h.cases with ⟨rfl, rfl⟩ | ⟨g, cap, rfl, hg, hl, h1, h2, hr, -⟩
  · exact ⟨⟨none, 0, 0, []⟩, rfl, rfl, slZ, (fun _ _ e => by cases e), fun _ e => by cases e⟩
  · exact ⟨⟨some ⟨g, 0, none⟩, L.length, cap, L⟩, rfl, rfl, ⟨⟨rfl, by show L.length ≤ maxLen; omega, fun _ => ⟨g, 0, rfl, hr⟩⟩, (fun e => by cases e), h1, h2, hok⟩, (fun _ a e => by cases e; exact hg), fun a e => by cases e; rfl⟩
theorem OwnP.slok {α : Type} [Inhabited α] {R : Rep α} {ok : World → α → Prop} {w : World} {base : Nat} {v : Value} {L : List α} (h : OwnP R ok w base v L) : ∃ s : SlV α, v = .slice s.a s.n s.c ∧ s.l = L ∧ SlOk R ok w s ∧ NewS base s ∧ (∀ a, s.a = some a → v.ownBlock = some a.block) := Own_slok h.own fun x hx => (h.el x hx).now
/-- it lies ahead of a number, or from another one on -/
def LowS {α : Type} (B : Nat) (s : SlV α) : Prop := 0 < s.n → ∀ a, s.a = some a → a.block < B
structure LowA (B : Nat) (x : AtV) : Prop where
  p : LowS B x.p
  c : LowS B x.c
  s : ∀ y ∈ x.p.l, LowS B y.s
theorem SlOk.low {α : Type} [Inhabited α] {R : Rep α} {ok : World → α → Prop} {w : World} {s : SlV α} (h : SlOk R ok w s) : LowS w.heap.size s := fun hn a e => by
  obtain ⟨b, o, e2, r⟩ := h.sl.row hn
  rw [e] at e2
  injection e2 with e2
  rw [e2]
  exact r.lt
theorem AtOk.low {w : World} {x : AtV} (h : AtOk w x) : LowA w.heap.size x := ⟨h.p.low, h.c.low, fun y hy => SlOk.low (h.p.all y hy)⟩
def ApS {α : Type} (lo hi : Nat) (s : SlV α) : Prop := 0 < s.n → ∀ a, s.a = some a → a.block < lo ∨ hi ≤ a.block
structure ApA (lo hi : Nat) (x : AtV) : Prop where
  p : ApS lo hi x.p
  c : ApS lo hi x.c
  s : ∀ y ∈ x.p.l, ApS lo hi y.s
structure ApU (lo hi : Nat) (x : UpV) : Prop where
  g : ApS lo hi x.g
  r : ApS lo hi x.r
  a : ApA lo hi x.a
theorem LowS.ap {α : Type} {lo hi : Nat} {s : SlV α} (h : LowS lo s) : ApS lo hi s := fun hn a e => .inl (h hn a e)
theorem LowA.ap {lo hi : Nat} {x : AtV} (h : LowA lo x) : ApA lo hi x := ⟨h.p.ap, h.c.ap, fun y hy => (h.s y hy).ap⟩
theorem NewS.ap {α : Type} {lo hi B : Nat} {s : SlV α} (h : NewS B s) (hB : hi ≤ B) : ApS lo hi s := fun hn a e => .inr (Nat.le_trans hB (h hn a e))
theorem NewA.ap {lo hi B : Nat} {x : AtV} (h : NewA B x) (hB : hi ≤ B) : ApA lo hi x := ⟨h.p.ap hB, h.c.ap hB, fun y hy => (h.s y hy).ap hB⟩
theorem ApS.none {α : Type} {lo hi n c : Nat} {l : List α} : ApS lo hi ⟨Option.none, n, c, l⟩ := fun _ _ h => by cases h
theorem ApS.far {α : Type} {lo hi : Nat} {s : SlV α} {g : Option Nat} (h : ApS lo hi s) (hg : ∀ k, g = some k → lo ≤ k ∧ k < hi) : FarS g s := fun hn a e e2 => by
  have h1 := hg _ e2.symm
  rcases h hn a e with h2 | h2 <;> omega
theorem ApA.far {lo hi : Nat} {x : AtV} {g : Option Nat} (h : ApA lo hi x) (hg : ∀ k, g = some k → lo ≤ k ∧ k < hi) : FarA g x := ⟨h.p.far hg, h.c.far hg, fun y hy => (h.s y hy).far hg⟩
theorem ApU.firm {lo hi : Nat} {x : UpV} {g : Option Nat} {w : World} (h : ApU lo hi x) (hg : ∀ k, g = some k → lo ≤ k ∧ k < hi) (hu : UpOk w x) : Firm g w fun W => UpOk W x := hu.firm (h.g.far hg) (h.r.far hg) (hu.a.firm (h.a.far hg))
end Go.Proofs.YtadoflcomienoaaGreat
/- Plain law: rounds of updates, one of each key, how many updates there are. -/
namespace Go.Proofs.YtadoflcomienoaaGreat
open Go.RowKit

theorem chunksI_len {α : Type} {f : List α → Nat} (hf : ∀ l, l ≠ [] → 1 ≤ f l) {n : Nat} {l : List α} (h : l.length ≤ n) : chunksI f n l = chunksI f l.length l := chunksI_more hf _ _ _ h (Nat.le_refl _)
theorem chunksI_step {α : Type} {f : List α → Nat} (hf : ∀ l, l ≠ [] → 1 ≤ f l) {l : List α} (h : l ≠ []) : chunksI f l.length l = l.take (f l) :: chunksI f (l.drop (f l)).length (l.drop (f l)) := by
  have h1 := hf l h
  obtain ⟨n, hn⟩ : ∃ n, l.length = n + 1 := ⟨l.length - 1, by have := List.length_pos_iff.2 h; omega⟩
  rw [hn, chunksI_cons f n h, chunksI_len hf (by rw [List.length_drop]; omega)]
theorem chunksI_count {α : Type} {f : List α → Nat} {F : Nat} (hF : 1 ≤ F) (hf : ∀ l, f l = min F l.length) : ∀ (n : Nat) (l : List α), l.length ≤ n → (chunksI f n l).length = (l.length + F - 1) / F
  | 0, l, h => by
    obtain rfl := List.length_eq_zero_iff.1 (Nat.le_zero.1 h)
    simp only [chunksI_nil, List.length_nil]
    rw [Nat.div_eq_of_lt (by omega)]
  | n + 1, l, h => by
    by_cases hl : l = []
    · subst hl
      simp only [chunksI_nil, List.length_nil]
      rw [Nat.div_eq_of_lt (by omega)]
    · have hp := List.length_pos_iff.2 hl
      rw [chunksI_cons f n hl, List.length_cons, chunksI_count hF hf n _ (by rw [List.length_drop, hf]; omega), List.length_drop, hf]
      by_cases h1 : F ≤ l.length
      · rw [Nat.min_eq_left h1, show l.length + F - 1 = (l.length - F + F - 1) + F by omega, Nat.add_div_right _ (by omega)]
      · rw [Nat.min_eq_right (by omega), Nat.sub_self, Nat.div_eq_of_lt (by omega)]
        have : (l.length + F - 1) / F = 1 := by
          rw [show l.length + F - 1 = (l.length - 1) + F by omega, Nat.add_div_right _ (by omega), Nat.div_eq_of_lt (by omega)]
        omega
theorem szs_const {sz : Nl → Nat} {s : Nat} : ∀ {L : List Nl}, (∀ x ∈ L, sz x = s) → szs sz L = L.length * s
  | [], _ => by simp [szs]
  | x :: r, h => by
    have ih := szs_const (L := r) fun y hy => h y (List.mem_cons_of_mem _ hy)
    unfold szs at *
    rw [List.map_cons, List.sum_cons, ih, h x List.mem_cons_self, List.length_cons, Nat.succ_mul]
    omega
theorem fitI_const {sz : Nl → Nat} {s : Nat} (hs : 0 < s) {L : List Nl} (h : ∀ x ∈ L, sz x = s) (room cap : Nat) : fitI sz room cap L = min (min (room / s) cap) L.length := by
  have ht : ∀ n, n ≤ L.length → szs sz (L.take n) = n * s := fun n hn => by
    rw [szs_const (s := s) (fun x hx => h x (List.mem_of_mem_take hx)), List.length_take, Nat.min_eq_left hn]
  refine fitI_is (by omega) (by omega) ?_ ?_
  · rw [ht _ (by omega)]
    exact Nat.le_trans (Nat.mul_le_mul_right s (show min (min (room / s) cap) L.length ≤ room / s by omega)) (Nat.div_mul_le_self room s)
  · intro h1 h2
    rw [ht _ (by omega)]
    have h3 : room / s < min (min (room / s) cap) L.length + 1 := by omega
    exact (Nat.div_lt_iff_lt_mul hs).1 h3

/-- the rounds of what comes -/
theorem comeI_more {sz : Nl → Nat} {asz : At → Nat} : ∀ (n m : Nat) (L : List Sy), L.length ≤ n → L.length ≤ m → comeI sz asz n L = comeI sz asz m L
  | 0, m, L, h, _ => by
    obtain rfl := List.length_eq_zero_iff.1 (Nat.le_zero.1 h)
    rw [comeI_nil, comeI_nil]
  | n + 1, 0, L, _, h => by
    obtain rfl := List.length_eq_zero_iff.1 (Nat.le_zero.1 h)
    rw [comeI_nil, comeI_nil]
  | n + 1, m + 1, [], _, _ => rfl
  | n + 1, m + 1, s :: r, h1, h2 => by
    have hlt : ((s :: r).filter fun t => !decide (t.a = s.a)).length ≤ r.length := by
      rw [List.filter_cons, if_neg (by simp)]
      exact List.length_filter_le _ r
    simp only [List.length_cons] at h1 h2
    unfold comeI
    rw [comeI_more n m _ (by omega) (by omega)]
def sameI (a : At) (L : List Sy) : List Nl := (L.filter fun t => decide (t.a = a)).map Sy.nl
def restI (a : At) (L : List Sy) : List Sy := L.filter fun t => !decide (t.a = a)
def fitA (sz : Nl → Nat) (asz : At → Nat) (a : At) : List Nl → Nat := fitI sz (4073 - asz a) 1024
def mkR (a : At) (l : List Nl) : Up := ⟨[], l, a, false⟩
def mkG (l : List Nl) : Up := ⟨l, [], atZ, false⟩
theorem comeI_step {sz : Nl → Nat} {asz : At → Nat} {L : List Sy} {s : Sy} {r : List Sy} (h : L = s :: r) : comeI sz asz L.length L = (chunksI (fitA sz asz s.a) (sameI s.a L).length (sameI s.a L)).map (mkR s.a) ++ comeI sz asz (restI s.a L).length (restI s.a L) := by
  subst h
  have hlt : (restI s.a (s :: r)).length ≤ r.length := by
    unfold restI
    rw [List.filter_cons, if_neg (by simp)]
    exact List.length_filter_le _ r
  rw [comeI_more (restI s.a (s :: r)).length r.length _ (Nat.le_refl _) hlt]
  unfold sameI
  rw [List.length_map]
  rfl
theorem restI_lt {L : List Sy} {s : Sy} {r : List Sy} (h : L = s :: r) : (restI s.a L).length < L.length := by
  subst h
  have hlt : (restI s.a (s :: r)).length ≤ r.length := by
    unfold restI
    rw [List.filter_cons, if_neg (by simp)]
    exact List.length_filter_le _ r
  simp only [List.length_cons]
  omega
theorem goneI_is (sz : Nl → Nat) (L : List Nl) : goneI sz L = (chunksI (fitI sz 4073 1024) L.length L).map mkG := rfl

section
variable {β : Type} (key : β → PK)
/-- the first one of each key -/
def firstsK (L : List β) : List β := L.foldl (fun M x => if (Kl.look key M (key x)).isSome then M else M ++ [x]) []
variable {key}
theorem firstsK_succ {L : List β} {i : Nat} (h : i < L.length) : firstsK key (L.take (i + 1)) = if (Kl.look key (firstsK key (L.take i)) (key L[i])).isSome then firstsK key (L.take i) else firstsK key (L.take i) ++ [L[i]] := by
  unfold firstsK
  rw [List.take_succ_eq_append_getElem h, List.foldl_append]
  rfl
theorem look_cons (x : β) (L : List β) (k : PK) : Kl.look key (x :: L) k = if key x = k then some x else Kl.look key L k := by
  unfold Kl.look
  rw [List.find?_cons]
  by_cases h : key x = k
  · simp [h]
  · simp [h]
theorem firstsK_spec (L : List β) : ((firstsK key L).map key).Nodup ∧ (∀ k, Kl.look key (firstsK key L) k = Kl.look key L k) ∧ (∀ x ∈ firstsK key L, x ∈ L) ∧ (firstsK key L).length ≤ L.length := by
  have : ∀ (L M : List β), (M.map key).Nodup → ((L.foldl (fun M x => if (Kl.look key M (key x)).isSome then M else M ++ [x]) M).map key).Nodup ∧ (∀ k, Kl.look key (L.foldl (fun M x => if (Kl.look key M (key x)).isSome then M else M ++ [x]) M) k = Kl.look key (M ++ L) k) ∧ (∀ x ∈ L.foldl (fun M x => if (Kl.look key M (key x)).isSome then M else M ++ [x]) M, x ∈ M ++ L) ∧ (L.foldl (fun M x => if (Kl.look key M (key x)).isSome then M else M ++ [x]) M).length ≤ (M ++ L).length := by
    intro L
    induction L with
    | nil => intro M h; simpa using h
    | cons x r ih =>
      intro M hn
      rw [List.foldl_cons]
      cases hl : Kl.look key M (key x) with
      | some y =>
        rw [if_pos (by rw [Option.isSome_some])]
        obtain ⟨a, b, c, d⟩ := ih M hn
        refine ⟨a, fun k => ?_, fun z hz => ?_, ?_⟩
        · rw [b, Kl.look_append, Kl.look_append, look_cons]
          by_cases hk : key x = k
          · subst hk; rw [hl]; rfl
          · rw [if_neg hk]
        · have := c z hz
          simp only [List.mem_append, List.mem_cons] at this ⊢
          rcases this with h | h
          · exact .inl h
          · exact .inr (.inr h)
        · simp only [List.length_append, List.length_cons] at d ⊢
          omega
      | none =>
        rw [if_neg (by simp)]
        have hn' : ((M ++ [x]).map key).Nodup := by
          rw [List.map_append, List.nodup_append]
          refine ⟨hn, by simp, ?_⟩
          intro a ha b hb e
          obtain ⟨y, hy, rfl⟩ := List.mem_map.1 ha
          simp at hb
          exact Kl.look_none hl hy (e.trans hb)
        obtain ⟨a, b, c, d⟩ := ih (M ++ [x]) hn'
        rw [List.append_assoc, List.singleton_append] at b c d
        exact ⟨a, b, c, d⟩
  have h := this L [] List.nodup_nil
  rw [List.nil_append] at h
  exact h
theorem firstsK_self {L : List β} (h : (L.map key).Nodup) : firstsK key L = L := by
  have : ∀ i, i ≤ L.length → firstsK key (L.take i) = L.take i := by
    intro i
    induction i with
    | zero => intro _; rfl
    | succ i ih =>
      intro hi
      rw [firstsK_succ (by omega), ih (by omega)]
      have hnone : Kl.look key (L.take i) (key L[i]) = none := by
        refine Kl.look_no fun x hx e => ?_
        obtain ⟨j, hj, rfl⟩ := List.getElem_of_mem hx
        rw [List.getElem_take] at e
        rw [List.length_take] at hj
        have h2 := List.nodup_iff_pairwise_ne.1 h
        rw [List.pairwise_map] at h2
        exact List.pairwise_iff_getElem.1 h2 j i (by omega) (by omega) (by omega) e
      rw [hnone, if_neg (by simp), List.take_succ_eq_append_getElem (by omega)]
  have h2 := this L.length (Nat.le_refl _)
  rwa [List.take_length] at h2
theorem firstsK_len {L : List β} : (firstsK key L).length < L.length ↔ ¬ (L.map key).Nodup := by
  constructor
  · intro h hn
    rw [firstsK_self hn] at h
    exact Nat.lt_irrefl _ h
  · intro hn
    obtain ⟨a, b, c, d⟩ := firstsK_spec (key := key) L
    rcases Nat.lt_or_ge (firstsK key L).length L.length with h | h
    · exact h
    · refine absurd ?_ hn
      have : ∀ i, i ≤ L.length → (firstsK key (L.take i)).length ≤ i := fun i hi => by
        have := (firstsK_spec (key := key) (L.take i)).2.2.2
        rw [List.length_take] at this
        omega
      -- as many as there are: none was left out
      have h3 : ∀ j i, j + i = L.length → firstsK key (L.take i) = L.take i := by
        intro j
        have hdrop : ∀ j i, j + i = L.length → (firstsK key (L.take i)).length = i := by
          intro j
          induction j with
          | zero =>
            intro i hi
            obtain rfl : i = L.length := by omega
            rw [List.take_length]
            omega
          | succ j ih =>
            intro i hi
            have h4 := ih (i + 1) (by omega)
            rw [firstsK_succ (by omega)] at h4
            have h5 := this i (by omega)
            split at h4
            · omega
            · simp only [List.length_append, List.length_singleton] at h4; omega
        have hup : ∀ i, i ≤ L.length → firstsK key (L.take i) = L.take i := by
          intro i
          induction i with
          | zero => intro _; rfl
          | succ i ih =>
            intro hi
            have h4 := hdrop (L.length - (i + 1)) (i + 1) (by omega)
            have h5 := ih (by omega)
            rw [firstsK_succ (by omega)] at h4 ⊢
            split at h4
            · rw [h5, List.length_take] at h4; omega
            · rename_i hs
              rw [if_neg hs, h5, List.take_succ_eq_append_getElem (by omega)]
        exact fun i hi => hup i (by omega)
      have h6 := h3 0 L.length (by omega)
      rw [List.take_length] at h6
      rw [← h6]
      exact a
theorem firstsK_map {γ : Type} (f : β → γ) {key' : γ → PK} (hf : ∀ x, key' (f x) = key x) (L : List β) : (firstsK key L).map f = firstsK key' (L.map f) := by
  have hlook : ∀ (M : List β) (k : PK), (Kl.look key' (M.map f) k) = (Kl.look key M k).map f := by
    intro M k
    induction M with
    | nil => rfl
    | cons x r ih =>
      rw [List.map_cons, look_cons, look_cons, hf, ih]
      split <;> rfl
  have : ∀ (L M : List β), (L.foldl (fun M x => if (Kl.look key M (key x)).isSome then M else M ++ [x]) M).map f = (L.map f).foldl (fun M x => if (Kl.look key' M (key' x)).isSome then M else M ++ [x]) (M.map f) := by
    intro L
    induction L with
    | nil => intro M; rfl
    | cons x r ih =>
      intro M
      rw [List.foldl_cons, ih, List.map_cons, List.foldl_cons, hlook, hf, Option.isSome_map]
      split
      · rfl
      · rw [List.map_append]; rfl
  exact this L []
end
theorem look_map {β γ : Type} {key : β → PK} (f : β → γ) {key' : γ → PK} (hf : ∀ x, key' (f x) = key x) (M : List β) (k : PK) : (Kl.look key' (M.map f) k) = (Kl.look key M k).map f := by
  induction M with
  | nil => rfl
  | cons x r ih =>
    rw [List.map_cons, look_cons, look_cons, hf, ih]
    split <;> rfl
/-- may it be said -/
def okY (four : Bool) (L : List Sy) : Bool := (L.all fun s => okP s.k.1 s.k.2 && okA four s.a) && decide ((L.map Sy.k).Nodup)
theorem lookA_eq {L M : List Sy} (h : lookA L = lookA M) : ∀ k, Kl.look Sy.k L k = Kl.look Sy.k M k := by
  intro k
  have h1 := congrFun h k
  unfold lookA at h1
  cases h2 : Kl.look Sy.k L k with
  | none =>
    rw [h2] at h1
    cases h3 : Kl.look Sy.k M k with
    | none => rfl
    | some y => rw [h3] at h1; cases h1
  | some x =>
    rw [h2] at h1
    cases h3 : Kl.look Sy.k M k with
    | none => rw [h3] at h1; cases h1
    | some y =>
      rw [h3] at h1
      obtain ⟨-, e1⟩ := Kl.look_mem h2
      obtain ⟨-, e2⟩ := Kl.look_mem h3
      obtain ⟨k1, a1⟩ := x
      obtain ⟨k2, a2⟩ := y
      simp at h1 e1 e2
      rw [h1, e1, e2]
/-- two that say the same, in order -/
theorem sorted_eq {L M : List Sy} (hL : Kl.Ordered (ltB Sy.k) L) (hM : (M.map Sy.k).Nodup) (h : lookA L = lookA M) : L = sortK Sy.k M :=
  ordered_look hL (sortK_ord hM) fun k => by rw [lookA_eq h, look_sortK hM]
end Go.Proofs.YtadoflcomienoaaGreat
