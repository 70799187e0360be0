/- The prefixes of bytes, as the reference finds them. -/
import Derived.Test.YtpjfgfdpngibgaaQah
import Derived.Test.YtpjfgfdpngibgaaQag
import Derived.Laws.IdiomStrings
namespace Go.Proofs.Ytpjfgfdpngibgaa
open Go.RowKit

def RetLR (w : World) (base : Nat) (o : Option (List Nl)) (e : Value) : Prop := match o with
  | none => e = .tuple #[.slice none 0 0, .bool false]
  | some L => ∃ v, e = .tuple #[v, .bool true] ∧ RNl.Own w base v L ∧ (∀ x ∈ L, x.a < 4294967296) ∧ L.length ≤ 1024
set_option maxRecDepth 100000 in
set_option maxHeartbeats 8000000 in
theorem rget_plain {w : World} {oa : Option Addr} {n c : Nat} {l : List Nat} (h : BT w oa n c l) (hby : Bytes l) (hn : n ≤ 100000) : Calls Try.prog 17 #[.slice oa n c, .bool false] w fun e w' => (∃ v, e = .returned v ∧ RetLR w' w.heap.size (getA false l 0) v) ∧ Below w.heap.size w w' := by
  have F := Lib.hid (And.intro h hby)
  have HA := Lib.hid (show getA false l 0 = (getA false l ([] : List Nl).length).map ([] ++ ·) from by simp)
  obtain ⟨res, hres⟩ : ∃ res, getA false l 0 = res := ⟨_, rfl⟩
  rw [hres] at HA ⊢
  clear h hby hres
  go_enter Try.func17, Try.ntmps17
  go_wp2_with fail
  go_loopw [0, 6] (fun bv ov wr => ∃ (oa : Option Addr) (n c : Nat) (b : List Nat) (out : List Nl), bv = .slice oa n c ∧ BT w oa n c b ∧ Bytes b ∧ n ≤ 100000 ∧ RNl.Own wr w.heap.size ov out ∧ out.length ≤ 1024 ∧ (∀ x ∈ out, x.a < 4294967296) ∧ res = (getA false b out.length).map (out ++ ·) ∧ Below w.heap.size w wr) (fun bv _ _ => lenV bv)
  case atStart => exact ⟨oa, n, c, l, [], rfl, F.out.1, F.out.2, hn, Rep.Own.nil _ _, by simp, by simp, HA.out, Below.refl _ _⟩
  case round =>
    obtain ⟨oa, n, c, b, out, rfl, hbt, hby, hn, hown, hol, had, hra, hb⟩ := hrel
    obtain ⟨w2, rfl⟩ : ∃ w2 : World, w2 = wr := ⟨_, rfl⟩
    have hbl := hbt.sl.len
    by_cases h0 : n = 0
    · have h0t : (0 < n) = False := by simp; omega
      have hbn : b = [] := List.length_eq_zero_iff.1 (by omega)
      rw [hbn, getA_nil] at hra
      obtain ⟨oo, cc, rfl, -, -⟩ := hown.sl0
      have G := Lib.hid (And.intro hown (And.intro had (And.intro hb (show res = some out by rw [hra]; simp))))
      clear hbt hby hown had hra hb hbl hbn h0 F HA
      go_wp2_with fail
      go_ret2
      refine ⟨⟨_, rfl, ?_⟩, G.out.2.2.1⟩
      rw [G.out.2.2.2]
      exact ⟨_, rfl, G.out.1, G.out.2.1, hol⟩
    · have h0t : (0 < n) = True := by simp; omega
      have hbn : b ≠ [] := by rintro rfl; exact h0 hbl
      have HN := Lib.hid (And.intro hbn (And.intro hbl h0))
      have HB := Lib.hid (And.intro hbt hby)
      obtain ⟨oo, cc, rfl, -, -⟩ := hown.sl0
      have G := Lib.hid (And.intro hown (And.intro had (And.intro hb hra)))
      have G := Lib.hid (And.intro G.out.1 (And.intro G.out.2.1 (And.intro G.out.2.2.1 (And.intro G.out.2.2.2 trivial))))
      clear hbt hby hown had hra hb hbl hbn F HA
      obtain ⟨mm, hm⟩ : ∃ m, out.length = m := ⟨_, rfl⟩
      rw [hm] at G hol ⊢
      have HM := Lib.hid hm
      clear hm h0
      go_wp2_with (with_reducible refine halt_store 41 rfl ?_)
      refine Halted.go ?_
      have hal := (Below.refl w2.heap.size w2).alloc (Nat.le_refl _) (.cells #[.int .i64 0, .int .u32 0, .int .i64 0] 41)
      refine store_whole rfl 41 _ _ rfl w2.heap.size #[.int .i64 0, .int .u32 0, .int .i64 0] rfl rfl (hnew _ _) rfl (by kernel_rfl) (by simp [Value.oneCell']) ?_
      intro wz hwz hsz
      have hzb := Below.trans hal (hsz.below (Nat.le_refl _))
      have HOB := Lib.hid (And.intro (fun b (h : (Value.slice oo mm cc).ownBlock = some b) => (World.ownsRow.lt G.out.1 b h).2) G.out.2.2.1.size)
      have F := Lib.hid (And.intro (G.out.1.below hzb) (And.intro (bcall G.out.2.2.1 (Nat.le_refl _) hzb) (show BxV w2.heap.size (.int .i64 0) (.int .u32 0) (.int .i64 0) wz from hwz)))
      clear hwz hsz hal hzb
      generalize w2.heap.size = q7 at *
      have HT := HB
      have HGF := Lib.hid (show getF false b = match getP b with | none => none | some (a, m, k) => some (⟨0, a, m⟩, b.drop k) from rfl)
      go_wp2_with fail
      refine (raget_any (HT.out.1.keep F.out.2.1).sl HT.out.1.nil HT.out.1.le HT.out.2 hn).mono ?_
      rintro e U2 ⟨rfl, hb⟩
      have K := Lib.hid (And.intro (F.out.1.below hb) (And.intro (bcall F.out.2.1 (Nat.le_refl _) hb) (F.out.2.2.keep hb)))
      clear hb F
      obtain ⟨pr, hpr⟩ : ∃ pr, getP b = pr := ⟨_, rfl⟩
      rw [hpr] at HGF ⊢
      have HPR := Lib.hid hpr
      clear hpr
      cases pr with
      | none =>
        unfold retR
        dsimp only
        go_wp2_with (with_reducible refine halt_store 39 rfl ?_)
        refine Halted.go ?_
        have hal := (Below.refl U2.heap.size U2).alloc (Nat.le_refl _) (.cells #[.int .u32 0, .int .i64 0] 39)
        refine store_whole rfl 39 _ _ rfl U2.heap.size #[.int .u32 0, .int .i64 0] rfl rfl (hnew _ _) rfl (by kernel_rfl) (by simp [Value.oneCell']) ?_
        intro wz hwz hsz
        have hzb := Below.trans hal (hsz.below (Nat.le_refl _))
        have K2 := Lib.hid (And.intro (K.out.1.below hzb) (And.intro (bcall K.out.2.1 (Nat.le_refl _) hzb) (And.intro (K.out.2.2.keep hzb) (show BxP U2.heap.size ((0, 0) : PK) wz from hwz))))
        clear hwz hsz hal hzb K
        generalize U2.heap.size = q9 at *
        have HR := Lib.hid (show res = none by rw [G.out.2.2.2.1, getA_none HN.out.1 (by rw [HGF.out])]; rfl)
        go_wp2_with fail
        go_ret2
        refine ⟨⟨_, rfl, ?_⟩, K2.out.2.1⟩
        rw [HR.out]
        rfl
      | some p =>
        obtain ⟨a, m, k⟩ := p
        unfold retR
        dsimp only
        have hgl := getP_len HPR.out
        have HXA := Lib.hid (getP_lt HT.out.2 HPR.out)
        have HR := Lib.hid (show res = (if 1024 ≤ mm then none else (getA false (b.drop k) (mm + 1)).map ((⟨0, a, m⟩ : Nl) :: ·)).map (out ++ ·) by rw [G.out.2.2.2.1, getA_some HN.out.1 HGF.out])
        have hkn : 1 ≤ k ∧ k ≤ n := ⟨hgl.1, by rw [HT.out.1.sl.len]; exact hgl.2.1⟩
        clear hgl
        go_wp2_with (with_reducible refine halt_store 39 rfl ?_)
        refine Halted.go ?_
        have hal := (Below.refl U2.heap.size U2).alloc (Nat.le_refl _) (.cells #[.int .u32 0, .int .i64 0] 39)
        refine store_whole rfl 39 _ _ rfl U2.heap.size #[.int .u32 (a : Int), .int .i64 (m : Int)] rfl rfl (hnew _ _) rfl (by kernel_rfl) (by simp [Value.oneCell']) ?_
        intro wz hwz hsz
        have hzb := Below.trans hal (hsz.below (Nat.le_refl _))
        have K2 := Lib.hid (And.intro (K.out.1.below hzb) (And.intro (bcall K.out.2.1 (Nat.le_refl _) hzb) (And.intro (K.out.2.2.keep hzb) (show BxP U2.heap.size ((a, (m : Int)) : PK) wz from hwz))))
        clear hwz hsz hal hzb K
        generalize U2.heap.size = q9 at *
        by_cases hmx : 1024 ≤ mm
        · have hmt : ((1024 : Int) ≤ (mm : Int)) = True := by simp; omega
          have HR2 := Lib.hid (show res = none by rw [HR.out, if_pos hmx]; rfl)
          clear hmx
          go_wp2_with fail
          go_ret2
          refine ⟨⟨_, rfl, ?_⟩, K2.out.2.1⟩
          rw [HR2.out]
          rfl
        have hmt : ((1024 : Int) ≤ (mm : Int)) = False := by simp; omega
        have HR2 := Lib.hid (show res = (getA false (b.drop k) (mm + 1)).map ((out ++ [(⟨0, a, m⟩ : Nl)]) ++ ·) by rw [HR.out, if_neg hmx, map_snoc])
        have hm2 : mm + 1 ≤ 1024 := by omega
        obtain ⟨z0, z1⟩ := K2.out.2.2.2.cells
        dsimp only at z0 z1
        clear hmx HR
        go_wp2_with (with_reducible refine halt_store 39 rfl ?_)
        refine Halted.go ?_
        refine store_mid rfl 39 _ _ rfl q7 1 (.agg #[.int .u32 (a : Int), .int .i64 (m : Int)]) rfl rfl K2.out.2.2.1 (by simp [Value.cells]) (by kernel_rfl) (by simp [Value.cells, Value.oneCell']) ?_
        intro wm cur' hm hcs hcq hsm
        have hcur : cur' = #[.int .i64 0, .int .u32 (a : Int), .int .i64 (m : Int)] := cur3 hcs hcq
        subst hcur
        have K3 := Lib.hid (And.intro (Rep.Own.keep K2.out.1 fun b hb => hsm.other (Nat.ne_of_lt (HOB.out.1 b hb))) (And.intro (K2.out.2.1.trans (hsm.below HOB.out.2)) (show BxV q7 (.int .i64 0) (.int .u32 (a : Int)) (.int .i64 (m : Int)) wm from hm)))
        clear hm hcs hcq hsm z0 z1 K2
        obtain ⟨z0, z1, z2⟩ := K3.out.2.2.cells
        go_wp2_with (at_builtin; refine halt ?_)
        refine Halted.go ?_
        have hal := (Below.refl wm.heap.size wm).alloc (Nat.le_refl _) (.cells #[.int .i64 0, .int .u32 (a : Int), .int .i64 (m : Int)] 41)
        have hone : RNl.Sl (wm.alloc (.cells #[.int .i64 0, .int .u32 (a : Int), .int .i64 (m : Int)] 41)) (some ⟨wm.heap.size, 0, none⟩) 1 1 [(⟨0, a, m⟩ : Nl)] := Rep.sl_one (R := RNl) (y := ⟨0, a, m⟩) (hnew _ _)
        have K4 := Lib.hid (And.intro (K3.out.1.below hal) (And.intro (bcall K3.out.2.1 (Nat.le_refl _) hal) hone))
        clear hal hone z0 z1 z2 K3
        have hol' := HM.out
        refine Rep.append_list TNl rfl _ _ rfl rfl K4.out.1 (M := [(⟨0, a, m⟩ : Nl)]) rfl K4.out.2.2 (fun h => by cases h) (by rw [hol']; unfold maxLen; omega) (by rw [hol']; omega) K4.out.2.1.size ?_
        intro v6 w6 hown6 hb6 _
        obtain ⟨oa7, hr1, hr2, hbt7, -⟩ := BT.cut HT.out.1 (i := k) hkn.2
        have K5 := Lib.hid (And.intro hown6 (And.intro (K4.out.2.1.trans hb6) hbt7))
        clear hown6 hb6 hbt7 K4 hol'
        go_wp2_with fail
        refine ⟨⟨_, _, _, b.drop k, out ++ [⟨0, a, m⟩], rfl, K5.out.2.2, fun x hx => HT.out.2 x (List.mem_of_mem_drop hx), by omega, K5.out.1, by rw [List.length_append, HM.out]; exact hm2, ?_, by rw [List.length_append, HM.out]; exact HR2.out, K5.out.2.1⟩, by show n - k < n; omega⟩
        intro y hy
        rcases List.mem_append.1 hy with hy | hy
        · exact G.out.2.1 y hy
        · rw [List.mem_singleton.1 hy]; exact HXA.out
set_option maxRecDepth 100000 in
set_option maxHeartbeats 8000000 in
theorem rget_paths {w : World} {oa : Option Addr} {n c : Nat} {l : List Nat} (h : BT w oa n c l) (hby : Bytes l) (hn : n ≤ 100000) : Calls Try.prog 17 #[.slice oa n c, .bool true] w fun e w' => (∃ v, e = .returned v ∧ RetLR w' w.heap.size (getA true l 0) v) ∧ Below w.heap.size w w' := by
  have F := Lib.hid (And.intro h hby)
  have HA := Lib.hid (show getA true l 0 = (getA true l ([] : List Nl).length).map ([] ++ ·) from by simp)
  obtain ⟨res, hres⟩ : ∃ res, getA true l 0 = res := ⟨_, rfl⟩
  rw [hres] at HA ⊢
  clear h hby hres
  go_enter Try.func17, Try.ntmps17
  go_wp2_with fail
  go_loopw [0, 6] (fun bv ov wr => ∃ (oa : Option Addr) (n c : Nat) (b : List Nat) (out : List Nl), bv = .slice oa n c ∧ BT w oa n c b ∧ Bytes b ∧ n ≤ 100000 ∧ RNl.Own wr w.heap.size ov out ∧ out.length ≤ 1024 ∧ (∀ x ∈ out, x.a < 4294967296) ∧ res = (getA true b out.length).map (out ++ ·) ∧ Below w.heap.size w wr) (fun bv _ _ => lenV bv)
  case atStart => exact ⟨oa, n, c, l, [], rfl, F.out.1, F.out.2, hn, Rep.Own.nil _ _, by simp, by simp, HA.out, Below.refl _ _⟩
  case round =>
    obtain ⟨oa, n, c, b, out, rfl, hbt, hby, hn, hown, hol, had, hra, hb⟩ := hrel
    obtain ⟨w2, rfl⟩ : ∃ w2 : World, w2 = wr := ⟨_, rfl⟩
    have hbl := hbt.sl.len
    by_cases h0 : n = 0
    · have h0t : (0 < n) = False := by simp; omega
      have hbn : b = [] := List.length_eq_zero_iff.1 (by omega)
      rw [hbn, getA_nil] at hra
      obtain ⟨oo, cc, rfl, -, -⟩ := hown.sl0
      have G := Lib.hid (And.intro hown (And.intro had (And.intro hb (show res = some out by rw [hra]; simp))))
      clear hbt hby hown had hra hb hbl hbn h0 F HA
      go_wp2_with fail
      go_ret2
      refine ⟨⟨_, rfl, ?_⟩, G.out.2.2.1⟩
      rw [G.out.2.2.2]
      exact ⟨_, rfl, G.out.1, G.out.2.1, hol⟩
    · have h0t : (0 < n) = True := by simp; omega
      have hbn : b ≠ [] := by rintro rfl; exact h0 hbl
      have HN := Lib.hid (And.intro hbn (And.intro hbl h0))
      have HB := Lib.hid (And.intro hbt hby)
      obtain ⟨oo, cc, rfl, -, -⟩ := hown.sl0
      have G := Lib.hid (And.intro hown (And.intro had (And.intro hb hra)))
      have G := Lib.hid (And.intro G.out.1 (And.intro G.out.2.1 (And.intro G.out.2.2.1 (And.intro G.out.2.2.2 trivial))))
      clear hbt hby hown had hra hb hbl hbn F HA
      obtain ⟨mm, hm⟩ : ∃ m, out.length = m := ⟨_, rfl⟩
      rw [hm] at G hol ⊢
      have HM := Lib.hid hm
      clear hm h0
      go_wp2_with (with_reducible refine halt_store 41 rfl ?_)
      refine Halted.go ?_
      have hal := (Below.refl w2.heap.size w2).alloc (Nat.le_refl _) (.cells #[.int .i64 0, .int .u32 0, .int .i64 0] 41)
      refine store_whole rfl 41 _ _ rfl w2.heap.size #[.int .i64 0, .int .u32 0, .int .i64 0] rfl rfl (hnew _ _) rfl (by kernel_rfl) (by simp [Value.oneCell']) ?_
      intro wz hwz hsz
      have hzb := Below.trans hal (hsz.below (Nat.le_refl _))
      have HOB := Lib.hid (And.intro (fun b (h : (Value.slice oo mm cc).ownBlock = some b) => (World.ownsRow.lt G.out.1 b h).2) G.out.2.2.1.size)
      have F := Lib.hid (And.intro (G.out.1.below hzb) (And.intro (bcall G.out.2.2.1 (Nat.le_refl _) hzb) (show BxV w2.heap.size (.int .i64 0) (.int .u32 0) (.int .i64 0) wz from hwz)))
      clear hwz hsz hal hzb
      generalize w2.heap.size = q7 at *
      by_cases hlt : b.length < 4
      · have hn4 : ((n : Int) < 4) = True := by have := HN.out.2.1; simp; omega
        have HR := Lib.hid (show res = none by rw [G.out.2.2.2.1, getA_none HN.out.1 (if_pos ⟨rfl, hlt⟩)]; rfl)
        clear hlt
        go_wp2_with fail
        go_ret2
        refine ⟨⟨_, rfl, ?_⟩, F.out.2.1⟩
        rw [HR.out]
        rfl
      have hn4 : ((n : Int) < 4) = False := by have := HN.out.2.1; simp; omega
      have hgf : getF true b = match getP (b.drop 4) with | none => none | some (a, m, k) => some (⟨(getN (b.take 4) : Nat), a, m⟩, (b.drop 4).drop k) := if_neg (fun h => hlt h.2)
      have h4n : 4 ≤ n := by have := HN.out.2.1; omega
      obtain ⟨s4, hr1, hr2, hs4, -, -⟩ := Rep.cut_to T27 HB.out.1.sl HB.out.1.le HB.out.1.nil (i := 4) h4n
      obtain ⟨oa5, hq1, hq2, hbt5, -⟩ := BT.cut HB.out.1 (i := 4) h4n
      rw [show ((4 : Nat) : Int) = 4 from rfl] at hr1 hr2 hq1 hq2
      have HG := Lib.hid (rget_any _ _ _ _ _ (hs4.keep F.out.2.1) (fun x hx => HB.out.2 x (List.mem_of_mem_take hx)) (Nat.le_refl _))
      obtain ⟨X, hX⟩ : ∃ X, getN (b.take 4) = X := ⟨_, rfl⟩
      rw [hX] at HG hgf
      obtain ⟨L, hL⟩ : ∃ L, b.drop 4 = L := ⟨_, rfl⟩
      have hbyL : Bytes (b.drop 4) := fun x hx => HB.out.2 x (List.mem_of_mem_drop hx)
      rw [hL] at hbt5 hbyL hgf
      have HT := Lib.hid (And.intro hbt5 hbyL)
      have HGF := Lib.hid hgf
      obtain ⟨z0, -, -⟩ := F.out.2.2.cells
      have f0 : wz.frozen? ⟨q7, 0, none⟩ = false := free_of F.out.2.2
      have hbs : But wz (wz.setCell ⟨q7, 0, none⟩ (.int .i64 (X : Int))) [q7] := (But.refl wz [q7]).setCell (.inr (by simp)) _
      have hx7 : BxV q7 (.int .i64 X) (.int .u32 0) (.int .i64 0) (wz.setCell ⟨q7, 0, none⟩ (.int .i64 (X : Int))) := setCell_blk F.out.2.2 0 (.int .i64 (X : Int))
      have F2 := Lib.hid (And.intro (Rep.Own.keep F.out.1 fun b hb => hbs.block b (Nat.lt_trans (HOB.out.1 b hb) (lt_of_blk F.out.2.2)) (by have := HOB.out.1 b hb; simp; omega)) (And.intro (Below.step F.out.2.1 F.out.2.1.size hbs (by intro b hb; simp at hb; have := HOB.out.2; omega)) hx7))
      have hn5 : n - 4 ≤ 100000 := by omega
      clear hlt hs4 hbt5 hX hL hbyL hgf hbs hx7 F
      go_wp2_with fail
      refine HG.out.mono ?_
      rintro e W9 ⟨rfl, hw⟩
      have hw := hw.symm
      subst hw
      go_wp2_with fail
      clear z0 f0 hr1 hr2 hq1 hq2
      obtain ⟨F, -⟩ := And.intro F2 trivial
      clear F2
      generalize wz.setCell ⟨q7, 0, none⟩ (.int .i64 (X : Int)) = wz at *
      obtain ⟨n5, hn5e⟩ : ∃ n5, n - 4 = n5 := ⟨_, rfl⟩
      obtain ⟨c5, hc5e⟩ : ∃ c5, c - 4 = c5 := ⟨_, rfl⟩
      have hnm : n5 < n := by omega
      rw [hn5e, hc5e] at HT ⊢
      rw [hn5e] at hn5
      clear hn5e hc5e HG
      refine (raget_any (HT.out.1.keep F.out.2.1).sl HT.out.1.nil HT.out.1.le HT.out.2 hn5).mono ?_
      rintro e U2 ⟨rfl, hb⟩
      have K := Lib.hid (And.intro (F.out.1.below hb) (And.intro (bcall F.out.2.1 (Nat.le_refl _) hb) (F.out.2.2.keep hb)))
      clear hb F
      obtain ⟨pr, hpr⟩ : ∃ pr, getP L = pr := ⟨_, rfl⟩
      rw [hpr] at HGF ⊢
      have HPR := Lib.hid hpr
      clear hpr
      cases pr with
      | none =>
        unfold retR
        dsimp only
        go_wp2_with (with_reducible refine halt_store 39 rfl ?_)
        refine Halted.go ?_
        have hal := (Below.refl U2.heap.size U2).alloc (Nat.le_refl _) (.cells #[.int .u32 0, .int .i64 0] 39)
        refine store_whole rfl 39 _ _ rfl U2.heap.size #[.int .u32 0, .int .i64 0] rfl rfl (hnew _ _) rfl (by kernel_rfl) (by simp [Value.oneCell']) ?_
        intro wz hwz hsz
        have hzb := Below.trans hal (hsz.below (Nat.le_refl _))
        have K2 := Lib.hid (And.intro (K.out.1.below hzb) (And.intro (bcall K.out.2.1 (Nat.le_refl _) hzb) (And.intro (K.out.2.2.keep hzb) (show BxP U2.heap.size ((0, 0) : PK) wz from hwz))))
        clear hwz hsz hal hzb K
        generalize U2.heap.size = q9 at *
        have HR := Lib.hid (show res = none by rw [G.out.2.2.2.1, getA_none HN.out.1 (by rw [HGF.out])]; rfl)
        go_wp2_with fail
        go_ret2
        refine ⟨⟨_, rfl, ?_⟩, K2.out.2.1⟩
        rw [HR.out]
        rfl
      | some p =>
        obtain ⟨a, m, k⟩ := p
        unfold retR
        dsimp only
        have hgl := getP_len HPR.out
        have HXA := Lib.hid (getP_lt HT.out.2 HPR.out)
        have HR := Lib.hid (show res = (if 1024 ≤ mm then none else (getA true (L.drop k) (mm + 1)).map ((⟨(X : Int), a, m⟩ : Nl) :: ·)).map (out ++ ·) by rw [G.out.2.2.2.1, getA_some HN.out.1 HGF.out])
        have hkn : 1 ≤ k ∧ k ≤ n5 := ⟨hgl.1, by rw [HT.out.1.sl.len]; exact hgl.2.1⟩
        clear hgl
        go_wp2_with (with_reducible refine halt_store 39 rfl ?_)
        refine Halted.go ?_
        have hal := (Below.refl U2.heap.size U2).alloc (Nat.le_refl _) (.cells #[.int .u32 0, .int .i64 0] 39)
        refine store_whole rfl 39 _ _ rfl U2.heap.size #[.int .u32 (a : Int), .int .i64 (m : Int)] rfl rfl (hnew _ _) rfl (by kernel_rfl) (by simp [Value.oneCell']) ?_
        intro wz hwz hsz
        have hzb := Below.trans hal (hsz.below (Nat.le_refl _))
        have K2 := Lib.hid (And.intro (K.out.1.below hzb) (And.intro (bcall K.out.2.1 (Nat.le_refl _) hzb) (And.intro (K.out.2.2.keep hzb) (show BxP U2.heap.size ((a, (m : Int)) : PK) wz from hwz))))
        clear hwz hsz hal hzb K
        generalize U2.heap.size = q9 at *
        by_cases hmx : 1024 ≤ mm
        · have hmt : ((1024 : Int) ≤ (mm : Int)) = True := by simp; omega
          have HR2 := Lib.hid (show res = none by rw [HR.out, if_pos hmx]; rfl)
          clear hmx
          go_wp2_with fail
          go_ret2
          refine ⟨⟨_, rfl, ?_⟩, K2.out.2.1⟩
          rw [HR2.out]
          rfl
        have hmt : ((1024 : Int) ≤ (mm : Int)) = False := by simp; omega
        have HR2 := Lib.hid (show res = (getA true (L.drop k) (mm + 1)).map ((out ++ [(⟨(X : Int), a, m⟩ : Nl)]) ++ ·) by rw [HR.out, if_neg hmx, map_snoc])
        have hm2 : mm + 1 ≤ 1024 := by omega
        obtain ⟨z0, z1⟩ := K2.out.2.2.2.cells
        dsimp only at z0 z1
        clear hmx HR
        go_wp2_with (with_reducible refine halt_store 39 rfl ?_)
        refine Halted.go ?_
        refine store_mid rfl 39 _ _ rfl q7 1 (.agg #[.int .u32 (a : Int), .int .i64 (m : Int)]) rfl rfl K2.out.2.2.1 (by simp [Value.cells]) (by kernel_rfl) (by simp [Value.cells, Value.oneCell']) ?_
        intro wm cur' hm hcs hcq hsm
        have hcur : cur' = #[.int .i64 (X : Int), .int .u32 (a : Int), .int .i64 (m : Int)] := cur3 hcs hcq
        subst hcur
        have K3 := Lib.hid (And.intro (Rep.Own.keep K2.out.1 fun b hb => hsm.other (Nat.ne_of_lt (HOB.out.1 b hb))) (And.intro (K2.out.2.1.trans (hsm.below HOB.out.2)) (show BxV q7 (.int .i64 (X : Int)) (.int .u32 (a : Int)) (.int .i64 (m : Int)) wm from hm)))
        clear hm hcs hcq hsm z0 z1 K2
        obtain ⟨z0, z1, z2⟩ := K3.out.2.2.cells
        go_wp2_with (at_builtin; refine halt ?_)
        refine Halted.go ?_
        have hal := (Below.refl wm.heap.size wm).alloc (Nat.le_refl _) (.cells #[.int .i64 (X : Int), .int .u32 (a : Int), .int .i64 (m : Int)] 41)
        have hone : RNl.Sl (wm.alloc (.cells #[.int .i64 (X : Int), .int .u32 (a : Int), .int .i64 (m : Int)] 41)) (some ⟨wm.heap.size, 0, none⟩) 1 1 [(⟨(X : Int), a, m⟩ : Nl)] := Rep.sl_one (R := RNl) (y := ⟨(X : Int), a, m⟩) (hnew _ _)
        have K4 := Lib.hid (And.intro (K3.out.1.below hal) (And.intro (bcall K3.out.2.1 (Nat.le_refl _) hal) hone))
        clear hal hone z0 z1 z2 K3
        have hol' := HM.out
        refine Rep.append_list TNl rfl _ _ rfl rfl K4.out.1 (M := [(⟨(X : Int), a, m⟩ : Nl)]) rfl K4.out.2.2 (fun h => by cases h) (by rw [hol']; unfold maxLen; omega) (by rw [hol']; omega) K4.out.2.1.size ?_
        intro v6 w6 hown6 hb6 _
        obtain ⟨oa7, hr1, hr2, hbt7, -⟩ := BT.cut HT.out.1 (i := k) hkn.2
        have K5 := Lib.hid (And.intro hown6 (And.intro (K4.out.2.1.trans hb6) hbt7))
        clear hown6 hb6 hbt7 K4 hol'
        go_wp2_with fail
        refine ⟨⟨_, _, _, L.drop k, out ++ [⟨(X : Int), a, m⟩], rfl, K5.out.2.2, fun x hx => HT.out.2 x (List.mem_of_mem_drop hx), by omega, K5.out.1, by rw [List.length_append, HM.out]; exact hm2, ?_, by rw [List.length_append, HM.out]; exact HR2.out, K5.out.2.1⟩, by show n5 - k < n; omega⟩
        intro y hy
        rcases List.mem_append.1 hy with hy | hy
        · exact G.out.2.1 y hy
        · rw [List.mem_singleton.1 hy]; exact HXA.out
theorem rget06 (paths : Bool) {w : World} {oa : Option Addr} {n c : Nat} {l : List Nat} (h : BT w oa n c l) (hby : Bytes l) (hn : n ≤ 100000) : Calls Try.prog 17 #[.slice oa n c, .bool paths] w fun e w' => (∃ v, e = .returned v ∧ RetLR w' w.heap.size (getA paths l 0) v) ∧ Below w.heap.size w w' := by
  cases paths with
  | false => exact rget_plain h hby hn
  | true => exact rget_paths h hby hn
end Go.Proofs.Ytpjfgfdpngibgaa
/- lives. -/
namespace Go.Proofs.Ytpjfgfdpngibgaa
open Go.RowKit

def strOf (l : List Nat) : ByteArray := ⟨(l.map UInt8.ofNat).toArray⟩
theorem conv_bs {w : World} {oa : Option Addr} {n c : Nat} {l : List Nat} (h : RB.Sl w oa n c l) (hb : Bytes l) : (convert 24 9 (.slice oa n c)).run Try.prog w = .ok (.string (strOf l)) w := by
  have hl := h.len
  rcases Nat.eq_zero_or_pos n with h0 | h0
  · subst h0
    obtain rfl : l = [] := List.length_eq_zero_iff.1 hl.symm
    rw [run_convert_bytes_string w 24 9 5 oa 0 c Try.underlying24 Try.underlying5 Try.underlying9]
    cases oa with
    | none => rfl
    | some a => exact run_bytesToString w a 0 c [] (run_loadCells_list (P := Try.prog) w a [] (fun j v hj => by simp at hj))
  · obtain ⟨b, o, rfl, hr⟩ := h.row h0
    have := run_convert_bytes_back (P := Try.prog) w 24 9 5 ⟨b, o, none⟩ c (l.map UInt8.ofNat) Try.underlying24 Try.underlying5 Try.underlying9 (fun j hj => by
      rw [List.length_map] at hj
      have h1 := hr.get j hj 0 (by decide)
      have hlt : l.getD j default < 256 := hb _ (getD_mem hj)
      simp only [RB, Nat.mul_one, Nat.add_zero, List.getElem?_cons_zero] at h1
      have hadd : (⟨b, o, none⟩ : Addr).add j = ⟨b, o + j, none⟩ := by unfold Addr.add; split <;> simp_all
      rw [hadd, h1]
      have h2 : l.getD j default = l[j] := by rw [List.getD_eq_getElem?_getD, List.getElem?_eq_getElem hj]; rfl
      rw [h2] at hlt
      rw [h2, List.getElem_map, UInt8.toNat_ofNat', Nat.mod_eq_of_lt hlt])
    rw [List.length_map, ← hl] at this
    exact this
def n5 : Nl := ⟨5, 167772160, 8⟩
def n0 : Nl := ⟨0, 0, 0⟩
def LL : List Nl := [n5, n0]
def BL : List Nat := [0, 0, 0, 5, 8, 10, 0, 0, 0, 0, 0]
theorem ll_ok : okL true LL = true := by decide
theorem ll_bad : okL false LL = false := by decide
theorem ll_bytes : nbs true LL = BL := by decide
theorem ll_get : getA true BL 0 = some LL := by rfl
theorem b33 : getA false [33] 0 = none := by rfl
theorem ll_sort : sortN [n5, n0, n5] = [n0, n5] := by decide
theorem ll_cmp : cmpN n5 n0 = 1 := by decide
theorem ll_size : (if okN true n5 then (nb true n5).length else 0 : Nat) = 6 := by decide
theorem bl_bytes : Bytes BL := by intro x hx; simp [BL] at hx; omega
theorem by33 : Bytes [33] := by intro x hx; simp at hx; omega
theorem ll_ad : ∀ x ∈ LL, x.a < 4294967296 := by intro x hx; simp [LL, n5, n0] at hx; rcases hx with rfl | rfl <;> decide
theorem ll_wf : ∀ x ∈ [n5, n0, n5], Nl.wf x := by intro x hx; simp at hx; rcases hx with rfl | rfl | rfl <;> exact ⟨rfl, rfl, rfl⟩
theorem ll_ad3 : ∀ x ∈ [n5, n0, n5], x.a < 4294967296 := by intro x hx; simp at hx; rcases hx with rfl | rfl | rfl <;> decide
theorem ll_str : strOf BL = ⟨#[0, 0, 0, 5, 8, 10, 0, 0, 0, 0, 0]⟩ := rfl
theorem own_le {α : Type} [Inhabited α] {R : Rep α} {w : World} {base : Nat} {v : Value} {L : List α} (h : R.Own w base v L) : ∃ oa c, v = .slice oa L.length c ∧ R.Sl w oa L.length c L ∧ (oa = none → c = 0) ∧ L.length ≤ c ∧ c ≤ maxLen := by
  rcases h.cases with ⟨rfl, rfl⟩ | ⟨g, cap, rfl, hg, hl, h1, h2, hr, -⟩
  · exact ⟨none, 0, rfl, Rep.sl_nil, fun _ => rfl, Nat.le_refl _, Nat.zero_le _⟩
  · exact ⟨some ⟨g, 0, none⟩, cap, rfl, ⟨rfl, by omega, fun _ => ⟨g, 0, rfl, hr⟩⟩, (fun e => by cases e), h1, h2⟩
theorem bt_own {w : World} {base : Nat} {v : Value} {l : List Nat} (h : RB.Own w base v l) : ∃ oa c, v = .slice oa l.length c ∧ BT w oa l.length c l := by
  obtain ⟨oa, c, h1, h2, h3, h4, -⟩ := own_le h
  exact ⟨oa, c, h1, h2, h3, h4⟩
theorem nl_own {w : World} {base : Nat} {v : Value} {L : List Nl} (h : RNl.Own w base v L) (ha : ∀ x ∈ L, x.a < 4294967296) : ∃ oa c, v = .slice oa L.length c ∧ Nls w oa L.length c L := by
  obtain ⟨oa, c, h1, h2, h3, h4, h5⟩ := own_le h
  exact ⟨oa, c, h1, h2, ha, h3, h4, h5⟩
theorem two_cells {W : World} {q c : Nat} {x y : Nl} (h : Nls W (some ⟨q, 0, none⟩) 2 c [x, y]) : (W.cell? ⟨q, 0, none⟩ = some (.int .i64 x.id) ∧ W.cell? ⟨q, 1, none⟩ = some (.int .u32 (x.a : Int)) ∧ W.cell? ⟨q, 2, none⟩ = some (.int .i64 x.ln)) ∧ W.cell? ⟨q, 3, none⟩ = some (.int .i64 y.id) ∧ W.cell? ⟨q, 4, none⟩ = some (.int .u32 (y.a : Int)) ∧ W.cell? ⟨q, 5, none⟩ = some (.int .i64 y.ln) := by
  obtain ⟨b, o, e, hr⟩ := h.sl.row (by omega)
  cases e
  have h0 := hr.get 0 (by simp)
  have h1 := hr.get 1 (by simp)
  exact ⟨⟨h0 0 (by decide), h0 1 (by decide), h0 2 (by decide)⟩, h1 0 (by decide), h1 1 (by decide), h1 2 (by decide)⟩
theorem ncompare_below (x y : Nl) (w : World) : Calls Try.prog 20 #[x.v, y.v] w fun e w' => e = .returned (.int .i64 (cmpN x y)) ∧ Below w.heap.size w w' := (ncompare_any x y w).mono fun _e _w' h => ⟨h.1, h.2.below⟩
structure LvS (q2 : Nat) (oa3 : Option Addr) (c3 g c9 : Nat) (W : World) : Prop where
  l : Nls W (some ⟨q2, 0, none⟩) 2 2 LL
  b : BT W oa3 11 c3 BL
  s : Nls W (some ⟨g, 0, none⟩) 2 c9 [n0, n5]
theorem LvS.keep {q2 : Nat} {oa3 : Option Addr} {c3 g c9 : Nat} {W W' : World} (h : LvS q2 oa3 c3 g c9 W) (hb : Below W.heap.size W W') : LvS q2 oa3 c3 g c9 W' := ⟨h.l.keep hb, h.b.keep hb, h.s.keep hb⟩
theorem LvS.conv {q2 : Nat} {oa3 : Option Addr} {c3 g c9 : Nat} {W : World} (h : LvS q2 oa3 c3 g c9 W) : (convert 24 9 (.slice oa3 11 c3)).run Try.prog W = .ok (.string ⟨#[0, 0, 0, 5, 8, 10, 0, 0, 0, 0, 0]⟩) W := by
  have h2 := conv_bs h.b.sl bl_bytes
  rw [ll_str] at h2
  exact h2
theorem LvS.lc {q2 : Nat} {oa3 : Option Addr} {c3 g c9 : Nat} {W : World} (h : LvS q2 oa3 c3 g c9 W) : (W.cell? ⟨q2, 0, none⟩ = some (.int .i64 5) ∧ W.cell? ⟨q2, 1, none⟩ = some (.int .u32 167772160) ∧ W.cell? ⟨q2, 2, none⟩ = some (.int .i64 8)) ∧ W.cell? ⟨q2, 3, none⟩ = some (.int .i64 0) ∧ W.cell? ⟨q2, 4, none⟩ = some (.int .u32 0) ∧ W.cell? ⟨q2, 5, none⟩ = some (.int .i64 0) := two_cells h.l
theorem LvS.sc {q2 : Nat} {oa3 : Option Addr} {c3 g c9 : Nat} {W : World} (h : LvS q2 oa3 c3 g c9 W) : W.cell? ⟨g, 0, none⟩ = some (.int .i64 0) ∧ W.cell? ⟨g, 1, none⟩ = some (.int .u32 0) ∧ W.cell? ⟨g, 2, none⟩ = some (.int .i64 0) := (two_cells h.s).1
set_option maxRecDepth 100000 in
set_option maxHeartbeats 8000000 in
theorem lives06 (w : World) : Calls Try.prog 10 #[] w fun e w' => e = .returned (.bool true) ∧ Below w.heap.size w w' := by
  go_enter Try.func10, Try.ntmps10
  go_wp2_with (with_reducible refine halt_store 39 rfl ?_)
  refine Halted.go ?_
  have hal := (Below.refl w.heap.size w).alloc (Nat.le_refl _) (.cells #[.int .u32 0, .int .i64 0] 39)
  refine store_whole rfl 39 _ _ rfl w.heap.size #[.int .u32 167772160, .int .i64 8] rfl rfl (hnew _ _) rfl (by kernel_rfl) (by simp [Value.oneCell']) ?_
  intro W1 hz hsz
  have hb1 : Below w.heap.size w W1 := Below.trans hal (hsz.below (Nat.le_refl _))
  have z0 := cell_of (o := 0) hz rfl
  have z1 := cell_of (o := 1) hz rfl
  have HB := Lib.hid hb1
  clear hal hz hsz hb1
  go_wp2_with fail
  clear z0 z1
  have hal := (Below.refl W1.heap.size W1).alloc (Nat.le_refl _) (.cells #[.int .i64 5, .int .u32 167772160, .int .i64 8, .int .i64 0, .int .u32 0, .int .i64 0] 41)
  have hl : Nls (W1.alloc (.cells #[.int .i64 5, .int .u32 167772160, .int .i64 8, .int .i64 0, .int .u32 0, .int .i64 0] 41)) (some ⟨W1.heap.size, 0, none⟩) 2 2 LL := ⟨sl_flat (R := RNl) (M := LL) (hnew _ _) (by decide), ll_ad, (fun h => by cases h), Nat.le_refl _, by decide⟩
  have F0 := Lib.hid (And.intro (bcall HB.out (Nat.le_refl _) hal) hl)
  clear hal hl
  generalize W1.alloc (.cells #[.int .i64 5, .int .u32 167772160, .int .i64 8, .int .i64 0, .int .u32 0, .int .i64 0] 41) = W2 at *
  generalize W1.heap.size = q2 at *
  refine (nput_any F0.out.2 true ll_ok).mono ?_
  rw [ll_bytes]
  rintro e W3 ⟨v, rfl, ho, hb⟩
  obtain ⟨oa3, c3, rfl, hs3⟩ : ∃ oa c, v = .slice oa 11 c ∧ BT W3 oa 11 c BL := bt_own ho
  have F1 := Lib.hid (And.intro (bcall F0.out.1 (Nat.le_refl _) hb) (And.intro (F0.out.2.keep hb) (hs3)))
  clear F0
  clear hb ho hs3
  go_wp2_with fail
  refine (nget_any true F1.out.2.2 bl_bytes (by decide)).mono ?_
  rw [ll_get]
  rintro e W4 ⟨⟨v, rfl, v5, rfl, ho5, ha5, -⟩, hb⟩
  obtain ⟨oa5, c5, rfl, hs5⟩ : ∃ oa c, v5 = .slice oa 2 c ∧ Nls W4 oa 2 c LL := nl_own ho5 ha5
  have F2 := Lib.hid (And.intro (bcall F1.out.1 (Nat.le_refl _) hb) (And.intro (F1.out.2.1.keep hb) (And.intro (F1.out.2.2.keep hb) (hs5))))
  clear F1
  clear hb ho5 ha5 hs5
  go_wp2_with fail
  refine (nput_bad F2.out.2.1 false ll_bad).mono ?_
  rintro e W5 ⟨rfl, hb⟩
  have F3 := Lib.hid (And.intro (bcall F2.out.1 (Nat.le_refl _) hb) (And.intro (F2.out.2.1.keep hb) (And.intro (F2.out.2.2.1.keep hb) ((F2.out.2.2.2.keep hb)))))
  clear F2
  clear hb
  go_wp2_with fail
  have hal := (Below.refl W5.heap.size W5).alloc (Nat.le_refl _) (.cells #[.int .u8 33] 5)
  have h33 : BT (W5.alloc (.cells #[.int .u8 33] 5)) (some ⟨W5.heap.size, 0, none⟩) 1 1 [33] := ⟨sl_flat (R := RB) (M := [33]) (hnew _ _) (by decide), (fun h => by cases h), Nat.le_refl _⟩
  have F4 := Lib.hid (And.intro (bcall F3.out.1 (Nat.le_refl _) hal) (And.intro (F3.out.2.1.keep hal) (And.intro (F3.out.2.2.1.keep hal) (And.intro (F3.out.2.2.2.keep hal) (h33)))))
  clear F3
  clear hal h33
  generalize W5.alloc (.cells #[.int .u8 33] 5) = W6 at *
  generalize W5.heap.size = q5 at *
  refine (nget_any false F4.out.2.2.2.2 by33 (by decide)).mono ?_
  rw [b33]
  rintro e W7 ⟨⟨v, rfl, rfl⟩, hb⟩
  have F5 := Lib.hid (And.intro (bcall F4.out.1 (Nat.le_refl _) hb) (And.intro (F4.out.2.1.keep hb) (And.intro (F4.out.2.2.1.keep hb) ((F4.out.2.2.2.1.keep hb)))))
  clear F4
  clear hb
  obtain ⟨⟨z0, z1, z2⟩, -⟩ := two_cells F5.out.2.1
  simp only [n5] at z0 z1 z2
  go_wp2_with (at_builtin; refine halt ?_)
  refine Halted.go ?_
  clear z0 z1 z2
  have hal := (Below.refl W7.heap.size W7).alloc (Nat.le_refl _) (.cells #[.int .i64 5, .int .u32 167772160, .int .i64 8] 41)
  have hone : RNl.Sl (W7.alloc (.cells #[.int .i64 5, .int .u32 167772160, .int .i64 8] 41)) (some ⟨W7.heap.size, 0, none⟩) 1 1 [n5] := Rep.sl_one (R := RNl) (y := n5) (hnew _ _)
  have F6 := Lib.hid (And.intro (bcall F5.out.1 (Nat.le_refl _) hal) (And.intro (F5.out.2.1.keep hal) (And.intro (F5.out.2.2.1.keep hal) ((F5.out.2.2.2.keep hal)))))
  clear F5
  clear hal
  refine Rep.append_cut TNl rfl _ _ rfl rfl F6.out.2.1.sl rfl hone (by omega) (by unfold maxLen; omega) (by omega) ?_
  intro v8 W8 hown8 hb
  obtain ⟨oa8, c8, rfl, hs8⟩ : ∃ oa c, v8 = .slice oa 3 c ∧ Nls W8 oa 3 c [n5, n0, n5] := nl_own (L := [n5, n0, n5]) hown8 ll_ad3
  have F7 := Lib.hid (And.intro (bcall F6.out.1 (Nat.le_refl _) hb) (And.intro (F6.out.2.1.keep hb) (And.intro (F6.out.2.2.1.keep hb) (And.intro (F6.out.2.2.2.keep hb) (hs8)))))
  clear F6
  clear hb hone hown8 hs8
  go_wp2_with fail
  refine (nsort_any F7.out.2.2.2.2 ll_wf (by decide)).mono ?_
  rw [ll_sort]
  rintro e W9 ⟨v, rfl, ho9, hb⟩
  rcases ho9.cases with ⟨-, h⟩ | ⟨g, c9, rfl, -, -, h1, h2, hr, -⟩
  · cases h
  have hs9 : Nls W9 (some ⟨g, 0, none⟩) 2 c9 [n0, n5] := ⟨⟨rfl, by decide, fun _ => ⟨g, 0, rfl, hr⟩⟩, (fun x hx => by simp at hx; rcases hx with rfl | rfl <;> decide), (fun h => by cases h), h1, h2⟩
  have F8 := Lib.hid (And.intro (bcall F7.out.1 (Nat.le_refl _) hb) (And.intro (F7.out.2.1.keep hb) (And.intro (F7.out.2.2.1.keep hb) (And.intro (F7.out.2.2.2.1.keep hb) (hs9)))))
  clear F7
  clear hb ho9 h1 h2 hr hs9
  go_wp2_with fail
  refine wp_region_heldP (LvS q2 oa3 c3 g c9) (by kernel_rfl) ?_
  have hd := (Below.refl W9.heap.size W9).drew
  have hls : LvS q2 oa3 c3 g c9 W9 := ⟨F8.out.2.1, F8.out.2.2.1, F8.out.2.2.2.2⟩
  have F9 := Lib.hid (And.intro (bcall F8.out.1 (Nat.le_refl _) hd) (And.intro (F8.out.2.1.keep hd) (And.intro (F8.out.2.2.2.1.keep hd) (hls.keep hd))))
  clear F8
  clear hd hls
  generalize W9.drew = WA at *
  refine held_reads [0, 1, 2, 3, 4, 5, 6, 7, 8, 9, 10, 11, 12, 13] (g := 47) rfl (by kernel_rfl) F9.out.2.2.2 (fun _ _ d _ _ h => by cases d <;> exact h) ?_
  simp only [pick, List.getD_cons_zero, List.getD_cons_succ]
  ((with_reducible refine wpRead_step (fun K hK => ?_)); go_simp; first | ((with_reducible refine hK _ ?_); clear hK K) | (apply Exists.intro; (with_reducible refine ⟨fun w' hw' => ?_, hK _ ?_⟩); ((obtain ⟨⟨f0, f1, f2⟩, f3, f4, f5⟩ := hw'.lc; have f6 := hw'.conv; obtain ⟨g0, g1, g2⟩ := hw'.sc; go_simp; first | exact rfl | exact ⟨rfl, rfl⟩)); clear hK K))
  ((with_reducible refine wpRead_step (fun K hK => ?_)); go_simp; first | ((with_reducible refine hK _ ?_); clear hK K) | (apply Exists.intro; (with_reducible refine ⟨fun w' hw' => ?_, hK _ ?_⟩); ((obtain ⟨⟨f0, f1, f2⟩, f3, f4, f5⟩ := hw'.lc; have f6 := hw'.conv; obtain ⟨g0, g1, g2⟩ := hw'.sc; go_simp; first | exact rfl | exact ⟨rfl, rfl⟩)); clear hK K))
  ((with_reducible refine wpRead_step (fun K hK => ?_)); go_simp; first | ((with_reducible refine hK _ ?_); clear hK K) | (apply Exists.intro; (with_reducible refine ⟨fun w' hw' => ?_, hK _ ?_⟩); ((obtain ⟨⟨f0, f1, f2⟩, f3, f4, f5⟩ := hw'.lc; have f6 := hw'.conv; obtain ⟨g0, g1, g2⟩ := hw'.sc; go_simp; first | exact rfl | exact ⟨rfl, rfl⟩)); clear hK K))
  ((with_reducible refine wpRead_step (fun K hK => ?_)); go_simp; first | ((with_reducible refine hK _ ?_); clear hK K) | (apply Exists.intro; (with_reducible refine ⟨fun w' hw' => ?_, hK _ ?_⟩); ((obtain ⟨⟨f0, f1, f2⟩, f3, f4, f5⟩ := hw'.lc; have f6 := hw'.conv; obtain ⟨g0, g1, g2⟩ := hw'.sc; go_simp; first | exact rfl | exact ⟨rfl, rfl⟩)); clear hK K))
  ((with_reducible refine wpRead_step (fun K hK => ?_)); go_simp; first | ((with_reducible refine hK _ ?_); clear hK K) | (apply Exists.intro; (with_reducible refine ⟨fun w' hw' => ?_, hK _ ?_⟩); ((obtain ⟨⟨f0, f1, f2⟩, f3, f4, f5⟩ := hw'.lc; have f6 := hw'.conv; obtain ⟨g0, g1, g2⟩ := hw'.sc; go_simp; first | exact rfl | exact ⟨rfl, rfl⟩)); clear hK K))
  ((with_reducible refine wpRead_step (fun K hK => ?_)); go_simp; first | ((with_reducible refine hK _ ?_); clear hK K) | (apply Exists.intro; (with_reducible refine ⟨fun w' hw' => ?_, hK _ ?_⟩); ((obtain ⟨⟨f0, f1, f2⟩, f3, f4, f5⟩ := hw'.lc; have f6 := hw'.conv; obtain ⟨g0, g1, g2⟩ := hw'.sc; go_simp; first | exact rfl | exact ⟨rfl, rfl⟩)); clear hK K))
  ((with_reducible refine wpRead_step (fun K hK => ?_)); go_simp; first | ((with_reducible refine hK _ ?_); clear hK K) | (apply Exists.intro; (with_reducible refine ⟨fun w' hw' => ?_, hK _ ?_⟩); ((obtain ⟨⟨f0, f1, f2⟩, f3, f4, f5⟩ := hw'.lc; have f6 := hw'.conv; obtain ⟨g0, g1, g2⟩ := hw'.sc; go_simp; first | exact rfl | exact ⟨rfl, rfl⟩)); clear hK K))
  ((with_reducible refine wpRead_step (fun K hK => ?_)); go_simp; first | ((with_reducible refine hK _ ?_); clear hK K) | (apply Exists.intro; (with_reducible refine ⟨fun w' hw' => ?_, hK _ ?_⟩); ((obtain ⟨⟨f0, f1, f2⟩, f3, f4, f5⟩ := hw'.lc; have f6 := hw'.conv; obtain ⟨g0, g1, g2⟩ := hw'.sc; go_simp; first | exact rfl | exact ⟨rfl, rfl⟩)); clear hK K))
  ((with_reducible refine wpRead_step (fun K hK => ?_)); go_simp; first | ((with_reducible refine hK _ ?_); clear hK K) | (apply Exists.intro; (with_reducible refine ⟨fun w' hw' => ?_, hK _ ?_⟩); ((obtain ⟨⟨f0, f1, f2⟩, f3, f4, f5⟩ := hw'.lc; have f6 := hw'.conv; obtain ⟨g0, g1, g2⟩ := hw'.sc; go_simp; first | exact rfl | exact ⟨rfl, rfl⟩)); clear hK K))
  ((with_reducible refine wpRead_step (fun K hK => ?_)); go_simp; first | ((with_reducible refine hK _ ?_); clear hK K) | (apply Exists.intro; (with_reducible refine ⟨fun w' hw' => ?_, hK _ ?_⟩); ((obtain ⟨⟨f0, f1, f2⟩, f3, f4, f5⟩ := hw'.lc; have f6 := hw'.conv; obtain ⟨g0, g1, g2⟩ := hw'.sc; go_simp; first | exact rfl | exact ⟨rfl, rfl⟩)); clear hK K))
  ((with_reducible refine wpRead_step (fun K hK => ?_)); go_simp; first | ((with_reducible refine hK _ ?_); clear hK K) | (apply Exists.intro; (with_reducible refine ⟨fun w' hw' => ?_, hK _ ?_⟩); ((obtain ⟨⟨f0, f1, f2⟩, f3, f4, f5⟩ := hw'.lc; have f6 := hw'.conv; obtain ⟨g0, g1, g2⟩ := hw'.sc; go_simp; first | exact rfl | exact ⟨rfl, rfl⟩)); clear hK K))
  ((with_reducible refine wpRead_step (fun K hK => ?_)); go_simp; first | ((with_reducible refine hK _ ?_); clear hK K) | (apply Exists.intro; (with_reducible refine ⟨fun w' hw' => ?_, hK _ ?_⟩); ((obtain ⟨⟨f0, f1, f2⟩, f3, f4, f5⟩ := hw'.lc; have f6 := hw'.conv; obtain ⟨g0, g1, g2⟩ := hw'.sc; go_simp; first | exact rfl | exact ⟨rfl, rfl⟩)); clear hK K))
  ((with_reducible refine wpRead_step (fun K hK => ?_)); go_simp; first | ((with_reducible refine hK _ ?_); clear hK K) | (apply Exists.intro; (with_reducible refine ⟨fun w' hw' => ?_, hK _ ?_⟩); ((obtain ⟨⟨f0, f1, f2⟩, f3, f4, f5⟩ := hw'.lc; have f6 := hw'.conv; obtain ⟨g0, g1, g2⟩ := hw'.sc; go_simp; first | exact rfl | exact ⟨rfl, rfl⟩)); clear hK K))
  ((with_reducible refine wpRead_step (fun K hK => ?_)); go_simp; first | ((with_reducible refine hK _ ?_); clear hK K) | (apply Exists.intro; (with_reducible refine ⟨fun w' hw' => ?_, hK _ ?_⟩); ((obtain ⟨⟨f0, f1, f2⟩, f3, f4, f5⟩ := hw'.lc; have f6 := hw'.conv; obtain ⟨g0, g1, g2⟩ := hw'.sc; go_simp; first | exact rfl | exact ⟨rfl, rfl⟩)); clear hK K))
  with_reducible refine wpRead_nil ?_
  refine held_one 14 (by kernel_rfl) ?_
  simp only [pick, List.getD_cons_zero, List.getD_cons_succ]
  go_wp2_with fail
  refine (nsame_any F9.out.2.1.sl F9.out.2.2.1.sl).mono ?_
  rintro e WB ⟨rfl, hb⟩
  have F10 := Lib.hid (And.intro (bcall F9.out.1 (Nat.le_refl _) hb) (And.intro (F9.out.2.1.keep hb) (And.intro (F9.out.2.2.1.keep hb) ((F9.out.2.2.2.keep hb)))))
  clear F9
  clear hb
  go_wp2_with fail
  refine ⟨F10.out.2.2.2, ?_⟩
  refine held_reads [15, 16, 17, 18, 19, 20, 21, 22, 23, 24, 25, 26, 27] (g := 33) rfl (by kernel_rfl) F10.out.2.2.2 (fun _ _ d _ _ h => by cases d <;> exact h) ?_
  simp only [pick, List.getD_cons_zero, List.getD_cons_succ]
  ((with_reducible refine wpRead_step (fun K hK => ?_)); go_simp; first | ((with_reducible refine hK _ ?_); clear hK K) | (apply Exists.intro; (with_reducible refine ⟨fun w' hw' => ?_, hK _ ?_⟩); ((obtain ⟨⟨f0, f1, f2⟩, f3, f4, f5⟩ := hw'.lc; have f6 := hw'.conv; obtain ⟨g0, g1, g2⟩ := hw'.sc; go_simp; first | exact rfl | exact ⟨rfl, rfl⟩)); clear hK K))
  ((with_reducible refine wpRead_step (fun K hK => ?_)); go_simp; first | ((with_reducible refine hK _ ?_); clear hK K) | (apply Exists.intro; (with_reducible refine ⟨fun w' hw' => ?_, hK _ ?_⟩); ((obtain ⟨⟨f0, f1, f2⟩, f3, f4, f5⟩ := hw'.lc; have f6 := hw'.conv; obtain ⟨g0, g1, g2⟩ := hw'.sc; go_simp; first | exact rfl | exact ⟨rfl, rfl⟩)); clear hK K))
  ((with_reducible refine wpRead_step (fun K hK => ?_)); go_simp; first | ((with_reducible refine hK _ ?_); clear hK K) | (apply Exists.intro; (with_reducible refine ⟨fun w' hw' => ?_, hK _ ?_⟩); ((obtain ⟨⟨f0, f1, f2⟩, f3, f4, f5⟩ := hw'.lc; have f6 := hw'.conv; obtain ⟨g0, g1, g2⟩ := hw'.sc; go_simp; first | exact rfl | exact ⟨rfl, rfl⟩)); clear hK K))
  ((with_reducible refine wpRead_step (fun K hK => ?_)); go_simp; first | ((with_reducible refine hK _ ?_); clear hK K) | (apply Exists.intro; (with_reducible refine ⟨fun w' hw' => ?_, hK _ ?_⟩); ((obtain ⟨⟨f0, f1, f2⟩, f3, f4, f5⟩ := hw'.lc; have f6 := hw'.conv; obtain ⟨g0, g1, g2⟩ := hw'.sc; go_simp; first | exact rfl | exact ⟨rfl, rfl⟩)); clear hK K))
  ((with_reducible refine wpRead_step (fun K hK => ?_)); go_simp; first | ((with_reducible refine hK _ ?_); clear hK K) | (apply Exists.intro; (with_reducible refine ⟨fun w' hw' => ?_, hK _ ?_⟩); ((obtain ⟨⟨f0, f1, f2⟩, f3, f4, f5⟩ := hw'.lc; have f6 := hw'.conv; obtain ⟨g0, g1, g2⟩ := hw'.sc; go_simp; first | exact rfl | exact ⟨rfl, rfl⟩)); clear hK K))
  ((with_reducible refine wpRead_step (fun K hK => ?_)); go_simp; first | ((with_reducible refine hK _ ?_); clear hK K) | (apply Exists.intro; (with_reducible refine ⟨fun w' hw' => ?_, hK _ ?_⟩); ((obtain ⟨⟨f0, f1, f2⟩, f3, f4, f5⟩ := hw'.lc; have f6 := hw'.conv; obtain ⟨g0, g1, g2⟩ := hw'.sc; go_simp; first | exact rfl | exact ⟨rfl, rfl⟩)); clear hK K))
  ((with_reducible refine wpRead_step (fun K hK => ?_)); go_simp; first | ((with_reducible refine hK _ ?_); clear hK K) | (apply Exists.intro; (with_reducible refine ⟨fun w' hw' => ?_, hK _ ?_⟩); ((obtain ⟨⟨f0, f1, f2⟩, f3, f4, f5⟩ := hw'.lc; have f6 := hw'.conv; obtain ⟨g0, g1, g2⟩ := hw'.sc; go_simp; first | exact rfl | exact ⟨rfl, rfl⟩)); clear hK K))
  ((with_reducible refine wpRead_step (fun K hK => ?_)); go_simp; first | ((with_reducible refine hK _ ?_); clear hK K) | (apply Exists.intro; (with_reducible refine ⟨fun w' hw' => ?_, hK _ ?_⟩); ((obtain ⟨⟨f0, f1, f2⟩, f3, f4, f5⟩ := hw'.lc; have f6 := hw'.conv; obtain ⟨g0, g1, g2⟩ := hw'.sc; go_simp; first | exact rfl | exact ⟨rfl, rfl⟩)); clear hK K))
  ((with_reducible refine wpRead_step (fun K hK => ?_)); go_simp; first | ((with_reducible refine hK _ ?_); clear hK K) | (apply Exists.intro; (with_reducible refine ⟨fun w' hw' => ?_, hK _ ?_⟩); ((obtain ⟨⟨f0, f1, f2⟩, f3, f4, f5⟩ := hw'.lc; have f6 := hw'.conv; obtain ⟨g0, g1, g2⟩ := hw'.sc; go_simp; first | exact rfl | exact ⟨rfl, rfl⟩)); clear hK K))
  ((with_reducible refine wpRead_step (fun K hK => ?_)); go_simp; first | ((with_reducible refine hK _ ?_); clear hK K) | (apply Exists.intro; (with_reducible refine ⟨fun w' hw' => ?_, hK _ ?_⟩); ((obtain ⟨⟨f0, f1, f2⟩, f3, f4, f5⟩ := hw'.lc; have f6 := hw'.conv; obtain ⟨g0, g1, g2⟩ := hw'.sc; go_simp; first | exact rfl | exact ⟨rfl, rfl⟩)); clear hK K))
  ((with_reducible refine wpRead_step (fun K hK => ?_)); go_simp; first | ((with_reducible refine hK _ ?_); clear hK K) | (apply Exists.intro; (with_reducible refine ⟨fun w' hw' => ?_, hK _ ?_⟩); ((obtain ⟨⟨f0, f1, f2⟩, f3, f4, f5⟩ := hw'.lc; have f6 := hw'.conv; obtain ⟨g0, g1, g2⟩ := hw'.sc; go_simp; first | exact rfl | exact ⟨rfl, rfl⟩)); clear hK K))
  ((with_reducible refine wpRead_step (fun K hK => ?_)); go_simp; first | ((with_reducible refine hK _ ?_); clear hK K) | (apply Exists.intro; (with_reducible refine ⟨fun w' hw' => ?_, hK _ ?_⟩); ((obtain ⟨⟨f0, f1, f2⟩, f3, f4, f5⟩ := hw'.lc; have f6 := hw'.conv; obtain ⟨g0, g1, g2⟩ := hw'.sc; go_simp; first | exact rfl | exact ⟨rfl, rfl⟩)); clear hK K))
  ((with_reducible refine wpRead_step (fun K hK => ?_)); go_simp; first | ((with_reducible refine hK _ ?_); clear hK K) | (apply Exists.intro; (with_reducible refine ⟨fun w' hw' => ?_, hK _ ?_⟩); ((obtain ⟨⟨f0, f1, f2⟩, f3, f4, f5⟩ := hw'.lc; have f6 := hw'.conv; obtain ⟨g0, g1, g2⟩ := hw'.sc; go_simp; first | exact rfl | exact ⟨rfl, rfl⟩)); clear hK K))
  with_reducible refine wpRead_nil ?_
  refine held_one 28 (by kernel_rfl) ?_
  simp only [pick, List.getD_cons_zero, List.getD_cons_succ]
  go_wp2_with fail
  refine (nsize_any true n5 (by decide) _).mono ?_
  rintro e WC ⟨rfl, hb⟩
  have F11 := Lib.hid (And.intro (bcall F10.out.1 (Nat.le_refl _) hb) (And.intro (F10.out.2.1.keep hb) (And.intro (F10.out.2.2.1.keep hb) ((F10.out.2.2.2.keep hb)))))
  clear F10
  clear hb
  go_wp2_with fail
  refine ⟨F11.out.2.2.2, ?_⟩
  refine held_reads [29, 30, 31, 32, 33, 34, 35, 36, 37, 38, 39, 40, 41, 42, 43, 44, 45, 46, 47, 48, 49, 50, 51] (g := 9) rfl (by kernel_rfl) F11.out.2.2.2 (fun _ _ d _ _ h => by cases d <;> exact h) ?_
  simp only [pick, List.getD_cons_zero, List.getD_cons_succ]
  ((with_reducible refine wpRead_step (fun K hK => ?_)); go_simp; first | ((with_reducible refine hK _ ?_); clear hK K) | (apply Exists.intro; (with_reducible refine ⟨fun w' hw' => ?_, hK _ ?_⟩); ((obtain ⟨⟨f0, f1, f2⟩, f3, f4, f5⟩ := hw'.lc; have f6 := hw'.conv; obtain ⟨g0, g1, g2⟩ := hw'.sc; go_simp; first | exact rfl | exact ⟨rfl, rfl⟩)); clear hK K))
  ((with_reducible refine wpRead_step (fun K hK => ?_)); go_simp; first | ((with_reducible refine hK _ ?_); clear hK K) | (apply Exists.intro; (with_reducible refine ⟨fun w' hw' => ?_, hK _ ?_⟩); ((obtain ⟨⟨f0, f1, f2⟩, f3, f4, f5⟩ := hw'.lc; have f6 := hw'.conv; obtain ⟨g0, g1, g2⟩ := hw'.sc; go_simp; first | exact rfl | exact ⟨rfl, rfl⟩)); clear hK K))
  ((with_reducible refine wpRead_step (fun K hK => ?_)); go_simp; first | ((with_reducible refine hK _ ?_); clear hK K) | (apply Exists.intro; (with_reducible refine ⟨fun w' hw' => ?_, hK _ ?_⟩); ((obtain ⟨⟨f0, f1, f2⟩, f3, f4, f5⟩ := hw'.lc; have f6 := hw'.conv; obtain ⟨g0, g1, g2⟩ := hw'.sc; go_simp; first | exact rfl | exact ⟨rfl, rfl⟩)); clear hK K))
  ((with_reducible refine wpRead_step (fun K hK => ?_)); go_simp; first | ((with_reducible refine hK _ ?_); clear hK K) | (apply Exists.intro; (with_reducible refine ⟨fun w' hw' => ?_, hK _ ?_⟩); ((obtain ⟨⟨f0, f1, f2⟩, f3, f4, f5⟩ := hw'.lc; have f6 := hw'.conv; obtain ⟨g0, g1, g2⟩ := hw'.sc; go_simp; first | exact rfl | exact ⟨rfl, rfl⟩)); clear hK K))
  ((with_reducible refine wpRead_step (fun K hK => ?_)); go_simp; first | ((with_reducible refine hK _ ?_); clear hK K) | (apply Exists.intro; (with_reducible refine ⟨fun w' hw' => ?_, hK _ ?_⟩); ((obtain ⟨⟨f0, f1, f2⟩, f3, f4, f5⟩ := hw'.lc; have f6 := hw'.conv; obtain ⟨g0, g1, g2⟩ := hw'.sc; go_simp; first | exact rfl | exact ⟨rfl, rfl⟩)); clear hK K))
  ((with_reducible refine wpRead_step (fun K hK => ?_)); go_simp; first | ((with_reducible refine hK _ ?_); clear hK K) | (apply Exists.intro; (with_reducible refine ⟨fun w' hw' => ?_, hK _ ?_⟩); ((obtain ⟨⟨f0, f1, f2⟩, f3, f4, f5⟩ := hw'.lc; have f6 := hw'.conv; obtain ⟨g0, g1, g2⟩ := hw'.sc; go_simp; first | exact rfl | exact ⟨rfl, rfl⟩)); clear hK K))
  ((with_reducible refine wpRead_step (fun K hK => ?_)); go_simp; first | ((with_reducible refine hK _ ?_); clear hK K) | (apply Exists.intro; (with_reducible refine ⟨fun w' hw' => ?_, hK _ ?_⟩); ((obtain ⟨⟨f0, f1, f2⟩, f3, f4, f5⟩ := hw'.lc; have f6 := hw'.conv; obtain ⟨g0, g1, g2⟩ := hw'.sc; go_simp; first | exact rfl | exact ⟨rfl, rfl⟩)); clear hK K))
  ((with_reducible refine wpRead_step (fun K hK => ?_)); go_simp; first | ((with_reducible refine hK _ ?_); clear hK K) | (apply Exists.intro; (with_reducible refine ⟨fun w' hw' => ?_, hK _ ?_⟩); ((obtain ⟨⟨f0, f1, f2⟩, f3, f4, f5⟩ := hw'.lc; have f6 := hw'.conv; obtain ⟨g0, g1, g2⟩ := hw'.sc; go_simp; first | exact rfl | exact ⟨rfl, rfl⟩)); clear hK K))
  ((with_reducible refine wpRead_step (fun K hK => ?_)); go_simp; first | ((with_reducible refine hK _ ?_); clear hK K) | (apply Exists.intro; (with_reducible refine ⟨fun w' hw' => ?_, hK _ ?_⟩); ((obtain ⟨⟨f0, f1, f2⟩, f3, f4, f5⟩ := hw'.lc; have f6 := hw'.conv; obtain ⟨g0, g1, g2⟩ := hw'.sc; go_simp; first | exact rfl | exact ⟨rfl, rfl⟩)); clear hK K))
  ((with_reducible refine wpRead_step (fun K hK => ?_)); go_simp; first | ((with_reducible refine hK _ ?_); clear hK K) | (apply Exists.intro; (with_reducible refine ⟨fun w' hw' => ?_, hK _ ?_⟩); ((obtain ⟨⟨f0, f1, f2⟩, f3, f4, f5⟩ := hw'.lc; have f6 := hw'.conv; obtain ⟨g0, g1, g2⟩ := hw'.sc; go_simp; first | exact rfl | exact ⟨rfl, rfl⟩)); clear hK K))
  ((with_reducible refine wpRead_step (fun K hK => ?_)); go_simp; first | ((with_reducible refine hK _ ?_); clear hK K) | (apply Exists.intro; (with_reducible refine ⟨fun w' hw' => ?_, hK _ ?_⟩); ((obtain ⟨⟨f0, f1, f2⟩, f3, f4, f5⟩ := hw'.lc; have f6 := hw'.conv; obtain ⟨g0, g1, g2⟩ := hw'.sc; go_simp; first | exact rfl | exact ⟨rfl, rfl⟩)); clear hK K))
  ((with_reducible refine wpRead_step (fun K hK => ?_)); go_simp; first | ((with_reducible refine hK _ ?_); clear hK K) | (apply Exists.intro; (with_reducible refine ⟨fun w' hw' => ?_, hK _ ?_⟩); ((obtain ⟨⟨f0, f1, f2⟩, f3, f4, f5⟩ := hw'.lc; have f6 := hw'.conv; obtain ⟨g0, g1, g2⟩ := hw'.sc; go_simp; first | exact rfl | exact ⟨rfl, rfl⟩)); clear hK K))
  ((with_reducible refine wpRead_step (fun K hK => ?_)); go_simp; first | ((with_reducible refine hK _ ?_); clear hK K) | (apply Exists.intro; (with_reducible refine ⟨fun w' hw' => ?_, hK _ ?_⟩); ((obtain ⟨⟨f0, f1, f2⟩, f3, f4, f5⟩ := hw'.lc; have f6 := hw'.conv; obtain ⟨g0, g1, g2⟩ := hw'.sc; go_simp; first | exact rfl | exact ⟨rfl, rfl⟩)); clear hK K))
  ((with_reducible refine wpRead_step (fun K hK => ?_)); go_simp; first | ((with_reducible refine hK _ ?_); clear hK K) | (apply Exists.intro; (with_reducible refine ⟨fun w' hw' => ?_, hK _ ?_⟩); ((obtain ⟨⟨f0, f1, f2⟩, f3, f4, f5⟩ := hw'.lc; have f6 := hw'.conv; obtain ⟨g0, g1, g2⟩ := hw'.sc; go_simp; first | exact rfl | exact ⟨rfl, rfl⟩)); clear hK K))
  ((with_reducible refine wpRead_step (fun K hK => ?_)); go_simp; first | ((with_reducible refine hK _ ?_); clear hK K) | (apply Exists.intro; (with_reducible refine ⟨fun w' hw' => ?_, hK _ ?_⟩); ((obtain ⟨⟨f0, f1, f2⟩, f3, f4, f5⟩ := hw'.lc; have f6 := hw'.conv; obtain ⟨g0, g1, g2⟩ := hw'.sc; go_simp; first | exact rfl | exact ⟨rfl, rfl⟩)); clear hK K))
  ((with_reducible refine wpRead_step (fun K hK => ?_)); go_simp; first | ((with_reducible refine hK _ ?_); clear hK K) | (apply Exists.intro; (with_reducible refine ⟨fun w' hw' => ?_, hK _ ?_⟩); ((obtain ⟨⟨f0, f1, f2⟩, f3, f4, f5⟩ := hw'.lc; have f6 := hw'.conv; obtain ⟨g0, g1, g2⟩ := hw'.sc; go_simp; first | exact rfl | exact ⟨rfl, rfl⟩)); clear hK K))
  ((with_reducible refine wpRead_step (fun K hK => ?_)); go_simp; first | ((with_reducible refine hK _ ?_); clear hK K) | (apply Exists.intro; (with_reducible refine ⟨fun w' hw' => ?_, hK _ ?_⟩); ((obtain ⟨⟨f0, f1, f2⟩, f3, f4, f5⟩ := hw'.lc; have f6 := hw'.conv; obtain ⟨g0, g1, g2⟩ := hw'.sc; go_simp; first | exact rfl | exact ⟨rfl, rfl⟩)); clear hK K))
  ((with_reducible refine wpRead_step (fun K hK => ?_)); go_simp; first | ((with_reducible refine hK _ ?_); clear hK K) | (apply Exists.intro; (with_reducible refine ⟨fun w' hw' => ?_, hK _ ?_⟩); ((obtain ⟨⟨f0, f1, f2⟩, f3, f4, f5⟩ := hw'.lc; have f6 := hw'.conv; obtain ⟨g0, g1, g2⟩ := hw'.sc; go_simp; first | exact rfl | exact ⟨rfl, rfl⟩)); clear hK K))
  ((with_reducible refine wpRead_step (fun K hK => ?_)); go_simp; first | ((with_reducible refine hK _ ?_); clear hK K) | (apply Exists.intro; (with_reducible refine ⟨fun w' hw' => ?_, hK _ ?_⟩); ((obtain ⟨⟨f0, f1, f2⟩, f3, f4, f5⟩ := hw'.lc; have f6 := hw'.conv; obtain ⟨g0, g1, g2⟩ := hw'.sc; go_simp; first | exact rfl | exact ⟨rfl, rfl⟩)); clear hK K))
  ((with_reducible refine wpRead_step (fun K hK => ?_)); go_simp; first | ((with_reducible refine hK _ ?_); clear hK K) | (apply Exists.intro; (with_reducible refine ⟨fun w' hw' => ?_, hK _ ?_⟩); ((obtain ⟨⟨f0, f1, f2⟩, f3, f4, f5⟩ := hw'.lc; have f6 := hw'.conv; obtain ⟨g0, g1, g2⟩ := hw'.sc; go_simp; first | exact rfl | exact ⟨rfl, rfl⟩)); clear hK K))
  ((with_reducible refine wpRead_step (fun K hK => ?_)); go_simp; first | ((with_reducible refine hK _ ?_); clear hK K) | (apply Exists.intro; (with_reducible refine ⟨fun w' hw' => ?_, hK _ ?_⟩); ((obtain ⟨⟨f0, f1, f2⟩, f3, f4, f5⟩ := hw'.lc; have f6 := hw'.conv; obtain ⟨g0, g1, g2⟩ := hw'.sc; go_simp; first | exact rfl | exact ⟨rfl, rfl⟩)); clear hK K))
  ((with_reducible refine wpRead_step (fun K hK => ?_)); go_simp; first | ((with_reducible refine hK _ ?_); clear hK K) | (apply Exists.intro; (with_reducible refine ⟨fun w' hw' => ?_, hK _ ?_⟩); ((obtain ⟨⟨f0, f1, f2⟩, f3, f4, f5⟩ := hw'.lc; have f6 := hw'.conv; obtain ⟨g0, g1, g2⟩ := hw'.sc; go_simp; first | exact rfl | exact ⟨rfl, rfl⟩)); clear hK K))
  ((with_reducible refine wpRead_step (fun K hK => ?_)); go_simp; first | ((with_reducible refine hK _ ?_); clear hK K) | (apply Exists.intro; (with_reducible refine ⟨fun w' hw' => ?_, hK _ ?_⟩); ((obtain ⟨⟨f0, f1, f2⟩, f3, f4, f5⟩ := hw'.lc; have f6 := hw'.conv; obtain ⟨g0, g1, g2⟩ := hw'.sc; go_simp; first | exact rfl | exact ⟨rfl, rfl⟩)); clear hK K))
  with_reducible refine wpRead_nil ?_
  refine held_one 52 (by kernel_rfl) ?_
  simp only [pick, List.getD_cons_zero, List.getD_cons_succ]
  go_wp2_with fail
  refine (ncompare_below n5 n0 _).mono ?_
  rintro e WD ⟨rfl, hb⟩
  have F12 := Lib.hid (And.intro (bcall F11.out.1 (Nat.le_refl _) hb) (And.intro (F11.out.2.1.keep hb) (And.intro (F11.out.2.2.1.keep hb) ((F11.out.2.2.2.keep hb)))))
  clear F11
  clear hb
  go_wp2_with fail
  refine ⟨F12.out.2.2.2, ?_⟩
  refine held_reads [53, 54, 55, 56] (g := 4) rfl (by kernel_rfl) F12.out.2.2.2 (fun _ _ d _ _ h => by cases d <;> exact h) ?_
  simp only [pick, List.getD_cons_zero, List.getD_cons_succ]
  ((with_reducible refine wpRead_step (fun K hK => ?_)); go_simp; first | ((with_reducible refine hK _ ?_); clear hK K) | (apply Exists.intro; (with_reducible refine ⟨fun w' hw' => ?_, hK _ ?_⟩); ((obtain ⟨⟨f0, f1, f2⟩, f3, f4, f5⟩ := hw'.lc; have f6 := hw'.conv; obtain ⟨g0, g1, g2⟩ := hw'.sc; go_simp; first | exact rfl | exact ⟨rfl, rfl⟩)); clear hK K))
  ((with_reducible refine wpRead_step (fun K hK => ?_)); go_simp; first | ((with_reducible refine hK _ ?_); clear hK K) | (apply Exists.intro; (with_reducible refine ⟨fun w' hw' => ?_, hK _ ?_⟩); ((obtain ⟨⟨f0, f1, f2⟩, f3, f4, f5⟩ := hw'.lc; have f6 := hw'.conv; obtain ⟨g0, g1, g2⟩ := hw'.sc; go_simp; first | exact rfl | exact ⟨rfl, rfl⟩)); clear hK K))
  ((with_reducible refine wpRead_step (fun K hK => ?_)); go_simp; first | ((with_reducible refine hK _ ?_); clear hK K) | (apply Exists.intro; (with_reducible refine ⟨fun w' hw' => ?_, hK _ ?_⟩); ((obtain ⟨⟨f0, f1, f2⟩, f3, f4, f5⟩ := hw'.lc; have f6 := hw'.conv; obtain ⟨g0, g1, g2⟩ := hw'.sc; go_simp; first | exact rfl | exact ⟨rfl, rfl⟩)); clear hK K))
  ((with_reducible refine wpRead_step (fun K hK => ?_)); go_simp; first | ((with_reducible refine hK _ ?_); clear hK K) | (apply Exists.intro; (with_reducible refine ⟨fun w' hw' => ?_, hK _ ?_⟩); ((obtain ⟨⟨f0, f1, f2⟩, f3, f4, f5⟩ := hw'.lc; have f6 := hw'.conv; obtain ⟨g0, g1, g2⟩ := hw'.sc; go_simp; first | exact rfl | exact ⟨rfl, rfl⟩)); clear hK K))
  with_reducible refine wpRead_nil ?_
  refine held_one 57 (by kernel_rfl) ?_
  simp only [pick, List.getD_cons_zero, List.getD_cons_succ]
  go_wp2_with fail
  refine (ncheck_any F12.out.2.1 true).mono ?_
  rintro e WE ⟨rfl, hb⟩
  have F13 := Lib.hid (And.intro (bcall F12.out.1 (Nat.le_refl _) hb) (And.intro (F12.out.2.1.keep hb) (And.intro (F12.out.2.2.1.keep hb) ((F12.out.2.2.2.keep hb)))))
  clear F12
  clear hb
  go_wp2_with fail
  refine ⟨F13.out.2.2.2, ?_⟩
  refine held_reads [58, 59, 60] (g := 0) rfl (by kernel_rfl) F13.out.2.2.2 (fun _ _ d _ _ h => by cases d <;> exact h) ?_
  simp only [pick, List.getD_cons_zero, List.getD_cons_succ]
  ((with_reducible refine wpRead_step (fun K hK => ?_)); go_simp; first | ((with_reducible refine hK _ ?_); clear hK K) | (apply Exists.intro; (with_reducible refine ⟨fun w' hw' => ?_, hK _ ?_⟩); ((obtain ⟨⟨f0, f1, f2⟩, f3, f4, f5⟩ := hw'.lc; have f6 := hw'.conv; obtain ⟨g0, g1, g2⟩ := hw'.sc; go_simp; first | exact rfl | exact ⟨rfl, rfl⟩)); clear hK K))
  ((with_reducible refine wpRead_step (fun K hK => ?_)); go_simp; first | ((with_reducible refine hK _ ?_); clear hK K) | (apply Exists.intro; (with_reducible refine ⟨fun w' hw' => ?_, hK _ ?_⟩); ((obtain ⟨⟨f0, f1, f2⟩, f3, f4, f5⟩ := hw'.lc; have f6 := hw'.conv; obtain ⟨g0, g1, g2⟩ := hw'.sc; go_simp; first | exact rfl | exact ⟨rfl, rfl⟩)); clear hK K))
  ((with_reducible refine wpRead_step (fun K hK => ?_)); go_simp; first | ((with_reducible refine hK _ ?_); clear hK K) | (apply Exists.intro; (with_reducible refine ⟨fun w' hw' => ?_, hK _ ?_⟩); ((obtain ⟨⟨f0, f1, f2⟩, f3, f4, f5⟩ := hw'.lc; have f6 := hw'.conv; obtain ⟨g0, g1, g2⟩ := hw'.sc; go_simp; first | exact rfl | exact ⟨rfl, rfl⟩)); clear hK K))
  with_reducible refine wpRead_nil ?_
  refine wpAnyH_done (by kernel_rfl) ?_ _
  go_wp2_with fail
  go_ret
  exact ⟨rfl, F13.out.1⟩
end Go.Proofs.Ytpjfgfdpngibgaa
/- NlriGets. -/
namespace Go.Proofs.Ytpjfgfdpngibgaa
open Go.RowKit

set_option maxRecDepth 100000 in
set_option maxHeartbeats 8000000 in
theorem gets_law (paths : Bool) {w : World} {oa : Option Addr} {n c : Nat} {l : List Nat} (h : BT w oa n c l) (hby : Bytes l) : Calls Try.prog 4 #[.slice oa n c, .bool paths] w fun e w' => e = .returned (.bool true) ∧ Below w.heap.size w w' := by
  have F0 := Lib.hid (And.intro h hby)
  clear h hby
  go_enter Try.func4, Try.ntmps4
  by_cases hbig : 6000 < n
  · have h1 : ((6000 : Int) < (n : Int)) = True := by simp; omega
    clear hbig
    go_wp2_with fail
    refine (lives06 _).mono ?_
    rintro e W1 ⟨rfl, hb⟩
    have HB := Lib.hid hb
    clear hb
    go_wp2_with fail
    go_ret
    exact ⟨rfl, HB.out⟩
  · have h1 : ((6000 : Int) < (n : Int)) = False := by simp; omega
    have hn : n ≤ 100000 := by omega
    have HN := Lib.hid hn
    clear hbig hn
    go_wp2_with fail
    refine (nget_any paths F0.out.1 F0.out.2 HN.out).mono ?_
    rintro e W1 ⟨⟨v, rfl, hr⟩, hb⟩
    have F1 := Lib.hid (And.intro (F0.out.1.keep hb) hb)
    cases hg : getA paths l 0 with
    | none =>
      rw [hg] at hr
      subst hr
      have HG := Lib.hid hg
      clear hg hb
      go_wp2_with fail
      refine (rget06 paths F1.out.1 F0.out.2 HN.out).mono ?_
      rw [HG.out]
      rintro e W2 ⟨⟨v, rfl, rfl⟩, hb⟩
      have B2 := Lib.hid (bcall F1.out.2 (Nat.le_refl _) hb)
      clear hb
      go_wp2_with fail
      refine (lives06 _).mono ?_
      rintro e W3 ⟨rfl, hb⟩
      have B3 := Lib.hid (bcall B2.out (Nat.le_refl _) hb)
      clear hb
      go_wp2_with fail
      refine (nsame_any (l := []) Rep.sl_nil Rep.sl_nil).mono ?_
      rintro e W4 ⟨rfl, hb⟩
      have B4 := Lib.hid (bcall B3.out (Nat.le_refl _) hb)
      clear hb
      go_wp2_with fail
      go_ret
      exact ⟨rfl, B4.out⟩
    | some L =>
      rw [hg] at hr
      obtain ⟨v2, rfl, ho, -, -⟩ := hr
      obtain ⟨oa2, c2, rfl, hs, -⟩ := ho.sl0
      have HG := Lib.hid hg
      obtain ⟨m, hm⟩ : ∃ m, L.length = m := ⟨_, rfl⟩
      have HM := Lib.hid hm
      rw [hm] at hs ⊢
      have F2 := Lib.hid hs
      clear hg hb ho hs hm
      go_wp2_with fail
      refine (rget06 paths F1.out.1 F0.out.2 HN.out).mono ?_
      rw [HG.out]
      rintro e W2 ⟨⟨v, rfl, v3, rfl, ho, -, -⟩, hb⟩
      obtain ⟨oa3, c3, rfl, hs, -⟩ := ho.sl0
      rw [HM.out] at hs ⊢
      have F3 := Lib.hid (And.intro (F2.out.keep hb) (And.intro hs (bcall F1.out.2 (Nat.le_refl _) hb)))
      clear hb ho hs
      go_wp2_with fail
      refine (lives06 _).mono ?_
      rintro e W3 ⟨rfl, hb⟩
      have F4 := Lib.hid (And.intro (F3.out.1.keep hb) (And.intro (F3.out.2.1.keep hb) (bcall F3.out.2.2 (Nat.le_refl _) hb)))
      clear hb
      go_wp2_with fail
      refine (nsame_any F4.out.1 F4.out.2.1).mono ?_
      rintro e W4 ⟨rfl, hb⟩
      have B4 := Lib.hid (bcall F4.out.2.2 (Nat.le_refl _) hb)
      clear hb
      go_wp2_with fail
      go_ret
      exact ⟨rfl, B4.out⟩
end Go.Proofs.Ytpjfgfdpngibgaa
