/- CapaLimits: the law's walk. -/
import Derived.Test.YtlkbaplfffbmkaaKal
namespace Go.Proofs.Ytlkbaplfffbmkaa
open Go.RowKit

theorem thou_mono {a b : Int} (h : a ≤ b) : thou a ≤ thou b := by unfold thou; omega
theorem lim_mono {r : Cy} {a b : Int} (h : a ≤ b) : limB true r a ≤ limB true r b := by
  cases hd : r.dr with
  | true => rw [lim_dr hd, lim_dr hd]; exact Int.le_refl _
  | false =>
    rw [lim_yes hd, lim_yes hd]
    have := Nat.mul_le_mul_left r.cp.toNat (thou_mono h)
    generalize r.cp.toNat * thou a = u at *
    generalize r.cp.toNat * thou b = v at *
    omega
theorem lim_le {r : Cy} (h : CpOk r) (a : Int) : limB true r a ≤ r.cp := by
  obtain ⟨h1, -⟩ := h
  cases hd : r.dr with
  | true => rw [lim_dr hd]; exact h1
  | false =>
    rw [lim_yes hd]
    have := Nat.mul_le_mul_left r.cp.toNat (thou_le a)
    generalize r.cp.toNat * thou a = u at *
    omega
theorem lim_all {r : Cy} (h : CpOk r) (hd : r.dr = false) : limB true r 1000 = r.cp := by
  obtain ⟨h1, -⟩ := h
  rw [lim_yes hd, show thou 1000 = 1000 from rfl]
  omega
theorem ctake_nil (src seq now : Int) (oa : Option Addr) (n c : Nat) (w : World) : Calls Try.prog 27 #[.pointer none, .agg #[.int .i64 src, .int .i64 seq, .slice oa n c], .int .i64 now] w fun e w' => e = .returned (.int .i64 6) ∧ Below w.heap.size w w' := by
  have HB := Lib.hid ((Below.refl w.heap.size w).alloc (Nat.le_refl _) (.cells #[.int .i64 src, .int .i64 seq, .slice oa n c] 55))
  go_enter Try.func27, Try.ntmps27
  go_wp2_with fail
  refine (made_nil _).mono ?_
  rintro e W1 ⟨rfl, rfl⟩
  go_wp2_with fail
  go_ret
  exact ⟨rfl, HB.out⟩
theorem sl_if1 {w : World} {b : Nat} {x : If} (h : IfS b x w) (ha : x.ad < 4294967296) : Ifs w (some ⟨b, 0, none⟩) 1 1 [x] :=
  ⟨⟨rfl, by unfold maxLen; omega, fun _ => ⟨b, 0, rfl, rowOf (R := RIf) (L := [x]) h rfl⟩⟩, fun y hy => by
    rw [List.mem_singleton] at hy; rw [hy]; exact ha⟩
set_option maxRecDepth 100000 in
set_option maxHeartbeats 8000000 in
theorem climits_law {w : World} {id r0 ln cp : Int} {ad : Nat} (had : ad < 4294967296) (hid : IN.ok id) (hnn : (Lit.int .i64 ln).wf = true) (a b : Int) (drain : Bool) : Calls Try.prog 9 #[.agg #[.int .i64 id, .int .i64 r0, .int .u32 (ad : Int), .int .i64 ln, .int .i64 cp], .int .i64 a, .int .i64 b, .bool drain] w fun e w' => e = .returned (.bool true) ∧ Below w.heap.size w w' := by
  have hal := ((Below.refl w.heap.size w).alloc (Nat.le_refl _) (.cells #[.int .i64 id, .int .i64 0, .int .u32 (ad : Int), .int .i64 ln, .int .i64 cp] 34)).alloc (by simp) (.cells #[.int .i64 id, .int .i64 0, .int .u32 (ad : Int), .int .i64 ln, .int .i64 cp] 34)
  have hx0 : IfS w.heap.size (⟨id, 0, ad, ln, cp⟩ : If) ((w.alloc (.cells #[.int .i64 id, .int .i64 0, .int .u32 (ad : Int), .int .i64 ln, .int .i64 cp] 34)).alloc (.cells #[.int .i64 id, .int .i64 0, .int .u32 (ad : Int), .int .i64 ln, .int .i64 cp] 34)) := hold (hnew _ _)
  have hx1 : IfS (w.heap.size + 1) (⟨id, 0, ad, ln, cp⟩ : If) ((w.alloc (.cells #[.int .i64 id, .int .i64 0, .int .u32 (ad : Int), .int .i64 ln, .int .i64 cp] 34)).alloc (.cells #[.int .i64 id, .int .i64 0, .int .u32 (ad : Int), .int .i64 ln, .int .i64 cp] 34)) := hnewAt (by simp)
  have F0 := Lib.hid (And.intro hal (And.intro hx0 hx1))
  clear hal hx0 hx1
  obtain ⟨bg, hbg⟩ : ∃ bg, goodB [(⟨id, 0, ad, ln, cp⟩ : If)] = bg := ⟨_, rfl⟩
  have HBG := Lib.hid hbg
  have HAD := Lib.hid had
  have HID := Lib.hid hid
  have HLN := Lib.hid hnn
  clear hbg had hid hnn
  cases bg with
  | false =>
    go_enter Try.func9, Try.ntmps9
    go_wp2_with fail
    obtain ⟨q0, hq0⟩ : ∃ q, w.heap.size = q := ⟨_, rfl⟩
    rw [hq0]
    obtain ⟨W0, hW0⟩ : ∃ W, (w.alloc (.cells #[.int .i64 id, .int .i64 0, .int .u32 (ad : Int), .int .i64 ln, .int .i64 cp] 34)).alloc (.cells #[.int .i64 id, .int .i64 0, .int .u32 (ad : Int), .int .i64 ln, .int .i64 cp] 34) = W := ⟨_, rfl⟩
    rw [hW0]
    have F00 := Lib.hid (show Below w.heap.size w W0 ∧ IfS q0 (⟨id, 0, ad, ln, cp⟩ : If) W0 ∧ IfS (q0 + 1) (⟨id, 0, ad, ln, cp⟩ : If) W0 from hq0 ▸ hW0 ▸ F0.out)
    clear hq0 hW0 F0
    have hch := rchk_is (sl_if1 F00.out.2.2 HAD.out)
    rw [HBG.out] at hch
    refine hch.mono ?_
    rintro e W1 ⟨rfl, hb1⟩
    have F1 := Lib.hid (And.intro (bcall F00.out.1 (Nat.le_refl _) hb1) (And.intro (F00.out.2.1.on hb1) (F00.out.2.2.on hb1)))
    clear hb1 hch F00
    go_wp2_with fail
    refine (lives18 _).mono ?_
    rintro e W2 ⟨rfl, hb2⟩
    have F2 := Lib.hid (bcall F1.out.1 (Nat.le_refl _) hb2)
    clear hb2 F1
    go_wp2_with fail
    go_ret
    exact ⟨rfl, F2.out⟩
  | true =>
    by_cases hab : b < a
    · have hab1 : (b < a) = True := by simp [hab]
      clear hab
      go_enter Try.func9, Try.ntmps9
      go_wp2_with fail
      obtain ⟨q0, hq0⟩ : ∃ q, w.heap.size = q := ⟨_, rfl⟩
      rw [hq0]
      obtain ⟨W0, hW0⟩ : ∃ W, (w.alloc (.cells #[.int .i64 id, .int .i64 0, .int .u32 (ad : Int), .int .i64 ln, .int .i64 cp] 34)).alloc (.cells #[.int .i64 id, .int .i64 0, .int .u32 (ad : Int), .int .i64 ln, .int .i64 cp] 34) = W := ⟨_, rfl⟩
      rw [hW0]
      have F00 := Lib.hid (show Below w.heap.size w W0 ∧ IfS q0 (⟨id, 0, ad, ln, cp⟩ : If) W0 ∧ IfS (q0 + 1) (⟨id, 0, ad, ln, cp⟩ : If) W0 from hq0 ▸ hW0 ▸ F0.out)
      clear hq0 hW0 F0
      have hch := rchk_is (sl_if1 F00.out.2.2 HAD.out)
      rw [HBG.out] at hch
      refine hch.mono ?_
      rintro e W1 ⟨rfl, hb1⟩
      have F1 := Lib.hid (And.intro (bcall F00.out.1 (Nat.le_refl _) hb1) (And.intro (F00.out.2.1.on hb1) (F00.out.2.2.on hb1)))
      clear hb1 hch F00
      go_wp2_with fail
      refine (lives18 _).mono ?_
      rintro e W2 ⟨rfl, hb2⟩
      have F2 := Lib.hid (bcall F1.out.1 (Nat.le_refl _) hb2)
      clear hb2 F1
      go_wp2_with fail
      go_ret
      exact ⟨rfl, F2.out⟩
    have hab1 : (b < a) = False := by simp; omega
    have HG := Lib.hid (good_iff.1 HBG.out)
    have hokx := okI_iff.1 (HG.out.ok (⟨id, 0, ad, ln, cp⟩ : If) (by simp))
    have HCP := Lib.hid (show CpOk ⟨id, cp, false⟩ from hokx.2.2.2.2.2)
    have HID2 := Lib.hid (show 0 ≤ id ∧ id ≤ 4294967295 from ⟨hokx.1, hokx.2.1⟩)
    have hm1 := lim_mono (r := ⟨id, cp, false⟩) (a := a) (b := b) (by omega)
    have hm2 := lim_le HCP.out b
    have hm3 := lim_all HCP.out rfl
    obtain ⟨la, hla⟩ : ∃ la, limB true ⟨id, cp, false⟩ a = la := ⟨_, rfl⟩
    obtain ⟨lb, hlb⟩ : ∃ lb, limB true ⟨id, cp, false⟩ b = lb := ⟨_, rfl⟩
    have hm2' : limB true ⟨id, cp, false⟩ b ≤ cp := hm2
    rw [hla, hlb] at hm1
    rw [hlb] at hm2'
    have hc1 : (lb < la) = False := by simp; omega
    have hc2 : (cp < lb) = False := by simp; omega
    have HLIM := Lib.hid (And.intro hla (And.intro hlb (show limB true ⟨id, cp, false⟩ 1000 = cp from hm3)))
    clear hab hokx hm1 hm2 hm2' hm3 hla hlb HBG
    go_enter Try.func9, Try.ntmps9
    go_wp2_with fail
    obtain ⟨q0, hq0⟩ : ∃ q, w.heap.size = q := ⟨_, rfl⟩
    rw [hq0]
    obtain ⟨W0, hW0⟩ : ∃ W, (w.alloc (.cells #[.int .i64 id, .int .i64 0, .int .u32 (ad : Int), .int .i64 ln, .int .i64 cp] 34)).alloc (.cells #[.int .i64 id, .int .i64 0, .int .u32 (ad : Int), .int .i64 ln, .int .i64 cp] 34) = W := ⟨_, rfl⟩
    rw [hW0]
    have F00 := Lib.hid (show Below w.heap.size w W0 ∧ IfS q0 (⟨id, 0, ad, ln, cp⟩ : If) W0 ∧ IfS (q0 + 1) (⟨id, 0, ad, ln, cp⟩ : If) W0 from hq0 ▸ hW0 ▸ F0.out)
    clear hq0 hW0 F0
    have hch := rchk_is (sl_if1 F00.out.2.2 HAD.out)
    rw [good_iff.2 HG.out] at hch
    refine hch.mono ?_
    rintro e W1 ⟨rfl, hb1⟩
    have F1 := Lib.hid (And.intro (bcall F00.out.1 (Nat.le_refl _) hb1) (And.intro (F00.out.2.1.on hb1) (F00.out.2.2.on hb1)))
    clear hb1 hch F00
    go_wp2_with fail
    refine (hnew_ok (sl_if1 F1.out.2.2 HAD.out) HG.out).mono ?_
    rintro e W2 ⟨h, rfl, hH, hb2⟩
    have F2 := Lib.hid (And.intro (bcall F1.out.1 (Nat.le_refl _) hb2) (And.intro (F1.out.2.1.on hb2) hH))
    clear hb2 F1 hH
    go_wp2_with fail
    refine (cnew_S F2.out.2.2).mono ?_
    rintro e W3 ⟨c, bm, rfl, hC⟩
    have HX := Lib.hid (And.intro F2.out.1.size (And.intro hC.hc (And.intro hC.hm (lt_of_blk F2.out.2.1))))
    have F3 := Lib.hid (And.intro (F2.out.1.trans (hC.bel.mono F2.out.1.size)) (And.intro (show IfS q0 (⟨id, 0, ad, ln, cp⟩ : If) W3 from (hC.bel.block _ (lt_of_blk F2.out.2.1)).trans F2.out.2.1) hC))
    clear hC F2
    go_wp2_with fail
    refine (lives18 _).mono ?_
    rintro e W4 ⟨rfl, hb⟩
    have F4 := Lib.hid (And.intro (bcall F3.out.1 (Nat.le_refl _) hb) (And.intro (F3.out.2.1.on hb) (F3.out.2.2.keep hb)))
    clear hb F3
    go_wp2_with fail
    have hget : (hdOf [(⟨id, 0, ad, ln, cp⟩ : If)]).get id = some (⟨id, 0, ad, ln, cp⟩ : If) := get_of HG.out (x := (⟨id, 0, ad, ln, cp⟩ : If)) (by simp)
    have hcg : CGet (hdOf [(⟨id, 0, ad, ln, cp⟩ : If)]) (fun _ => none) id = if true then some ⟨id, cp, false⟩ else none := by unfold CGet; rw [hget]; rfl
    have HGET := Lib.hid (And.intro hget hcg)
    clear hget hcg
    refine wp_region_heldP (IfS q0 (⟨id, 0, ad, ln, cp⟩ : If)) (by kernel_rfl) ?_
    have hd := (Below.refl W4.heap.size W4).drew
    have F5 := Lib.hid (And.intro (bcall F4.out.1 (Nat.le_refl _) hd) (And.intro (F4.out.2.1.on hd) (F4.out.2.2.keep hd)))
    clear hd F4
    generalize W4.drew = W5 at *
    refine held_reads [0, 1, 2, 3, 5, 6, 7, 8] (g := 22) rfl (by kernel_rfl) F5.out.2.1 (fun _ _ d _ _ h => by cases d <;> exact h) ?_
    simp only [pick, List.getD_cons_zero, List.getD_cons_succ]
    ((with_reducible refine wpRead_step (fun K hK => ?_)); go_simp; first | ((with_reducible refine hK _ ?_); clear hK K) | (apply Exists.intro; (with_reducible refine ⟨fun w' hw' => ?_, hK _ ?_⟩); (first | exact rfl | exact ⟨rfl, rfl⟩); clear hK K))
    ((with_reducible refine wpRead_step (fun K hK => ?_)); go_simp; first | ((with_reducible refine hK _ ?_); clear hK K) | (apply Exists.intro; (with_reducible refine ⟨fun w' hw' => ?_, hK _ ?_⟩); (first | exact rfl | exact ⟨rfl, rfl⟩); clear hK K))
    ((with_reducible refine wpRead_step (fun K hK => ?_)); go_simp; first | ((with_reducible refine hK _ ?_); clear hK K) | (apply Exists.intro; (with_reducible refine ⟨fun w' hw' => ?_, hK _ ?_⟩); (obtain ⟨f0, f1, f2, f3, f4⟩ := IfS.cells hw'; go_simp; first | exact rfl | exact ⟨rfl, rfl⟩); clear hK K))
    ((with_reducible refine wpRead_step (fun K hK => ?_)); go_simp; first | ((with_reducible refine hK _ ?_); clear hK K) | (apply Exists.intro; (with_reducible refine ⟨fun w' hw' => ?_, hK _ ?_⟩); (first | exact rfl | exact ⟨rfl, rfl⟩); clear hK K))
    ((with_reducible refine wpRead_step (fun K hK => ?_)); go_simp; first | ((with_reducible refine hK _ ?_); clear hK K) | (apply Exists.intro; (with_reducible refine ⟨fun w' hw' => ?_, hK _ ?_⟩); (first | exact rfl | exact ⟨rfl, rfl⟩); clear hK K))
    ((with_reducible refine wpRead_step (fun K hK => ?_)); go_simp; first | ((with_reducible refine hK _ ?_); clear hK K) | (apply Exists.intro; (with_reducible refine ⟨fun w' hw' => ?_, hK _ ?_⟩); (first | exact rfl | exact ⟨rfl, rfl⟩); clear hK K))
    ((with_reducible refine wpRead_step (fun K hK => ?_)); go_simp; first | ((with_reducible refine hK _ ?_); clear hK K) | (apply Exists.intro; (with_reducible refine ⟨fun w' hw' => ?_, hK _ ?_⟩); (obtain ⟨f0, f1, f2, f3, f4⟩ := IfS.cells hw'; go_simp; first | exact rfl | exact ⟨rfl, rfl⟩); clear hK K))
    ((with_reducible refine wpRead_step (fun K hK => ?_)); go_simp; first | ((with_reducible refine hK _ ?_); clear hK K) | (apply Exists.intro; (with_reducible refine ⟨fun w' hw' => ?_, hK _ ?_⟩); (first | exact rfl | exact ⟨rfl, rfl⟩); clear hK K))
    with_reducible refine wpRead_nil ?_
    have hl := limit_any (p := a) F5.out.2.2.at HID.out _ true HGET.out.2 (fun h => by cases h) HCP.out
    rw [HLIM.out.1] at hl
    have HLL := Lib.hid hl
    clear hl
    refine held_one 4 (by kernel_rfl) ?_
    simp only [pick, List.getD_cons_zero, List.getD_cons_succ]
    go_wp2_with fail
    refine HLL.out.mono ?_
    rintro e W6 ⟨rfl, hb⟩
    have F6 := Lib.hid (And.intro (bcall F5.out.1 (Nat.le_refl _) hb) (And.intro (F5.out.2.1.on hb) (F5.out.2.2.keep hb)))
    clear hb F5 HLL
    go_wp2_with fail
    refine ⟨F6.out.2.1, ?_⟩
    have hl := limit_any (p := b) F6.out.2.2.at HID.out _ true HGET.out.2 (fun h => by cases h) HCP.out
    rw [HLIM.out.2.1] at hl
    have HLL := Lib.hid hl
    clear hl
    refine held_one 9 (by kernel_rfl) ?_
    simp only [pick, List.getD_cons_zero, List.getD_cons_succ]
    go_wp2_with fail
    refine HLL.out.mono ?_
    rintro e W7 ⟨rfl, hb⟩
    have F7 := Lib.hid (And.intro (bcall F6.out.1 (Nat.le_refl _) hb) (And.intro (F6.out.2.1.on hb) (F6.out.2.2.keep hb)))
    clear hb F6 HLL
    go_wp2_with fail
    refine ⟨F7.out.2.1, ?_⟩
    refine held_reads [10, 11, 12, 13, 14, 15, 17, 18] (g := 12) rfl (by kernel_rfl) F7.out.2.1 (fun _ _ d _ _ h => by cases d <;> exact h) ?_
    simp only [pick, List.getD_cons_zero, List.getD_cons_succ]
    ((with_reducible refine wpRead_step (fun K hK => ?_)); go_simp; first | ((with_reducible refine hK _ ?_); clear hK K) | (apply Exists.intro; (with_reducible refine ⟨fun w' hw' => ?_, hK _ ?_⟩); (first | exact rfl | exact ⟨rfl, rfl⟩); clear hK K))
    ((with_reducible refine wpRead_step (fun K hK => ?_)); go_simp; first | ((with_reducible refine hK _ ?_); clear hK K) | (apply Exists.intro; (with_reducible refine ⟨fun w' hw' => ?_, hK _ ?_⟩); (first | exact rfl | exact ⟨rfl, rfl⟩); clear hK K))
    ((with_reducible refine wpRead_step (fun K hK => ?_)); go_simp; first | ((with_reducible refine hK _ ?_); clear hK K) | (apply Exists.intro; (with_reducible refine ⟨fun w' hw' => ?_, hK _ ?_⟩); (first | exact rfl | exact ⟨rfl, rfl⟩); clear hK K))
    ((with_reducible refine wpRead_step (fun K hK => ?_)); go_simp; first | ((with_reducible refine hK _ ?_); clear hK K) | (apply Exists.intro; (with_reducible refine ⟨fun w' hw' => ?_, hK _ ?_⟩); (first | exact rfl | exact ⟨rfl, rfl⟩); clear hK K))
    ((with_reducible refine wpRead_step (fun K hK => ?_)); go_simp; first | ((with_reducible refine hK _ ?_); clear hK K) | (apply Exists.intro; (with_reducible refine ⟨fun w' hw' => ?_, hK _ ?_⟩); (obtain ⟨f0, f1, f2, f3, f4⟩ := IfS.cells hw'; go_simp; first | exact rfl | exact ⟨rfl, rfl⟩); clear hK K))
    ((with_reducible refine wpRead_step (fun K hK => ?_)); go_simp; first | ((with_reducible refine hK _ ?_); clear hK K) | (apply Exists.intro; (with_reducible refine ⟨fun w' hw' => ?_, hK _ ?_⟩); (first | exact rfl | exact ⟨rfl, rfl⟩); clear hK K))
    ((with_reducible refine wpRead_step (fun K hK => ?_)); go_simp; first | ((with_reducible refine hK _ ?_); clear hK K) | (apply Exists.intro; (with_reducible refine ⟨fun w' hw' => ?_, hK _ ?_⟩); (first | exact rfl | exact ⟨rfl, rfl⟩); clear hK K))
    ((with_reducible refine wpRead_step (fun K hK => ?_)); go_simp; first | ((with_reducible refine hK _ ?_); clear hK K) | (apply Exists.intro; (with_reducible refine ⟨fun w' hw' => ?_, hK _ ?_⟩); (obtain ⟨f0, f1, f2, f3, f4⟩ := IfS.cells hw'; go_simp; first | exact rfl | exact ⟨rfl, rfl⟩); clear hK K))
    with_reducible refine wpRead_nil ?_
    have hl := limit_any (p := b) F7.out.2.2.at HID.out _ true HGET.out.2 (fun h => by cases h) HCP.out
    rw [HLIM.out.2.1] at hl
    have HLL := Lib.hid hl
    clear hl
    refine held_one 16 (by kernel_rfl) ?_
    simp only [pick, List.getD_cons_zero, List.getD_cons_succ]
    go_wp2_with fail
    refine HLL.out.mono ?_
    rintro e W8 ⟨rfl, hb⟩
    have F8 := Lib.hid (And.intro (bcall F7.out.1 (Nat.le_refl _) hb) (And.intro (F7.out.2.1.on hb) (F7.out.2.2.keep hb)))
    clear hb F7 HLL
    go_wp2_with fail
    refine ⟨F8.out.2.1, ?_⟩
    refine held_reads [19, 20, 21, 22, 23, 24, 26, 27] (g := 3) rfl (by kernel_rfl) F8.out.2.1 (fun _ _ d _ _ h => by cases d <;> exact h) ?_
    simp only [pick, List.getD_cons_zero, List.getD_cons_succ]
    ((with_reducible refine wpRead_step (fun K hK => ?_)); go_simp; first | ((with_reducible refine hK _ ?_); clear hK K) | (apply Exists.intro; (with_reducible refine ⟨fun w' hw' => ?_, hK _ ?_⟩); (first | exact rfl | exact ⟨rfl, rfl⟩); clear hK K))
    ((with_reducible refine wpRead_step (fun K hK => ?_)); go_simp; first | ((with_reducible refine hK _ ?_); clear hK K) | (apply Exists.intro; (with_reducible refine ⟨fun w' hw' => ?_, hK _ ?_⟩); (first | exact rfl | exact ⟨rfl, rfl⟩); clear hK K))
    ((with_reducible refine wpRead_step (fun K hK => ?_)); go_simp; first | ((with_reducible refine hK _ ?_); clear hK K) | (apply Exists.intro; (with_reducible refine ⟨fun w' hw' => ?_, hK _ ?_⟩); (first | exact rfl | exact ⟨rfl, rfl⟩); clear hK K))
    ((with_reducible refine wpRead_step (fun K hK => ?_)); go_simp; first | ((with_reducible refine hK _ ?_); clear hK K) | (apply Exists.intro; (with_reducible refine ⟨fun w' hw' => ?_, hK _ ?_⟩); (first | exact rfl | exact ⟨rfl, rfl⟩); clear hK K))
    ((with_reducible refine wpRead_step (fun K hK => ?_)); go_simp; first | ((with_reducible refine hK _ ?_); clear hK K) | (apply Exists.intro; (with_reducible refine ⟨fun w' hw' => ?_, hK _ ?_⟩); (first | exact rfl | exact ⟨rfl, rfl⟩); clear hK K))
    ((with_reducible refine wpRead_step (fun K hK => ?_)); go_simp; first | ((with_reducible refine hK _ ?_); clear hK K) | (apply Exists.intro; (with_reducible refine ⟨fun w' hw' => ?_, hK _ ?_⟩); (obtain ⟨f0, f1, f2, f3, f4⟩ := IfS.cells hw'; go_simp; first | exact rfl | exact ⟨rfl, rfl⟩); clear hK K))
    ((with_reducible refine wpRead_step (fun K hK => ?_)); go_simp; first | ((with_reducible refine hK _ ?_); clear hK K) | (apply Exists.intro; (with_reducible refine ⟨fun w' hw' => ?_, hK _ ?_⟩); (first | exact rfl | exact ⟨rfl, rfl⟩); clear hK K))
    ((with_reducible refine wpRead_step (fun K hK => ?_)); go_simp; first | ((with_reducible refine hK _ ?_); clear hK K) | (apply Exists.intro; (with_reducible refine ⟨fun w' hw' => ?_, hK _ ?_⟩); (obtain ⟨f0, f1, f2, f3, f4⟩ := IfS.cells hw'; go_simp; first | exact rfl | exact ⟨rfl, rfl⟩); clear hK K))
    with_reducible refine wpRead_nil ?_
    have hl := limit_any (p := 1000) F8.out.2.2.at HID.out _ true HGET.out.2 (fun h => by cases h) HCP.out
    rw [HLIM.out.2.2] at hl
    have HLL := Lib.hid hl
    clear hl
    refine held_one 25 (by kernel_rfl) ?_
    simp only [pick, List.getD_cons_zero, List.getD_cons_succ]
    go_wp2_with fail
    refine HLL.out.mono ?_
    rintro e W9 ⟨rfl, hb⟩
    have F9 := Lib.hid (And.intro (bcall F8.out.1 (Nat.le_refl _) hb) (And.intro (F8.out.2.1.on hb) (F8.out.2.2.keep hb)))
    clear hb F8 HLL
    go_wp2_with fail
    refine ⟨F9.out.2.1, ?_⟩
    refine held_reads [28, 29] (g := 0) rfl (by kernel_rfl) F9.out.2.1 (fun _ _ d _ _ h => by cases d <;> exact h) ?_
    simp only [pick, List.getD_cons_zero, List.getD_cons_succ]
    ((with_reducible refine wpRead_step (fun K hK => ?_)); go_simp; first | ((with_reducible refine hK _ ?_); clear hK K) | (apply Exists.intro; (with_reducible refine ⟨fun w' hw' => ?_, hK _ ?_⟩); (first | exact rfl | exact ⟨rfl, rfl⟩); clear hK K))
    ((with_reducible refine wpRead_step (fun K hK => ?_)); go_simp; first | ((with_reducible refine hK _ ?_); clear hK K) | (apply Exists.intro; (with_reducible refine ⟨fun w' hw' => ?_, hK _ ?_⟩); (first | exact rfl | exact ⟨rfl, rfl⟩); clear hK K))
    with_reducible refine wpRead_nil ?_
    refine wpAnyH_done (by kernel_rfl) ?_ _
    have hyc : takeE (hdOf [(⟨id, 0, ad, ln, cp⟩ : If)]) T0 0 0 0 [⟨id, cp, drain⟩] = 0 := by
      have ho : okCs 0 0 [⟨id, cp, drain⟩] = true := okCs_true ⟨by decide, by decide, by simp⟩ (by simp only [List.all_cons, List.all_nil, Bool.and_true]; exact okC_true ⟨HID2.out, HCP.out⟩) (by simp)
      unfold takeE
      rw [ho, show allIn (hdOf [(⟨id, 0, ad, ln, cp⟩ : If)]) [⟨id, cp, drain⟩] = true by simp [allIn, HGET.out.1]]
      rfl
    have hal := (Below.refl W9.heap.size W9).alloc (Nat.le_refl _) (.cells #[.int .i64 id, .int .i64 cp, .bool drain] 69)
    have hlb : CyS W9.heap.size ⟨id, cp, drain⟩ (W9.alloc (.cells #[.int .i64 id, .int .i64 cp, .bool drain] 69)) := hnew _ _
    have F10 := Lib.hid (And.intro (bcall F9.out.1 (Nat.le_refl _) hal) (And.intro (F9.out.2.1.on hal) (And.intro (F9.out.2.2.keep hal) (And.intro hlb (And.intro (show W9.heap.size ≠ c from Nat.ne_of_gt F9.out.2.2.lc.1) (show W9.heap.size ≠ bm from Nat.ne_of_gt F9.out.2.2.lc.2))))))
    have HYC := Lib.hid hyc
    obtain ⟨z0, z1, z2, z3, z4⟩ := F9.out.2.1.cells
    clear hal hlb hyc F9
    go_wp2_with fail
    clear z0 z1 z2 z3 z4
    generalize W9.alloc (.cells #[.int .i64 id, .int .i64 cp, .bool drain] 69) = W10 at *
    generalize W9.heap.size = q9 at *
    refine (ctake_any F10.out.2.2.1 (cys_row (L := [⟨id, cp, drain⟩]) F10.out.2.2.2.1 rfl (by simp) (fun y hy => by
      rw [List.mem_singleton] at hy; subst hy; exact HID.out)) (by rintro - b o e; injection e with e; injection e with e1; subst e1; exact F10.out.2.2.2.2) 0).mono ?_
    rintro e W11 ⟨rfl, hT⟩
    have hcap := hT.cap
    rw [if_pos (show takeE (hdOf [(⟨id, 0, ad, ln, cp⟩ : If)]) (fun _ => (0, 0, false)) 0 0 0 [⟨id, cp, drain⟩] = 0 from HYC.out), if_pos (show takeE (hdOf [(⟨id, 0, ad, ln, cp⟩ : If)]) (fun _ => (0, 0, false)) 0 0 0 [⟨id, cp, drain⟩] = 0 from HYC.out)] at hcap
    rw [show takeE (hdOf [(⟨id, 0, ad, ln, cp⟩ : If)]) (fun _ => (0, 0, false)) 0 0 0 [⟨id, cp, drain⟩] = 0 from HYC.out]
    have hbw : Below w.heap.size w W11 := Below.step F10.out.1 F10.out.1.size hT.but (by simp; exact ⟨Nat.le_trans HX.out.1 HX.out.2.1, Nat.le_trans HX.out.1 HX.out.2.2.1⟩)
    have hx0 : IfS q0 (⟨id, 0, ad, ln, cp⟩ : If) W11 := (hT.but.block _ (lt_of_blk F10.out.2.1) (by simp; have := HX.out; omega)).trans F10.out.2.1
    have hcg : CGet (hdOf [(⟨id, 0, ad, ln, cp⟩ : If)]) (sayAll (fun _ => none) [⟨id, cp, drain⟩]) id = if true then some ⟨id, cp, drain⟩ else none := by
      unfold CGet; rw [HGET.out.1]; simp [sayAll, say]
    have F11 := Lib.hid (And.intro hbw (And.intro hx0 hcap.at))
    have HCG := Lib.hid hcg
    clear hT hcap hbw hx0 hcg F10 HYC
    go_wp2_with fail
    refine (get_nil 1 _).mono ?_
    rintro e W12 ⟨rfl, hb⟩
    have hal := (Below.refl W12.heap.size W12).alloc (Nat.le_refl _) (.cells #[.int .i64 0, .int .i64 0, .bool false] 69)
    have hbb := bcall hb (Nat.le_refl _) hal
    have F12 := Lib.hid (And.intro (bcall F11.out.1 (Nat.le_refl _) hbb) (And.intro (F11.out.2.1.on hbb) (F11.out.2.2.keep hbb)))
    clear hb hal hbb F11
    have hldr : limB true ⟨id, cp, true⟩ 1000 = 0 := rfl
    by_cases hcp0 : cp = 0
    · subst hcp0
      cases drain with
      | true =>
        have HL2 := Lib.hid (show limB true ⟨id, 0, true⟩ 1000 = 0 from rfl)
        clear hldr HLIM
        go_wp2_with fail
        generalize W12.alloc (.cells #[.int .i64 0, .int .i64 0, .bool false] 69) = W13 at *
        refine wp_region_heldP (IfS q0 (⟨id, 0, ad, ln, 0⟩ : If)) (by kernel_rfl) ?_
        have hd := (Below.refl W13.heap.size W13).drew
        have F13 := Lib.hid (And.intro (bcall F12.out.1 (Nat.le_refl _) hd) (And.intro (F12.out.2.1.on hd) (F12.out.2.2.keep hd)))
        clear hd F12
        generalize W13.drew = W14 at *
        refine held_reads [0, 1, 2, 3, 4, 5, 7, 8, 10, 11] (g := 31) rfl (by kernel_rfl) F13.out.2.1 (fun _ _ d _ _ h => by cases d <;> exact h) ?_
        simp only [pick, List.getD_cons_zero, List.getD_cons_succ]
        ((with_reducible refine wpRead_step (fun K hK => ?_)); go_simp; first | ((with_reducible refine hK _ ?_); clear hK K) | (apply Exists.intro; (with_reducible refine ⟨fun w' hw' => ?_, hK _ ?_⟩); (first | exact rfl | exact ⟨rfl, rfl⟩); clear hK K))
        ((with_reducible refine wpRead_step (fun K hK => ?_)); go_simp; first | ((with_reducible refine hK _ ?_); clear hK K) | (apply Exists.intro; (with_reducible refine ⟨fun w' hw' => ?_, hK _ ?_⟩); (first | exact rfl | exact ⟨rfl, rfl⟩); clear hK K))
        ((with_reducible refine wpRead_step (fun K hK => ?_)); go_simp; first | ((with_reducible refine hK _ ?_); clear hK K) | (apply Exists.intro; (with_reducible refine ⟨fun w' hw' => ?_, hK _ ?_⟩); (first | exact rfl | exact ⟨rfl, rfl⟩); clear hK K))
        ((with_reducible refine wpRead_step (fun K hK => ?_)); go_simp; first | ((with_reducible refine hK _ ?_); clear hK K) | (apply Exists.intro; (with_reducible refine ⟨fun w' hw' => ?_, hK _ ?_⟩); (first | exact rfl | exact ⟨rfl, rfl⟩); clear hK K))
        ((with_reducible refine wpRead_step (fun K hK => ?_)); go_simp; first | ((with_reducible refine hK _ ?_); clear hK K) | (apply Exists.intro; (with_reducible refine ⟨fun w' hw' => ?_, hK _ ?_⟩); (first | exact rfl | exact ⟨rfl, rfl⟩); clear hK K))
        ((with_reducible refine wpRead_step (fun K hK => ?_)); go_simp; first | ((with_reducible refine hK _ ?_); clear hK K) | (apply Exists.intro; (with_reducible refine ⟨fun w' hw' => ?_, hK _ ?_⟩); (obtain ⟨f0, f1, f2, f3, f4⟩ := IfS.cells hw'; go_simp; first | exact rfl | exact ⟨rfl, rfl⟩); clear hK K))
        ((with_reducible refine wpRead_step (fun K hK => ?_)); go_simp; first | ((with_reducible refine hK _ ?_); clear hK K) | (apply Exists.intro; (with_reducible refine ⟨fun w' hw' => ?_, hK _ ?_⟩); (first | exact rfl | exact ⟨rfl, rfl⟩); clear hK K))
        ((with_reducible refine wpRead_step (fun K hK => ?_)); go_simp; first | ((with_reducible refine hK _ ?_); clear hK K) | (apply Exists.intro; (with_reducible refine ⟨fun w' hw' => ?_, hK _ ?_⟩); (obtain ⟨f0, f1, f2, f3, f4⟩ := IfS.cells hw'; go_simp; first | exact rfl | exact ⟨rfl, rfl⟩); clear hK K))
        ((with_reducible refine wpRead_step (fun K hK => ?_)); go_simp; first | ((with_reducible refine hK _ ?_); clear hK K) | (apply Exists.intro; (with_reducible refine ⟨fun w' hw' => ?_, hK _ ?_⟩); (first | exact rfl | exact ⟨rfl, rfl⟩); clear hK K))
        ((with_reducible refine wpRead_step (fun K hK => ?_)); go_simp; first | ((with_reducible refine hK _ ?_); clear hK K) | (apply Exists.intro; (with_reducible refine ⟨fun w' hw' => ?_, hK _ ?_⟩); (first | exact rfl | exact ⟨rfl, rfl⟩); clear hK K))
        with_reducible refine wpRead_nil ?_
        have hl := limit_any (p := 1000) F13.out.2.2 HID.out _ true HCG.out (fun h => by cases h) HCP.out
        rw [HL2.out] at hl
        have HLL := Lib.hid hl
        clear hl
        refine held_one 6 (by kernel_rfl) ?_
        simp only [pick, List.getD_cons_zero, List.getD_cons_succ]
        go_wp2_with fail
        refine HLL.out.mono ?_
        rintro e W15 ⟨rfl, hb⟩
        have F14 := Lib.hid (And.intro (bcall F13.out.1 (Nat.le_refl _) hb) (And.intro (F13.out.2.1.on hb) (F13.out.2.2.keep hb)))
        clear hb F13 HLL
        go_wp2_with fail
        refine ⟨F14.out.2.1, ?_⟩
        refine held_reads [9, 12, 13, 14, 15, 16, 17, 18, 19, 20, 21, 22, 23, 24] (g := 16) rfl (by kernel_rfl) F14.out.2.1 (fun _ _ d _ _ h => by cases d <;> exact h) ?_
        simp only [pick, List.getD_cons_zero, List.getD_cons_succ]
        ((with_reducible refine wpRead_step (fun K hK => ?_)); go_simp; first | ((with_reducible refine hK _ ?_); clear hK K) | (apply Exists.intro; (with_reducible refine ⟨fun w' hw' => ?_, hK _ ?_⟩); (first | exact rfl | exact ⟨rfl, rfl⟩); clear hK K))
        ((with_reducible refine wpRead_step (fun K hK => ?_)); go_simp; first | ((with_reducible refine hK _ ?_); clear hK K) | (apply Exists.intro; (with_reducible refine ⟨fun w' hw' => ?_, hK _ ?_⟩); (first | exact rfl | exact ⟨rfl, rfl⟩); clear hK K))
        ((with_reducible refine wpRead_step (fun K hK => ?_)); go_simp; first | ((with_reducible refine hK _ ?_); clear hK K) | (apply Exists.intro; (with_reducible refine ⟨fun w' hw' => ?_, hK _ ?_⟩); (first | exact rfl | exact ⟨rfl, rfl⟩); clear hK K))
        ((with_reducible refine wpRead_step (fun K hK => ?_)); go_simp; first | ((with_reducible refine hK _ ?_); clear hK K) | (apply Exists.intro; (with_reducible refine ⟨fun w' hw' => ?_, hK _ ?_⟩); (obtain ⟨f0, f1, f2, f3, f4⟩ := IfS.cells hw'; go_simp; first | exact rfl | exact ⟨rfl, rfl⟩); clear hK K))
        ((with_reducible refine wpRead_step (fun K hK => ?_)); go_simp; first | ((with_reducible refine hK _ ?_); clear hK K) | (apply Exists.intro; (with_reducible refine ⟨fun w' hw' => ?_, hK _ ?_⟩); (first | exact rfl | exact ⟨rfl, rfl⟩); clear hK K))
        ((with_reducible refine wpRead_step (fun K hK => ?_)); go_simp; first | ((with_reducible refine hK _ ?_); clear hK K) | (apply Exists.intro; (with_reducible refine ⟨fun w' hw' => ?_, hK _ ?_⟩); (first | exact rfl | exact ⟨rfl, rfl⟩); clear hK K))
        ((with_reducible refine wpRead_step (fun K hK => ?_)); go_simp; first | ((with_reducible refine hK _ ?_); clear hK K) | (apply Exists.intro; (with_reducible refine ⟨fun w' hw' => ?_, hK _ ?_⟩); (first | exact rfl | exact ⟨rfl, rfl⟩); clear hK K))
        ((with_reducible refine wpRead_step (fun K hK => ?_)); go_simp; first | ((with_reducible refine hK _ ?_); clear hK K) | (apply Exists.intro; (with_reducible refine ⟨fun w' hw' => ?_, hK _ ?_⟩); (first | exact rfl | exact ⟨rfl, rfl⟩); clear hK K))
        ((with_reducible refine wpRead_step (fun K hK => ?_)); go_simp; first | ((with_reducible refine hK _ ?_); clear hK K) | (apply Exists.intro; (with_reducible refine ⟨fun w' hw' => ?_, hK _ ?_⟩); (first | exact rfl | exact ⟨rfl, rfl⟩); clear hK K))
        ((with_reducible refine wpRead_step (fun K hK => ?_)); go_simp; first | ((with_reducible refine hK _ ?_); clear hK K) | (apply Exists.intro; (with_reducible refine ⟨fun w' hw' => ?_, hK _ ?_⟩); (first | exact rfl | exact ⟨rfl, rfl⟩); clear hK K))
        ((with_reducible refine wpRead_step (fun K hK => ?_)); go_simp; first | ((with_reducible refine hK _ ?_); clear hK K) | (apply Exists.intro; (with_reducible refine ⟨fun w' hw' => ?_, hK _ ?_⟩); (first | exact rfl | exact ⟨rfl, rfl⟩); clear hK K))
        ((with_reducible refine wpRead_step (fun K hK => ?_)); go_simp; first | ((with_reducible refine hK _ ?_); clear hK K) | (apply Exists.intro; (with_reducible refine ⟨fun w' hw' => ?_, hK _ ?_⟩); (first | exact rfl | exact ⟨rfl, rfl⟩); clear hK K))
        ((with_reducible refine wpRead_step (fun K hK => ?_)); go_simp; first | ((with_reducible refine hK _ ?_); clear hK K) | (apply Exists.intro; (with_reducible refine ⟨fun w' hw' => ?_, hK _ ?_⟩); (first | exact rfl | exact ⟨rfl, rfl⟩); clear hK K))
        ((with_reducible refine wpRead_step (fun K hK => ?_)); go_simp; first | ((with_reducible refine hK _ ?_); clear hK K) | (apply Exists.intro; (with_reducible refine ⟨fun w' hw' => ?_, hK _ ?_⟩); (first | exact rfl | exact ⟨rfl, rfl⟩); clear hK K))
        with_reducible refine wpRead_nil ?_
        refine held_one 25 (by kernel_rfl) ?_
        simp only [pick, List.getD_cons_zero, List.getD_cons_succ]
        go_wp2_with fail
        refine (limit_nil 1 1 _).mono ?_
        rintro e W16 ⟨rfl, hb⟩
        have F15 := Lib.hid (And.intro (bcall F14.out.1 (Nat.le_refl _) hb) (And.intro (F14.out.2.1.on hb) (F14.out.2.2.keep hb)))
        clear hb F14
        go_wp2_with fail
        refine ⟨F15.out.2.1, ?_⟩
        refine held_reads [26, 27, 28, 29] (g := 11) rfl (by kernel_rfl) F15.out.2.1 (fun _ _ d _ _ h => by cases d <;> exact h) ?_
        simp only [pick, List.getD_cons_zero, List.getD_cons_succ]
        ((with_reducible refine wpRead_step (fun K hK => ?_)); go_simp; first | ((with_reducible refine hK _ ?_); clear hK K) | (apply Exists.intro; (with_reducible refine ⟨fun w' hw' => ?_, hK _ ?_⟩); (first | exact rfl | exact ⟨rfl, rfl⟩); clear hK K))
        ((with_reducible refine wpRead_step (fun K hK => ?_)); go_simp; first | ((with_reducible refine hK _ ?_); clear hK K) | (apply Exists.intro; (with_reducible refine ⟨fun w' hw' => ?_, hK _ ?_⟩); (first | exact rfl | exact ⟨rfl, rfl⟩); clear hK K))
        ((with_reducible refine wpRead_step (fun K hK => ?_)); go_simp; first | ((with_reducible refine hK _ ?_); clear hK K) | (apply Exists.intro; (with_reducible refine ⟨fun w' hw' => ?_, hK _ ?_⟩); (first | exact rfl | exact ⟨rfl, rfl⟩); clear hK K))
        ((with_reducible refine wpRead_step (fun K hK => ?_)); go_simp; first | ((with_reducible refine hK _ ?_); clear hK K) | (apply Exists.intro; (with_reducible refine ⟨fun w' hw' => ?_, hK _ ?_⟩); (first | exact rfl | exact ⟨rfl, rfl⟩); clear hK K))
        with_reducible refine wpRead_nil ?_
        refine held_one 30 (by kernel_rfl) ?_
        simp only [pick, List.getD_cons_zero, List.getD_cons_succ]
        go_wp2_with fail
        refine (call_nil _).mono ?_
        rintro e W17 ⟨rfl, hb⟩
        have F16 := Lib.hid (And.intro (bcall F15.out.1 (Nat.le_refl _) hb) (And.intro (F15.out.2.1.on hb) (F15.out.2.2.keep hb)))
        clear hb F15
        go_wp2_with fail
        refine ⟨F16.out.2.1, ?_⟩
        refine held_reads [31, 32, 33, 34, 35, 36] (g := 4) rfl (by kernel_rfl) F16.out.2.1 (fun _ _ d _ _ h => by cases d <;> exact h) ?_
        simp only [pick, List.getD_cons_zero, List.getD_cons_succ]
        ((with_reducible refine wpRead_step (fun K hK => ?_)); go_simp; first | ((with_reducible refine hK _ ?_); clear hK K) | (apply Exists.intro; (with_reducible refine ⟨fun w' hw' => ?_, hK _ ?_⟩); (first | exact rfl | exact ⟨rfl, rfl⟩); clear hK K))
        ((with_reducible refine wpRead_step (fun K hK => ?_)); go_simp; first | ((with_reducible refine hK _ ?_); clear hK K) | (apply Exists.intro; (with_reducible refine ⟨fun w' hw' => ?_, hK _ ?_⟩); (first | exact rfl | exact ⟨rfl, rfl⟩); clear hK K))
        ((with_reducible refine wpRead_step (fun K hK => ?_)); go_simp; first | ((with_reducible refine hK _ ?_); clear hK K) | (apply Exists.intro; (with_reducible refine ⟨fun w' hw' => ?_, hK _ ?_⟩); (first | exact rfl | exact ⟨rfl, rfl⟩); clear hK K))
        ((with_reducible refine wpRead_step (fun K hK => ?_)); go_simp; first | ((with_reducible refine hK _ ?_); clear hK K) | (apply Exists.intro; (with_reducible refine ⟨fun w' hw' => ?_, hK _ ?_⟩); (first | exact rfl | exact ⟨rfl, rfl⟩); clear hK K))
        ((with_reducible refine wpRead_step (fun K hK => ?_)); go_simp; first | ((with_reducible refine hK _ ?_); clear hK K) | (apply Exists.intro; (with_reducible refine ⟨fun w' hw' => ?_, hK _ ?_⟩); (first | exact rfl | exact ⟨rfl, rfl⟩); clear hK K))
        ((with_reducible refine wpRead_step (fun K hK => ?_)); go_simp; first | ((with_reducible refine hK _ ?_); clear hK K) | (apply Exists.intro; (with_reducible refine ⟨fun w' hw' => ?_, hK _ ?_⟩); (first | exact rfl | exact ⟨rfl, rfl⟩); clear hK K))
        with_reducible refine wpRead_nil ?_
        refine held_one 37 (by kernel_rfl) ?_
        simp only [pick, List.getD_cons_zero, List.getD_cons_succ]
        go_wp2_with fail
        refine (ctake_nil 0 0 0 none 0 0 _).mono ?_
        rintro e W18 ⟨rfl, hb⟩
        have F17 := Lib.hid (And.intro (bcall F16.out.1 (Nat.le_refl _) hb) (And.intro (F16.out.2.1.on hb) (F16.out.2.2.keep hb)))
        clear hb F16
        go_wp2_with fail
        refine ⟨F17.out.2.1, ?_⟩
        refine held_reads [38, 39] (g := 1) rfl (by kernel_rfl) F17.out.2.1 (fun _ _ d _ _ h => by cases d <;> exact h) ?_
        simp only [pick, List.getD_cons_zero, List.getD_cons_succ]
        ((with_reducible refine wpRead_step (fun K hK => ?_)); go_simp; first | ((with_reducible refine hK _ ?_); clear hK K) | (apply Exists.intro; (with_reducible refine ⟨fun w' hw' => ?_, hK _ ?_⟩); (first | exact rfl | exact ⟨rfl, rfl⟩); clear hK K))
        ((with_reducible refine wpRead_step (fun K hK => ?_)); go_simp; first | ((with_reducible refine hK _ ?_); clear hK K) | (apply Exists.intro; (with_reducible refine ⟨fun w' hw' => ?_, hK _ ?_⟩); (first | exact rfl | exact ⟨rfl, rfl⟩); clear hK K))
        with_reducible refine wpRead_nil ?_
        refine held_one 40 (by kernel_rfl) ?_
        simp only [pick, List.getD_cons_zero, List.getD_cons_succ]
        go_wp2_with fail
        refine ⟨F17.out.2.1, ?_⟩
        refine wpAnyH_done (by kernel_rfl) ?_ _
        go_wp2_with fail
        go_ret
        exact ⟨rfl, F17.out.1⟩
      | false =>
        have HL2 := Lib.hid (show limB true ⟨id, 0, false⟩ 1000 = 0 from HLIM.out.2.2)
        clear hldr HLIM
        go_wp2_with fail
        generalize W12.alloc (.cells #[.int .i64 0, .int .i64 0, .bool false] 69) = W13 at *
        refine wp_region_heldP (IfS q0 (⟨id, 0, ad, ln, 0⟩ : If)) (by kernel_rfl) ?_
        have hd := (Below.refl W13.heap.size W13).drew
        have F13 := Lib.hid (And.intro (bcall F12.out.1 (Nat.le_refl _) hd) (And.intro (F12.out.2.1.on hd) (F12.out.2.2.keep hd)))
        clear hd F12
        generalize W13.drew = W14 at *
        refine held_reads [0, 1, 2, 3, 4, 5, 7, 8, 10, 11] (g := 31) rfl (by kernel_rfl) F13.out.2.1 (fun _ _ d _ _ h => by cases d <;> exact h) ?_
        simp only [pick, List.getD_cons_zero, List.getD_cons_succ]
        ((with_reducible refine wpRead_step (fun K hK => ?_)); go_simp; first | ((with_reducible refine hK _ ?_); clear hK K) | (apply Exists.intro; (with_reducible refine ⟨fun w' hw' => ?_, hK _ ?_⟩); (first | exact rfl | exact ⟨rfl, rfl⟩); clear hK K))
        ((with_reducible refine wpRead_step (fun K hK => ?_)); go_simp; first | ((with_reducible refine hK _ ?_); clear hK K) | (apply Exists.intro; (with_reducible refine ⟨fun w' hw' => ?_, hK _ ?_⟩); (first | exact rfl | exact ⟨rfl, rfl⟩); clear hK K))
        ((with_reducible refine wpRead_step (fun K hK => ?_)); go_simp; first | ((with_reducible refine hK _ ?_); clear hK K) | (apply Exists.intro; (with_reducible refine ⟨fun w' hw' => ?_, hK _ ?_⟩); (first | exact rfl | exact ⟨rfl, rfl⟩); clear hK K))
        ((with_reducible refine wpRead_step (fun K hK => ?_)); go_simp; first | ((with_reducible refine hK _ ?_); clear hK K) | (apply Exists.intro; (with_reducible refine ⟨fun w' hw' => ?_, hK _ ?_⟩); (first | exact rfl | exact ⟨rfl, rfl⟩); clear hK K))
        ((with_reducible refine wpRead_step (fun K hK => ?_)); go_simp; first | ((with_reducible refine hK _ ?_); clear hK K) | (apply Exists.intro; (with_reducible refine ⟨fun w' hw' => ?_, hK _ ?_⟩); (first | exact rfl | exact ⟨rfl, rfl⟩); clear hK K))
        ((with_reducible refine wpRead_step (fun K hK => ?_)); go_simp; first | ((with_reducible refine hK _ ?_); clear hK K) | (apply Exists.intro; (with_reducible refine ⟨fun w' hw' => ?_, hK _ ?_⟩); (obtain ⟨f0, f1, f2, f3, f4⟩ := IfS.cells hw'; go_simp; first | exact rfl | exact ⟨rfl, rfl⟩); clear hK K))
        ((with_reducible refine wpRead_step (fun K hK => ?_)); go_simp; first | ((with_reducible refine hK _ ?_); clear hK K) | (apply Exists.intro; (with_reducible refine ⟨fun w' hw' => ?_, hK _ ?_⟩); (first | exact rfl | exact ⟨rfl, rfl⟩); clear hK K))
        ((with_reducible refine wpRead_step (fun K hK => ?_)); go_simp; first | ((with_reducible refine hK _ ?_); clear hK K) | (apply Exists.intro; (with_reducible refine ⟨fun w' hw' => ?_, hK _ ?_⟩); (obtain ⟨f0, f1, f2, f3, f4⟩ := IfS.cells hw'; go_simp; first | exact rfl | exact ⟨rfl, rfl⟩); clear hK K))
        ((with_reducible refine wpRead_step (fun K hK => ?_)); go_simp; first | ((with_reducible refine hK _ ?_); clear hK K) | (apply Exists.intro; (with_reducible refine ⟨fun w' hw' => ?_, hK _ ?_⟩); (first | exact rfl | exact ⟨rfl, rfl⟩); clear hK K))
        ((with_reducible refine wpRead_step (fun K hK => ?_)); go_simp; first | ((with_reducible refine hK _ ?_); clear hK K) | (apply Exists.intro; (with_reducible refine ⟨fun w' hw' => ?_, hK _ ?_⟩); (first | exact rfl | exact ⟨rfl, rfl⟩); clear hK K))
        with_reducible refine wpRead_nil ?_
        have hl := limit_any (p := 1000) F13.out.2.2 HID.out _ true HCG.out (fun h => by cases h) HCP.out
        rw [HL2.out] at hl
        have HLL := Lib.hid hl
        clear hl
        refine held_one 6 (by kernel_rfl) ?_
        simp only [pick, List.getD_cons_zero, List.getD_cons_succ]
        go_wp2_with fail
        refine HLL.out.mono ?_
        rintro e W15 ⟨rfl, hb⟩
        have F14 := Lib.hid (And.intro (bcall F13.out.1 (Nat.le_refl _) hb) (And.intro (F13.out.2.1.on hb) (F13.out.2.2.keep hb)))
        clear hb F13 HLL
        go_wp2_with fail
        refine ⟨F14.out.2.1, ?_⟩
        refine held_reads [9, 12, 13, 14, 15, 16, 17, 18, 19, 20, 21, 22, 23, 24] (g := 16) rfl (by kernel_rfl) F14.out.2.1 (fun _ _ d _ _ h => by cases d <;> exact h) ?_
        simp only [pick, List.getD_cons_zero, List.getD_cons_succ]
        ((with_reducible refine wpRead_step (fun K hK => ?_)); go_simp; first | ((with_reducible refine hK _ ?_); clear hK K) | (apply Exists.intro; (with_reducible refine ⟨fun w' hw' => ?_, hK _ ?_⟩); (first | exact rfl | exact ⟨rfl, rfl⟩); clear hK K))
        ((with_reducible refine wpRead_step (fun K hK => ?_)); go_simp; first | ((with_reducible refine hK _ ?_); clear hK K) | (apply Exists.intro; (with_reducible refine ⟨fun w' hw' => ?_, hK _ ?_⟩); (first | exact rfl | exact ⟨rfl, rfl⟩); clear hK K))
        ((with_reducible refine wpRead_step (fun K hK => ?_)); go_simp; first | ((with_reducible refine hK _ ?_); clear hK K) | (apply Exists.intro; (with_reducible refine ⟨fun w' hw' => ?_, hK _ ?_⟩); (first | exact rfl | exact ⟨rfl, rfl⟩); clear hK K))
        ((with_reducible refine wpRead_step (fun K hK => ?_)); go_simp; first | ((with_reducible refine hK _ ?_); clear hK K) | (apply Exists.intro; (with_reducible refine ⟨fun w' hw' => ?_, hK _ ?_⟩); (obtain ⟨f0, f1, f2, f3, f4⟩ := IfS.cells hw'; go_simp; first | exact rfl | exact ⟨rfl, rfl⟩); clear hK K))
        ((with_reducible refine wpRead_step (fun K hK => ?_)); go_simp; first | ((with_reducible refine hK _ ?_); clear hK K) | (apply Exists.intro; (with_reducible refine ⟨fun w' hw' => ?_, hK _ ?_⟩); (first | exact rfl | exact ⟨rfl, rfl⟩); clear hK K))
        ((with_reducible refine wpRead_step (fun K hK => ?_)); go_simp; first | ((with_reducible refine hK _ ?_); clear hK K) | (apply Exists.intro; (with_reducible refine ⟨fun w' hw' => ?_, hK _ ?_⟩); (first | exact rfl | exact ⟨rfl, rfl⟩); clear hK K))
        ((with_reducible refine wpRead_step (fun K hK => ?_)); go_simp; first | ((with_reducible refine hK _ ?_); clear hK K) | (apply Exists.intro; (with_reducible refine ⟨fun w' hw' => ?_, hK _ ?_⟩); (first | exact rfl | exact ⟨rfl, rfl⟩); clear hK K))
        ((with_reducible refine wpRead_step (fun K hK => ?_)); go_simp; first | ((with_reducible refine hK _ ?_); clear hK K) | (apply Exists.intro; (with_reducible refine ⟨fun w' hw' => ?_, hK _ ?_⟩); (first | exact rfl | exact ⟨rfl, rfl⟩); clear hK K))
        ((with_reducible refine wpRead_step (fun K hK => ?_)); go_simp; first | ((with_reducible refine hK _ ?_); clear hK K) | (apply Exists.intro; (with_reducible refine ⟨fun w' hw' => ?_, hK _ ?_⟩); (first | exact rfl | exact ⟨rfl, rfl⟩); clear hK K))
        ((with_reducible refine wpRead_step (fun K hK => ?_)); go_simp; first | ((with_reducible refine hK _ ?_); clear hK K) | (apply Exists.intro; (with_reducible refine ⟨fun w' hw' => ?_, hK _ ?_⟩); (first | exact rfl | exact ⟨rfl, rfl⟩); clear hK K))
        ((with_reducible refine wpRead_step (fun K hK => ?_)); go_simp; first | ((with_reducible refine hK _ ?_); clear hK K) | (apply Exists.intro; (with_reducible refine ⟨fun w' hw' => ?_, hK _ ?_⟩); (first | exact rfl | exact ⟨rfl, rfl⟩); clear hK K))
        ((with_reducible refine wpRead_step (fun K hK => ?_)); go_simp; first | ((with_reducible refine hK _ ?_); clear hK K) | (apply Exists.intro; (with_reducible refine ⟨fun w' hw' => ?_, hK _ ?_⟩); (first | exact rfl | exact ⟨rfl, rfl⟩); clear hK K))
        ((with_reducible refine wpRead_step (fun K hK => ?_)); go_simp; first | ((with_reducible refine hK _ ?_); clear hK K) | (apply Exists.intro; (with_reducible refine ⟨fun w' hw' => ?_, hK _ ?_⟩); (first | exact rfl | exact ⟨rfl, rfl⟩); clear hK K))
        ((with_reducible refine wpRead_step (fun K hK => ?_)); go_simp; first | ((with_reducible refine hK _ ?_); clear hK K) | (apply Exists.intro; (with_reducible refine ⟨fun w' hw' => ?_, hK _ ?_⟩); (first | exact rfl | exact ⟨rfl, rfl⟩); clear hK K))
        with_reducible refine wpRead_nil ?_
        refine held_one 25 (by kernel_rfl) ?_
        simp only [pick, List.getD_cons_zero, List.getD_cons_succ]
        go_wp2_with fail
        refine (limit_nil 1 1 _).mono ?_
        rintro e W16 ⟨rfl, hb⟩
        have F15 := Lib.hid (And.intro (bcall F14.out.1 (Nat.le_refl _) hb) (And.intro (F14.out.2.1.on hb) (F14.out.2.2.keep hb)))
        clear hb F14
        go_wp2_with fail
        refine ⟨F15.out.2.1, ?_⟩
        refine held_reads [26, 27, 28, 29] (g := 11) rfl (by kernel_rfl) F15.out.2.1 (fun _ _ d _ _ h => by cases d <;> exact h) ?_
        simp only [pick, List.getD_cons_zero, List.getD_cons_succ]
        ((with_reducible refine wpRead_step (fun K hK => ?_)); go_simp; first | ((with_reducible refine hK _ ?_); clear hK K) | (apply Exists.intro; (with_reducible refine ⟨fun w' hw' => ?_, hK _ ?_⟩); (first | exact rfl | exact ⟨rfl, rfl⟩); clear hK K))
        ((with_reducible refine wpRead_step (fun K hK => ?_)); go_simp; first | ((with_reducible refine hK _ ?_); clear hK K) | (apply Exists.intro; (with_reducible refine ⟨fun w' hw' => ?_, hK _ ?_⟩); (first | exact rfl | exact ⟨rfl, rfl⟩); clear hK K))
        ((with_reducible refine wpRead_step (fun K hK => ?_)); go_simp; first | ((with_reducible refine hK _ ?_); clear hK K) | (apply Exists.intro; (with_reducible refine ⟨fun w' hw' => ?_, hK _ ?_⟩); (first | exact rfl | exact ⟨rfl, rfl⟩); clear hK K))
        ((with_reducible refine wpRead_step (fun K hK => ?_)); go_simp; first | ((with_reducible refine hK _ ?_); clear hK K) | (apply Exists.intro; (with_reducible refine ⟨fun w' hw' => ?_, hK _ ?_⟩); (first | exact rfl | exact ⟨rfl, rfl⟩); clear hK K))
        with_reducible refine wpRead_nil ?_
        refine held_one 30 (by kernel_rfl) ?_
        simp only [pick, List.getD_cons_zero, List.getD_cons_succ]
        go_wp2_with fail
        refine (call_nil _).mono ?_
        rintro e W17 ⟨rfl, hb⟩
        have F16 := Lib.hid (And.intro (bcall F15.out.1 (Nat.le_refl _) hb) (And.intro (F15.out.2.1.on hb) (F15.out.2.2.keep hb)))
        clear hb F15
        go_wp2_with fail
        refine ⟨F16.out.2.1, ?_⟩
        refine held_reads [31, 32, 33, 34, 35, 36] (g := 4) rfl (by kernel_rfl) F16.out.2.1 (fun _ _ d _ _ h => by cases d <;> exact h) ?_
        simp only [pick, List.getD_cons_zero, List.getD_cons_succ]
        ((with_reducible refine wpRead_step (fun K hK => ?_)); go_simp; first | ((with_reducible refine hK _ ?_); clear hK K) | (apply Exists.intro; (with_reducible refine ⟨fun w' hw' => ?_, hK _ ?_⟩); (first | exact rfl | exact ⟨rfl, rfl⟩); clear hK K))
        ((with_reducible refine wpRead_step (fun K hK => ?_)); go_simp; first | ((with_reducible refine hK _ ?_); clear hK K) | (apply Exists.intro; (with_reducible refine ⟨fun w' hw' => ?_, hK _ ?_⟩); (first | exact rfl | exact ⟨rfl, rfl⟩); clear hK K))
        ((with_reducible refine wpRead_step (fun K hK => ?_)); go_simp; first | ((with_reducible refine hK _ ?_); clear hK K) | (apply Exists.intro; (with_reducible refine ⟨fun w' hw' => ?_, hK _ ?_⟩); (first | exact rfl | exact ⟨rfl, rfl⟩); clear hK K))
        ((with_reducible refine wpRead_step (fun K hK => ?_)); go_simp; first | ((with_reducible refine hK _ ?_); clear hK K) | (apply Exists.intro; (with_reducible refine ⟨fun w' hw' => ?_, hK _ ?_⟩); (first | exact rfl | exact ⟨rfl, rfl⟩); clear hK K))
        ((with_reducible refine wpRead_step (fun K hK => ?_)); go_simp; first | ((with_reducible refine hK _ ?_); clear hK K) | (apply Exists.intro; (with_reducible refine ⟨fun w' hw' => ?_, hK _ ?_⟩); (first | exact rfl | exact ⟨rfl, rfl⟩); clear hK K))
        ((with_reducible refine wpRead_step (fun K hK => ?_)); go_simp; first | ((with_reducible refine hK _ ?_); clear hK K) | (apply Exists.intro; (with_reducible refine ⟨fun w' hw' => ?_, hK _ ?_⟩); (first | exact rfl | exact ⟨rfl, rfl⟩); clear hK K))
        with_reducible refine wpRead_nil ?_
        refine held_one 37 (by kernel_rfl) ?_
        simp only [pick, List.getD_cons_zero, List.getD_cons_succ]
        go_wp2_with fail
        refine (ctake_nil 0 0 0 none 0 0 _).mono ?_
        rintro e W18 ⟨rfl, hb⟩
        have F17 := Lib.hid (And.intro (bcall F16.out.1 (Nat.le_refl _) hb) (And.intro (F16.out.2.1.on hb) (F16.out.2.2.keep hb)))
        clear hb F16
        go_wp2_with fail
        refine ⟨F17.out.2.1, ?_⟩
        refine held_reads [38, 39] (g := 1) rfl (by kernel_rfl) F17.out.2.1 (fun _ _ d _ _ h => by cases d <;> exact h) ?_
        simp only [pick, List.getD_cons_zero, List.getD_cons_succ]
        ((with_reducible refine wpRead_step (fun K hK => ?_)); go_simp; first | ((with_reducible refine hK _ ?_); clear hK K) | (apply Exists.intro; (with_reducible refine ⟨fun w' hw' => ?_, hK _ ?_⟩); (first | exact rfl | exact ⟨rfl, rfl⟩); clear hK K))
        ((with_reducible refine wpRead_step (fun K hK => ?_)); go_simp; first | ((with_reducible refine hK _ ?_); clear hK K) | (apply Exists.intro; (with_reducible refine ⟨fun w' hw' => ?_, hK _ ?_⟩); (first | exact rfl | exact ⟨rfl, rfl⟩); clear hK K))
        with_reducible refine wpRead_nil ?_
        refine held_one 40 (by kernel_rfl) ?_
        simp only [pick, List.getD_cons_zero, List.getD_cons_succ]
        go_wp2_with fail
        refine ⟨F17.out.2.1, ?_⟩
        refine wpAnyH_done (by kernel_rfl) ?_ _
        go_wp2_with fail
        go_ret
        exact ⟨rfl, F17.out.1⟩
    · cases drain with
      | true =>
        have HL2 := Lib.hid (show limB true ⟨id, cp, true⟩ 1000 = 0 from rfl)
        have hcp1 : (cp == 0) = false := by simpa using hcp0
        have hcp2 : ((0 : Int) == cp) = false := by simpa using Ne.symm hcp0
        clear hldr HLIM hcp0
        go_wp2_with fail
        generalize W12.alloc (.cells #[.int .i64 0, .int .i64 0, .bool false] 69) = W13 at *
        refine wp_region_heldP (IfS q0 (⟨id, 0, ad, ln, cp⟩ : If)) (by kernel_rfl) ?_
        have hd := (Below.refl W13.heap.size W13).drew
        have F13 := Lib.hid (And.intro (bcall F12.out.1 (Nat.le_refl _) hd) (And.intro (F12.out.2.1.on hd) (F12.out.2.2.keep hd)))
        clear hd F12
        generalize W13.drew = W14 at *
        refine held_reads [0, 1, 2, 3, 4, 5, 7, 8, 10, 11] (g := 31) rfl (by kernel_rfl) F13.out.2.1 (fun _ _ d _ _ h => by cases d <;> exact h) ?_
        simp only [pick, List.getD_cons_zero, List.getD_cons_succ]
        ((with_reducible refine wpRead_step (fun K hK => ?_)); go_simp; first | ((with_reducible refine hK _ ?_); clear hK K) | (apply Exists.intro; (with_reducible refine ⟨fun w' hw' => ?_, hK _ ?_⟩); (first | exact rfl | exact ⟨rfl, rfl⟩); clear hK K))
        ((with_reducible refine wpRead_step (fun K hK => ?_)); go_simp; first | ((with_reducible refine hK _ ?_); clear hK K) | (apply Exists.intro; (with_reducible refine ⟨fun w' hw' => ?_, hK _ ?_⟩); (first | exact rfl | exact ⟨rfl, rfl⟩); clear hK K))
        ((with_reducible refine wpRead_step (fun K hK => ?_)); go_simp; first | ((with_reducible refine hK _ ?_); clear hK K) | (apply Exists.intro; (with_reducible refine ⟨fun w' hw' => ?_, hK _ ?_⟩); (first | exact rfl | exact ⟨rfl, rfl⟩); clear hK K))
        ((with_reducible refine wpRead_step (fun K hK => ?_)); go_simp; first | ((with_reducible refine hK _ ?_); clear hK K) | (apply Exists.intro; (with_reducible refine ⟨fun w' hw' => ?_, hK _ ?_⟩); (first | exact rfl | exact ⟨rfl, rfl⟩); clear hK K))
        ((with_reducible refine wpRead_step (fun K hK => ?_)); go_simp; first | ((with_reducible refine hK _ ?_); clear hK K) | (apply Exists.intro; (with_reducible refine ⟨fun w' hw' => ?_, hK _ ?_⟩); (first | exact rfl | exact ⟨rfl, rfl⟩); clear hK K))
        ((with_reducible refine wpRead_step (fun K hK => ?_)); go_simp; first | ((with_reducible refine hK _ ?_); clear hK K) | (apply Exists.intro; (with_reducible refine ⟨fun w' hw' => ?_, hK _ ?_⟩); (obtain ⟨f0, f1, f2, f3, f4⟩ := IfS.cells hw'; go_simp; first | exact rfl | exact ⟨rfl, rfl⟩); clear hK K))
        ((with_reducible refine wpRead_step (fun K hK => ?_)); go_simp; first | ((with_reducible refine hK _ ?_); clear hK K) | (apply Exists.intro; (with_reducible refine ⟨fun w' hw' => ?_, hK _ ?_⟩); (first | exact rfl | exact ⟨rfl, rfl⟩); clear hK K))
        ((with_reducible refine wpRead_step (fun K hK => ?_)); go_simp; first | ((with_reducible refine hK _ ?_); clear hK K) | (apply Exists.intro; (with_reducible refine ⟨fun w' hw' => ?_, hK _ ?_⟩); (obtain ⟨f0, f1, f2, f3, f4⟩ := IfS.cells hw'; go_simp; first | exact rfl | exact ⟨rfl, rfl⟩); clear hK K))
        ((with_reducible refine wpRead_step (fun K hK => ?_)); go_simp; first | ((with_reducible refine hK _ ?_); clear hK K) | (apply Exists.intro; (with_reducible refine ⟨fun w' hw' => ?_, hK _ ?_⟩); (first | exact rfl | exact ⟨rfl, rfl⟩); clear hK K))
        ((with_reducible refine wpRead_step (fun K hK => ?_)); go_simp; first | ((with_reducible refine hK _ ?_); clear hK K) | (apply Exists.intro; (with_reducible refine ⟨fun w' hw' => ?_, hK _ ?_⟩); (first | exact rfl | exact ⟨rfl, rfl⟩); clear hK K))
        with_reducible refine wpRead_nil ?_
        have hl := limit_any (p := 1000) F13.out.2.2 HID.out _ true HCG.out (fun h => by cases h) HCP.out
        rw [HL2.out] at hl
        have HLL := Lib.hid hl
        clear hl
        refine held_one 6 (by kernel_rfl) ?_
        simp only [pick, List.getD_cons_zero, List.getD_cons_succ]
        go_wp2_with fail
        refine HLL.out.mono ?_
        rintro e W15 ⟨rfl, hb⟩
        have F14 := Lib.hid (And.intro (bcall F13.out.1 (Nat.le_refl _) hb) (And.intro (F13.out.2.1.on hb) (F13.out.2.2.keep hb)))
        clear hb F13 HLL
        go_wp2_with fail
        refine ⟨F14.out.2.1, ?_⟩
        refine held_reads [9, 12, 13, 14, 15, 16, 17, 18, 19, 20, 21, 22, 23, 24] (g := 16) rfl (by kernel_rfl) F14.out.2.1 (fun _ _ d _ _ h => by cases d <;> exact h) ?_
        simp only [pick, List.getD_cons_zero, List.getD_cons_succ]
        ((with_reducible refine wpRead_step (fun K hK => ?_)); go_simp; first | ((with_reducible refine hK _ ?_); clear hK K) | (apply Exists.intro; (with_reducible refine ⟨fun w' hw' => ?_, hK _ ?_⟩); (first | exact rfl | exact ⟨rfl, rfl⟩); clear hK K))
        ((with_reducible refine wpRead_step (fun K hK => ?_)); go_simp; first | ((with_reducible refine hK _ ?_); clear hK K) | (apply Exists.intro; (with_reducible refine ⟨fun w' hw' => ?_, hK _ ?_⟩); (first | exact rfl | exact ⟨rfl, rfl⟩); clear hK K))
        ((with_reducible refine wpRead_step (fun K hK => ?_)); go_simp; first | ((with_reducible refine hK _ ?_); clear hK K) | (apply Exists.intro; (with_reducible refine ⟨fun w' hw' => ?_, hK _ ?_⟩); (first | exact rfl | exact ⟨rfl, rfl⟩); clear hK K))
        ((with_reducible refine wpRead_step (fun K hK => ?_)); go_simp; first | ((with_reducible refine hK _ ?_); clear hK K) | (apply Exists.intro; (with_reducible refine ⟨fun w' hw' => ?_, hK _ ?_⟩); (obtain ⟨f0, f1, f2, f3, f4⟩ := IfS.cells hw'; go_simp; first | exact rfl | exact ⟨rfl, rfl⟩); clear hK K))
        ((with_reducible refine wpRead_step (fun K hK => ?_)); go_simp; first | ((with_reducible refine hK _ ?_); clear hK K) | (apply Exists.intro; (with_reducible refine ⟨fun w' hw' => ?_, hK _ ?_⟩); (first | exact rfl | exact ⟨rfl, rfl⟩); clear hK K))
        ((with_reducible refine wpRead_step (fun K hK => ?_)); go_simp; first | ((with_reducible refine hK _ ?_); clear hK K) | (apply Exists.intro; (with_reducible refine ⟨fun w' hw' => ?_, hK _ ?_⟩); (first | exact rfl | exact ⟨rfl, rfl⟩); clear hK K))
        ((with_reducible refine wpRead_step (fun K hK => ?_)); go_simp; first | ((with_reducible refine hK _ ?_); clear hK K) | (apply Exists.intro; (with_reducible refine ⟨fun w' hw' => ?_, hK _ ?_⟩); (first | exact rfl | exact ⟨rfl, rfl⟩); clear hK K))
        ((with_reducible refine wpRead_step (fun K hK => ?_)); go_simp; first | ((with_reducible refine hK _ ?_); clear hK K) | (apply Exists.intro; (with_reducible refine ⟨fun w' hw' => ?_, hK _ ?_⟩); (first | exact rfl | exact ⟨rfl, rfl⟩); clear hK K))
        ((with_reducible refine wpRead_step (fun K hK => ?_)); go_simp; first | ((with_reducible refine hK _ ?_); clear hK K) | (apply Exists.intro; (with_reducible refine ⟨fun w' hw' => ?_, hK _ ?_⟩); (first | exact rfl | exact ⟨rfl, rfl⟩); clear hK K))
        ((with_reducible refine wpRead_step (fun K hK => ?_)); go_simp; first | ((with_reducible refine hK _ ?_); clear hK K) | (apply Exists.intro; (with_reducible refine ⟨fun w' hw' => ?_, hK _ ?_⟩); (first | exact rfl | exact ⟨rfl, rfl⟩); clear hK K))
        ((with_reducible refine wpRead_step (fun K hK => ?_)); go_simp; first | ((with_reducible refine hK _ ?_); clear hK K) | (apply Exists.intro; (with_reducible refine ⟨fun w' hw' => ?_, hK _ ?_⟩); (first | exact rfl | exact ⟨rfl, rfl⟩); clear hK K))
        ((with_reducible refine wpRead_step (fun K hK => ?_)); go_simp; first | ((with_reducible refine hK _ ?_); clear hK K) | (apply Exists.intro; (with_reducible refine ⟨fun w' hw' => ?_, hK _ ?_⟩); (first | exact rfl | exact ⟨rfl, rfl⟩); clear hK K))
        ((with_reducible refine wpRead_step (fun K hK => ?_)); go_simp; first | ((with_reducible refine hK _ ?_); clear hK K) | (apply Exists.intro; (with_reducible refine ⟨fun w' hw' => ?_, hK _ ?_⟩); (first | exact rfl | exact ⟨rfl, rfl⟩); clear hK K))
        ((with_reducible refine wpRead_step (fun K hK => ?_)); go_simp; first | ((with_reducible refine hK _ ?_); clear hK K) | (apply Exists.intro; (with_reducible refine ⟨fun w' hw' => ?_, hK _ ?_⟩); (first | exact rfl | exact ⟨rfl, rfl⟩); clear hK K))
        with_reducible refine wpRead_nil ?_
        refine held_one 25 (by kernel_rfl) ?_
        simp only [pick, List.getD_cons_zero, List.getD_cons_succ]
        go_wp2_with fail
        refine (limit_nil 1 1 _).mono ?_
        rintro e W16 ⟨rfl, hb⟩
        have F15 := Lib.hid (And.intro (bcall F14.out.1 (Nat.le_refl _) hb) (And.intro (F14.out.2.1.on hb) (F14.out.2.2.keep hb)))
        clear hb F14
        go_wp2_with fail
        refine ⟨F15.out.2.1, ?_⟩
        refine held_reads [26, 27, 28, 29] (g := 11) rfl (by kernel_rfl) F15.out.2.1 (fun _ _ d _ _ h => by cases d <;> exact h) ?_
        simp only [pick, List.getD_cons_zero, List.getD_cons_succ]
        ((with_reducible refine wpRead_step (fun K hK => ?_)); go_simp; first | ((with_reducible refine hK _ ?_); clear hK K) | (apply Exists.intro; (with_reducible refine ⟨fun w' hw' => ?_, hK _ ?_⟩); (first | exact rfl | exact ⟨rfl, rfl⟩); clear hK K))
        ((with_reducible refine wpRead_step (fun K hK => ?_)); go_simp; first | ((with_reducible refine hK _ ?_); clear hK K) | (apply Exists.intro; (with_reducible refine ⟨fun w' hw' => ?_, hK _ ?_⟩); (first | exact rfl | exact ⟨rfl, rfl⟩); clear hK K))
        ((with_reducible refine wpRead_step (fun K hK => ?_)); go_simp; first | ((with_reducible refine hK _ ?_); clear hK K) | (apply Exists.intro; (with_reducible refine ⟨fun w' hw' => ?_, hK _ ?_⟩); (first | exact rfl | exact ⟨rfl, rfl⟩); clear hK K))
        ((with_reducible refine wpRead_step (fun K hK => ?_)); go_simp; first | ((with_reducible refine hK _ ?_); clear hK K) | (apply Exists.intro; (with_reducible refine ⟨fun w' hw' => ?_, hK _ ?_⟩); (first | exact rfl | exact ⟨rfl, rfl⟩); clear hK K))
        with_reducible refine wpRead_nil ?_
        refine held_one 30 (by kernel_rfl) ?_
        simp only [pick, List.getD_cons_zero, List.getD_cons_succ]
        go_wp2_with fail
        refine (call_nil _).mono ?_
        rintro e W17 ⟨rfl, hb⟩
        have F16 := Lib.hid (And.intro (bcall F15.out.1 (Nat.le_refl _) hb) (And.intro (F15.out.2.1.on hb) (F15.out.2.2.keep hb)))
        clear hb F15
        go_wp2_with fail
        refine ⟨F16.out.2.1, ?_⟩
        refine held_reads [31, 32, 33, 34, 35, 36] (g := 4) rfl (by kernel_rfl) F16.out.2.1 (fun _ _ d _ _ h => by cases d <;> exact h) ?_
        simp only [pick, List.getD_cons_zero, List.getD_cons_succ]
        ((with_reducible refine wpRead_step (fun K hK => ?_)); go_simp; first | ((with_reducible refine hK _ ?_); clear hK K) | (apply Exists.intro; (with_reducible refine ⟨fun w' hw' => ?_, hK _ ?_⟩); (first | exact rfl | exact ⟨rfl, rfl⟩); clear hK K))
        ((with_reducible refine wpRead_step (fun K hK => ?_)); go_simp; first | ((with_reducible refine hK _ ?_); clear hK K) | (apply Exists.intro; (with_reducible refine ⟨fun w' hw' => ?_, hK _ ?_⟩); (first | exact rfl | exact ⟨rfl, rfl⟩); clear hK K))
        ((with_reducible refine wpRead_step (fun K hK => ?_)); go_simp; first | ((with_reducible refine hK _ ?_); clear hK K) | (apply Exists.intro; (with_reducible refine ⟨fun w' hw' => ?_, hK _ ?_⟩); (first | exact rfl | exact ⟨rfl, rfl⟩); clear hK K))
        ((with_reducible refine wpRead_step (fun K hK => ?_)); go_simp; first | ((with_reducible refine hK _ ?_); clear hK K) | (apply Exists.intro; (with_reducible refine ⟨fun w' hw' => ?_, hK _ ?_⟩); (first | exact rfl | exact ⟨rfl, rfl⟩); clear hK K))
        ((with_reducible refine wpRead_step (fun K hK => ?_)); go_simp; first | ((with_reducible refine hK _ ?_); clear hK K) | (apply Exists.intro; (with_reducible refine ⟨fun w' hw' => ?_, hK _ ?_⟩); (first | exact rfl | exact ⟨rfl, rfl⟩); clear hK K))
        ((with_reducible refine wpRead_step (fun K hK => ?_)); go_simp; first | ((with_reducible refine hK _ ?_); clear hK K) | (apply Exists.intro; (with_reducible refine ⟨fun w' hw' => ?_, hK _ ?_⟩); (first | exact rfl | exact ⟨rfl, rfl⟩); clear hK K))
        with_reducible refine wpRead_nil ?_
        refine held_one 37 (by kernel_rfl) ?_
        simp only [pick, List.getD_cons_zero, List.getD_cons_succ]
        go_wp2_with fail
        refine (ctake_nil 0 0 0 none 0 0 _).mono ?_
        rintro e W18 ⟨rfl, hb⟩
        have F17 := Lib.hid (And.intro (bcall F16.out.1 (Nat.le_refl _) hb) (And.intro (F16.out.2.1.on hb) (F16.out.2.2.keep hb)))
        clear hb F16
        go_wp2_with fail
        refine ⟨F17.out.2.1, ?_⟩
        refine held_reads [38, 39] (g := 1) rfl (by kernel_rfl) F17.out.2.1 (fun _ _ d _ _ h => by cases d <;> exact h) ?_
        simp only [pick, List.getD_cons_zero, List.getD_cons_succ]
        ((with_reducible refine wpRead_step (fun K hK => ?_)); go_simp; first | ((with_reducible refine hK _ ?_); clear hK K) | (apply Exists.intro; (with_reducible refine ⟨fun w' hw' => ?_, hK _ ?_⟩); (first | exact rfl | exact ⟨rfl, rfl⟩); clear hK K))
        ((with_reducible refine wpRead_step (fun K hK => ?_)); go_simp; first | ((with_reducible refine hK _ ?_); clear hK K) | (apply Exists.intro; (with_reducible refine ⟨fun w' hw' => ?_, hK _ ?_⟩); (first | exact rfl | exact ⟨rfl, rfl⟩); clear hK K))
        with_reducible refine wpRead_nil ?_
        refine held_one 40 (by kernel_rfl) ?_
        simp only [pick, List.getD_cons_zero, List.getD_cons_succ]
        go_wp2_with fail
        refine ⟨F17.out.2.1, ?_⟩
        refine wpAnyH_done (by kernel_rfl) ?_ _
        go_wp2_with fail
        go_ret
        exact ⟨rfl, F17.out.1⟩
      | false =>
        have HL2 := Lib.hid (show limB true ⟨id, cp, false⟩ 1000 = cp from HLIM.out.2.2)
        clear hldr HLIM hcp0
        go_wp2_with fail
        generalize W12.alloc (.cells #[.int .i64 0, .int .i64 0, .bool false] 69) = W13 at *
        refine wp_region_heldP (IfS q0 (⟨id, 0, ad, ln, cp⟩ : If)) (by kernel_rfl) ?_
        have hd := (Below.refl W13.heap.size W13).drew
        have F13 := Lib.hid (And.intro (bcall F12.out.1 (Nat.le_refl _) hd) (And.intro (F12.out.2.1.on hd) (F12.out.2.2.keep hd)))
        clear hd F12
        generalize W13.drew = W14 at *
        refine held_reads [0, 1, 2, 3, 4, 5, 7, 8, 10, 11] (g := 31) rfl (by kernel_rfl) F13.out.2.1 (fun _ _ d _ _ h => by cases d <;> exact h) ?_
        simp only [pick, List.getD_cons_zero, List.getD_cons_succ]
        ((with_reducible refine wpRead_step (fun K hK => ?_)); go_simp; first | ((with_reducible refine hK _ ?_); clear hK K) | (apply Exists.intro; (with_reducible refine ⟨fun w' hw' => ?_, hK _ ?_⟩); (first | exact rfl | exact ⟨rfl, rfl⟩); clear hK K))
        ((with_reducible refine wpRead_step (fun K hK => ?_)); go_simp; first | ((with_reducible refine hK _ ?_); clear hK K) | (apply Exists.intro; (with_reducible refine ⟨fun w' hw' => ?_, hK _ ?_⟩); (first | exact rfl | exact ⟨rfl, rfl⟩); clear hK K))
        ((with_reducible refine wpRead_step (fun K hK => ?_)); go_simp; first | ((with_reducible refine hK _ ?_); clear hK K) | (apply Exists.intro; (with_reducible refine ⟨fun w' hw' => ?_, hK _ ?_⟩); (first | exact rfl | exact ⟨rfl, rfl⟩); clear hK K))
        ((with_reducible refine wpRead_step (fun K hK => ?_)); go_simp; first | ((with_reducible refine hK _ ?_); clear hK K) | (apply Exists.intro; (with_reducible refine ⟨fun w' hw' => ?_, hK _ ?_⟩); (first | exact rfl | exact ⟨rfl, rfl⟩); clear hK K))
        ((with_reducible refine wpRead_step (fun K hK => ?_)); go_simp; first | ((with_reducible refine hK _ ?_); clear hK K) | (apply Exists.intro; (with_reducible refine ⟨fun w' hw' => ?_, hK _ ?_⟩); (first | exact rfl | exact ⟨rfl, rfl⟩); clear hK K))
        ((with_reducible refine wpRead_step (fun K hK => ?_)); go_simp; first | ((with_reducible refine hK _ ?_); clear hK K) | (apply Exists.intro; (with_reducible refine ⟨fun w' hw' => ?_, hK _ ?_⟩); (obtain ⟨f0, f1, f2, f3, f4⟩ := IfS.cells hw'; go_simp; first | exact rfl | exact ⟨rfl, rfl⟩); clear hK K))
        ((with_reducible refine wpRead_step (fun K hK => ?_)); go_simp; first | ((with_reducible refine hK _ ?_); clear hK K) | (apply Exists.intro; (with_reducible refine ⟨fun w' hw' => ?_, hK _ ?_⟩); (first | exact rfl | exact ⟨rfl, rfl⟩); clear hK K))
        ((with_reducible refine wpRead_step (fun K hK => ?_)); go_simp; first | ((with_reducible refine hK _ ?_); clear hK K) | (apply Exists.intro; (with_reducible refine ⟨fun w' hw' => ?_, hK _ ?_⟩); (obtain ⟨f0, f1, f2, f3, f4⟩ := IfS.cells hw'; go_simp; first | exact rfl | exact ⟨rfl, rfl⟩); clear hK K))
        ((with_reducible refine wpRead_step (fun K hK => ?_)); go_simp; first | ((with_reducible refine hK _ ?_); clear hK K) | (apply Exists.intro; (with_reducible refine ⟨fun w' hw' => ?_, hK _ ?_⟩); (first | exact rfl | exact ⟨rfl, rfl⟩); clear hK K))
        ((with_reducible refine wpRead_step (fun K hK => ?_)); go_simp; first | ((with_reducible refine hK _ ?_); clear hK K) | (apply Exists.intro; (with_reducible refine ⟨fun w' hw' => ?_, hK _ ?_⟩); (first | exact rfl | exact ⟨rfl, rfl⟩); clear hK K))
        with_reducible refine wpRead_nil ?_
        have hl := limit_any (p := 1000) F13.out.2.2 HID.out _ true HCG.out (fun h => by cases h) HCP.out
        rw [HL2.out] at hl
        have HLL := Lib.hid hl
        clear hl
        refine held_one 6 (by kernel_rfl) ?_
        simp only [pick, List.getD_cons_zero, List.getD_cons_succ]
        go_wp2_with fail
        refine HLL.out.mono ?_
        rintro e W15 ⟨rfl, hb⟩
        have F14 := Lib.hid (And.intro (bcall F13.out.1 (Nat.le_refl _) hb) (And.intro (F13.out.2.1.on hb) (F13.out.2.2.keep hb)))
        clear hb F13 HLL
        go_wp2_with fail
        refine ⟨F14.out.2.1, ?_⟩
        refine held_reads [9, 12, 13, 14, 15, 16, 17, 18, 19, 20, 21, 22, 23, 24] (g := 16) rfl (by kernel_rfl) F14.out.2.1 (fun _ _ d _ _ h => by cases d <;> exact h) ?_
        simp only [pick, List.getD_cons_zero, List.getD_cons_succ]
        ((with_reducible refine wpRead_step (fun K hK => ?_)); go_simp; first | ((with_reducible refine hK _ ?_); clear hK K) | (apply Exists.intro; (with_reducible refine ⟨fun w' hw' => ?_, hK _ ?_⟩); (first | exact rfl | exact ⟨rfl, rfl⟩); clear hK K))
        ((with_reducible refine wpRead_step (fun K hK => ?_)); go_simp; first | ((with_reducible refine hK _ ?_); clear hK K) | (apply Exists.intro; (with_reducible refine ⟨fun w' hw' => ?_, hK _ ?_⟩); (first | exact rfl | exact ⟨rfl, rfl⟩); clear hK K))
        ((with_reducible refine wpRead_step (fun K hK => ?_)); go_simp; first | ((with_reducible refine hK _ ?_); clear hK K) | (apply Exists.intro; (with_reducible refine ⟨fun w' hw' => ?_, hK _ ?_⟩); (first | exact rfl | exact ⟨rfl, rfl⟩); clear hK K))
        ((with_reducible refine wpRead_step (fun K hK => ?_)); go_simp; first | ((with_reducible refine hK _ ?_); clear hK K) | (apply Exists.intro; (with_reducible refine ⟨fun w' hw' => ?_, hK _ ?_⟩); (obtain ⟨f0, f1, f2, f3, f4⟩ := IfS.cells hw'; go_simp; first | exact rfl | exact ⟨rfl, rfl⟩); clear hK K))
        ((with_reducible refine wpRead_step (fun K hK => ?_)); go_simp; first | ((with_reducible refine hK _ ?_); clear hK K) | (apply Exists.intro; (with_reducible refine ⟨fun w' hw' => ?_, hK _ ?_⟩); (first | exact rfl | exact ⟨rfl, rfl⟩); clear hK K))
        ((with_reducible refine wpRead_step (fun K hK => ?_)); go_simp; first | ((with_reducible refine hK _ ?_); clear hK K) | (apply Exists.intro; (with_reducible refine ⟨fun w' hw' => ?_, hK _ ?_⟩); (first | exact rfl | exact ⟨rfl, rfl⟩); clear hK K))
        ((with_reducible refine wpRead_step (fun K hK => ?_)); go_simp; first | ((with_reducible refine hK _ ?_); clear hK K) | (apply Exists.intro; (with_reducible refine ⟨fun w' hw' => ?_, hK _ ?_⟩); (first | exact rfl | exact ⟨rfl, rfl⟩); clear hK K))
        ((with_reducible refine wpRead_step (fun K hK => ?_)); go_simp; first | ((with_reducible refine hK _ ?_); clear hK K) | (apply Exists.intro; (with_reducible refine ⟨fun w' hw' => ?_, hK _ ?_⟩); (first | exact rfl | exact ⟨rfl, rfl⟩); clear hK K))
        ((with_reducible refine wpRead_step (fun K hK => ?_)); go_simp; first | ((with_reducible refine hK _ ?_); clear hK K) | (apply Exists.intro; (with_reducible refine ⟨fun w' hw' => ?_, hK _ ?_⟩); (first | exact rfl | exact ⟨rfl, rfl⟩); clear hK K))
        ((with_reducible refine wpRead_step (fun K hK => ?_)); go_simp; first | ((with_reducible refine hK _ ?_); clear hK K) | (apply Exists.intro; (with_reducible refine ⟨fun w' hw' => ?_, hK _ ?_⟩); (first | exact rfl | exact ⟨rfl, rfl⟩); clear hK K))
        ((with_reducible refine wpRead_step (fun K hK => ?_)); go_simp; first | ((with_reducible refine hK _ ?_); clear hK K) | (apply Exists.intro; (with_reducible refine ⟨fun w' hw' => ?_, hK _ ?_⟩); (first | exact rfl | exact ⟨rfl, rfl⟩); clear hK K))
        ((with_reducible refine wpRead_step (fun K hK => ?_)); go_simp; first | ((with_reducible refine hK _ ?_); clear hK K) | (apply Exists.intro; (with_reducible refine ⟨fun w' hw' => ?_, hK _ ?_⟩); (first | exact rfl | exact ⟨rfl, rfl⟩); clear hK K))
        ((with_reducible refine wpRead_step (fun K hK => ?_)); go_simp; first | ((with_reducible refine hK _ ?_); clear hK K) | (apply Exists.intro; (with_reducible refine ⟨fun w' hw' => ?_, hK _ ?_⟩); (first | exact rfl | exact ⟨rfl, rfl⟩); clear hK K))
        ((with_reducible refine wpRead_step (fun K hK => ?_)); go_simp; first | ((with_reducible refine hK _ ?_); clear hK K) | (apply Exists.intro; (with_reducible refine ⟨fun w' hw' => ?_, hK _ ?_⟩); (first | exact rfl | exact ⟨rfl, rfl⟩); clear hK K))
        with_reducible refine wpRead_nil ?_
        refine held_one 25 (by kernel_rfl) ?_
        simp only [pick, List.getD_cons_zero, List.getD_cons_succ]
        go_wp2_with fail
        refine (limit_nil 1 1 _).mono ?_
        rintro e W16 ⟨rfl, hb⟩
        have F15 := Lib.hid (And.intro (bcall F14.out.1 (Nat.le_refl _) hb) (And.intro (F14.out.2.1.on hb) (F14.out.2.2.keep hb)))
        clear hb F14
        go_wp2_with fail
        refine ⟨F15.out.2.1, ?_⟩
        refine held_reads [26, 27, 28, 29] (g := 11) rfl (by kernel_rfl) F15.out.2.1 (fun _ _ d _ _ h => by cases d <;> exact h) ?_
        simp only [pick, List.getD_cons_zero, List.getD_cons_succ]
        ((with_reducible refine wpRead_step (fun K hK => ?_)); go_simp; first | ((with_reducible refine hK _ ?_); clear hK K) | (apply Exists.intro; (with_reducible refine ⟨fun w' hw' => ?_, hK _ ?_⟩); (first | exact rfl | exact ⟨rfl, rfl⟩); clear hK K))
        ((with_reducible refine wpRead_step (fun K hK => ?_)); go_simp; first | ((with_reducible refine hK _ ?_); clear hK K) | (apply Exists.intro; (with_reducible refine ⟨fun w' hw' => ?_, hK _ ?_⟩); (first | exact rfl | exact ⟨rfl, rfl⟩); clear hK K))
        ((with_reducible refine wpRead_step (fun K hK => ?_)); go_simp; first | ((with_reducible refine hK _ ?_); clear hK K) | (apply Exists.intro; (with_reducible refine ⟨fun w' hw' => ?_, hK _ ?_⟩); (first | exact rfl | exact ⟨rfl, rfl⟩); clear hK K))
        ((with_reducible refine wpRead_step (fun K hK => ?_)); go_simp; first | ((with_reducible refine hK _ ?_); clear hK K) | (apply Exists.intro; (with_reducible refine ⟨fun w' hw' => ?_, hK _ ?_⟩); (first | exact rfl | exact ⟨rfl, rfl⟩); clear hK K))
        with_reducible refine wpRead_nil ?_
        refine held_one 30 (by kernel_rfl) ?_
        simp only [pick, List.getD_cons_zero, List.getD_cons_succ]
        go_wp2_with fail
        refine (call_nil _).mono ?_
        rintro e W17 ⟨rfl, hb⟩
        have F16 := Lib.hid (And.intro (bcall F15.out.1 (Nat.le_refl _) hb) (And.intro (F15.out.2.1.on hb) (F15.out.2.2.keep hb)))
        clear hb F15
        go_wp2_with fail
        refine ⟨F16.out.2.1, ?_⟩
        refine held_reads [31, 32, 33, 34, 35, 36] (g := 4) rfl (by kernel_rfl) F16.out.2.1 (fun _ _ d _ _ h => by cases d <;> exact h) ?_
        simp only [pick, List.getD_cons_zero, List.getD_cons_succ]
        ((with_reducible refine wpRead_step (fun K hK => ?_)); go_simp; first | ((with_reducible refine hK _ ?_); clear hK K) | (apply Exists.intro; (with_reducible refine ⟨fun w' hw' => ?_, hK _ ?_⟩); (first | exact rfl | exact ⟨rfl, rfl⟩); clear hK K))
        ((with_reducible refine wpRead_step (fun K hK => ?_)); go_simp; first | ((with_reducible refine hK _ ?_); clear hK K) | (apply Exists.intro; (with_reducible refine ⟨fun w' hw' => ?_, hK _ ?_⟩); (first | exact rfl | exact ⟨rfl, rfl⟩); clear hK K))
        ((with_reducible refine wpRead_step (fun K hK => ?_)); go_simp; first | ((with_reducible refine hK _ ?_); clear hK K) | (apply Exists.intro; (with_reducible refine ⟨fun w' hw' => ?_, hK _ ?_⟩); (first | exact rfl | exact ⟨rfl, rfl⟩); clear hK K))
        ((with_reducible refine wpRead_step (fun K hK => ?_)); go_simp; first | ((with_reducible refine hK _ ?_); clear hK K) | (apply Exists.intro; (with_reducible refine ⟨fun w' hw' => ?_, hK _ ?_⟩); (first | exact rfl | exact ⟨rfl, rfl⟩); clear hK K))
        ((with_reducible refine wpRead_step (fun K hK => ?_)); go_simp; first | ((with_reducible refine hK _ ?_); clear hK K) | (apply Exists.intro; (with_reducible refine ⟨fun w' hw' => ?_, hK _ ?_⟩); (first | exact rfl | exact ⟨rfl, rfl⟩); clear hK K))
        ((with_reducible refine wpRead_step (fun K hK => ?_)); go_simp; first | ((with_reducible refine hK _ ?_); clear hK K) | (apply Exists.intro; (with_reducible refine ⟨fun w' hw' => ?_, hK _ ?_⟩); (first | exact rfl | exact ⟨rfl, rfl⟩); clear hK K))
        with_reducible refine wpRead_nil ?_
        refine held_one 37 (by kernel_rfl) ?_
        simp only [pick, List.getD_cons_zero, List.getD_cons_succ]
        go_wp2_with fail
        refine (ctake_nil 0 0 0 none 0 0 _).mono ?_
        rintro e W18 ⟨rfl, hb⟩
        have F17 := Lib.hid (And.intro (bcall F16.out.1 (Nat.le_refl _) hb) (And.intro (F16.out.2.1.on hb) (F16.out.2.2.keep hb)))
        clear hb F16
        go_wp2_with fail
        refine ⟨F17.out.2.1, ?_⟩
        refine held_reads [38, 39] (g := 1) rfl (by kernel_rfl) F17.out.2.1 (fun _ _ d _ _ h => by cases d <;> exact h) ?_
        simp only [pick, List.getD_cons_zero, List.getD_cons_succ]
        ((with_reducible refine wpRead_step (fun K hK => ?_)); go_simp; first | ((with_reducible refine hK _ ?_); clear hK K) | (apply Exists.intro; (with_reducible refine ⟨fun w' hw' => ?_, hK _ ?_⟩); (first | exact rfl | exact ⟨rfl, rfl⟩); clear hK K))
        ((with_reducible refine wpRead_step (fun K hK => ?_)); go_simp; first | ((with_reducible refine hK _ ?_); clear hK K) | (apply Exists.intro; (with_reducible refine ⟨fun w' hw' => ?_, hK _ ?_⟩); (first | exact rfl | exact ⟨rfl, rfl⟩); clear hK K))
        with_reducible refine wpRead_nil ?_
        refine held_one 40 (by kernel_rfl) ?_
        simp only [pick, List.getD_cons_zero, List.getD_cons_succ]
        go_wp2_with fail
        refine ⟨F17.out.2.1, ?_⟩
        refine wpAnyH_done (by kernel_rfl) ?_ _
        go_wp2_with fail
        go_ret
        exact ⟨rfl, F17.out.1⟩
end Go.Proofs.Ytlkbaplfffbmkaa

