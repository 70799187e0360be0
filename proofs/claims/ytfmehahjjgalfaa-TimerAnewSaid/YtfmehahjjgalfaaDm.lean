/- TableAnew: the law's walk. -/
import Derived.Test.YtfmehahjjgalfaaDl
namespace Go.Proofs.Ytfmehahjjgalfaa
open Go.RowKit

theorem set_same {a c : Ov} (h : c.key = a.key) : setO [a] c = [c] := by
  unfold setO ltO
  rw [h]
  simp [ltK_irr]
theorem set_nil (a : Ov) : setO [] a = [a] := rfl
theorem has_one {c : Ov} : hasO [c] c.key = true := by unfold hasO Kl.look; simp
theorem get_one {c : Ov} : getO [c] c.key = c := by unfold getO Kl.look; simp
theorem setE_nil (a : Ov) : setE [] a = if okP a.ad a.ln then 0 else 20 := by unfold setE; simp [hasO, Kl.look]
theorem setE_one {a c : Ov} (h : c.key = a.key) (ho : okP c.ad c.ln = true) : setE [a] c = 0 := by
  unfold setE
  rw [ho]
  have : hasO [a] c.key = true := by rw [h]; exact has_one
  rw [this]; rfl
set_option maxRecDepth 100000 in
set_option maxHeartbeats 4000000 in
theorem tanew_law {w : World} {a b : Ov} (ha : a.ad < 4294967296) (hk : PN.ok a.key) : Calls Try.prog 10 #[.agg #[.int .i64 a.r, .int .u32 (a.ad : Int), .int .i64 a.ln, .int .i64 a.id, .int .i64 a.till], .agg #[.int .i64 b.r, .int .u32 (b.ad : Int), .int .i64 b.ln, .int .i64 b.id, .int .i64 b.till]] w fun e w' => e = .returned (.bool true) ∧ Below w.heap.size w w' := by
  have hal := ((Below.refl w.heap.size w).alloc (Nat.le_refl _) (.cells #[.int .i64 a.r, .int .u32 (a.ad : Int), .int .i64 a.ln, .int .i64 a.id, .int .i64 a.till] 62)).alloc (by simp) (.cells #[.int .i64 b.r, .int .u32 (a.ad : Int), .int .i64 a.ln, .int .i64 b.id, .int .i64 b.till] 62)
  have hs0 : OvS w.heap.size a ((w.alloc (.cells #[.int .i64 a.r, .int .u32 (a.ad : Int), .int .i64 a.ln, .int .i64 a.id, .int .i64 a.till] 62)).alloc (.cells #[.int .i64 b.r, .int .u32 (a.ad : Int), .int .i64 a.ln, .int .i64 b.id, .int .i64 b.till] 62)) := hold (hnew _ _)
  have hs1 : OvS (w.heap.size + 1) ⟨b.r, a.ad, a.ln, b.id, b.till⟩ ((w.alloc (.cells #[.int .i64 a.r, .int .u32 (a.ad : Int), .int .i64 a.ln, .int .i64 a.id, .int .i64 a.till] 62)).alloc (.cells #[.int .i64 b.r, .int .u32 (a.ad : Int), .int .i64 a.ln, .int .i64 b.id, .int .i64 b.till] 62)) := hnewAt (by simp)
  have F0 := Lib.hid (And.intro hal (And.intro hs0 hs1))
  clear hal hs0 hs1
  cases hok : okP a.ad a.ln with
  | false =>
    have hE : setE [] a = 20 := by rw [setE_nil, hok]; rfl
    have HE := Lib.hid hE
    clear hE hok
    go_enter Try.func10, Try.ntmps10
    go_wp2_with fail
    obtain ⟨q, hq⟩ : ∃ q, w.heap.size = q := ⟨_, rfl⟩
    obtain ⟨W0, hW0⟩ : ∃ W, (w.alloc (.cells #[.int .i64 a.r, .int .u32 (a.ad : Int), .int .i64 a.ln, .int .i64 a.id, .int .i64 a.till] 62)).alloc (.cells #[.int .i64 b.r, .int .u32 (a.ad : Int), .int .i64 a.ln, .int .i64 b.id, .int .i64 b.till] 62) = W := ⟨_, rfl⟩
    have F1 := Lib.hid (show Below w.heap.size w W0 ∧ OvS q a W0 ∧ OvS (q + 1) ⟨b.r, a.ad, a.ln, b.id, b.till⟩ W0 from hq ▸ hW0 ▸ F0.out)
    rw [hq, hW0]
    clear hq hW0 F0
    refine (tnew_any _).mono ?_
    rintro e W1 ⟨t, bm, rfl, hT, hb, ht0, hm0⟩
    have F2 := Lib.hid (And.intro (bcall F1.out.1 (Nat.le_refl _) hb) (And.intro (F1.out.2.1.on (hb.block _ (lt_of_blk F1.out.2.1))) (And.intro (F1.out.2.2.on (hb.block _ (lt_of_blk F1.out.2.2))) hT)))
    have HQ := Lib.hid (show q ≠ bm ∧ q + 1 ≠ bm ∧ w.heap.size ≤ bm from ⟨by have := lt_of_blk F1.out.2.1; omega, by have := lt_of_blk F1.out.2.2; omega, Nat.le_trans F1.out.1.size hm0⟩)
    clear hT hb ht0 hm0 F1
    go_wp2_with fail
    refine (lives23 _).mono ?_
    rintro e W2 ⟨rfl, hb⟩
    have F3 := Lib.hid (And.intro (bcall F2.out.1 (Nat.le_refl _) hb) (And.intro (F2.out.2.1.on (hb.block _ (lt_of_blk F2.out.2.1))) (And.intro (F2.out.2.2.1.on (hb.block _ (lt_of_blk F2.out.2.2.1))) (F2.out.2.2.2.keep hb))))
    clear hb F2
    obtain ⟨z0, z1, z2, z3, z4⟩ := F3.out.2.1.cells
    go_wp2_with fail
    refine (tset_any F3.out.2.2.2 (o := a) ha hk).mono ?_
    rintro e W3 ⟨rfl, hs⟩
    have htab := hs.tab
    have hbt := hs.but
    rw [if_neg (by rw [HE.out]; decide)] at htab
    rw [HE.out]
    have F4 := Lib.hid (And.intro (Below.step F3.out.1 F3.out.1.size hbt (by simp; exact HQ.out.2.2)) htab)
    clear hs htab hbt F3 z0 z1 z2 z3 z4
    go_wp2_with fail
    refine (tlen_any F4.out.2).mono ?_
    rintro e W4 ⟨rfl, rfl⟩
    rw [show ((([] : List Ov).length : Nat) : Int) = 0 from rfl]
    go_wp2_with fail
    go_ret
    exact ⟨rfl, F4.out.1⟩
  | true =>
    have hE : setE [] a = 0 := by rw [setE_nil, hok]; rfl
    have HE := Lib.hid hE
    obtain ⟨c, hc⟩ : ∃ c : Ov, c = ⟨b.r, a.ad, a.ln, b.id, b.till⟩ := ⟨_, rfl⟩
    have hck : c.key = a.key := by rw [hc]; rfl
    have hE2 : setE [a] c = 0 := setE_one hck (by rw [hc]; exact hok)
    have HE2 := Lib.hid (And.intro hE2 (And.intro hck (And.intro (set_same hck) hc)))
    clear hE hok hc hck hE2
    go_enter Try.func10, Try.ntmps10
    go_wp2_with fail
    obtain ⟨q, hq⟩ : ∃ q, w.heap.size = q := ⟨_, rfl⟩
    obtain ⟨W0, hW0⟩ : ∃ W, (w.alloc (.cells #[.int .i64 a.r, .int .u32 (a.ad : Int), .int .i64 a.ln, .int .i64 a.id, .int .i64 a.till] 62)).alloc (.cells #[.int .i64 b.r, .int .u32 (a.ad : Int), .int .i64 a.ln, .int .i64 b.id, .int .i64 b.till] 62) = W := ⟨_, rfl⟩
    have F1 := Lib.hid (show Below w.heap.size w W0 ∧ OvS q a W0 ∧ OvS (q + 1) ⟨b.r, a.ad, a.ln, b.id, b.till⟩ W0 from hq ▸ hW0 ▸ F0.out)
    rw [hq, hW0]
    clear hq hW0 F0
    refine (tnew_any _).mono ?_
    rintro e W1 ⟨t, bm, rfl, hT, hb, ht0, hm0⟩
    have F2 := Lib.hid (And.intro (bcall F1.out.1 (Nat.le_refl _) hb) (And.intro (F1.out.2.1.on (hb.block _ (lt_of_blk F1.out.2.1))) (And.intro (F1.out.2.2.on (hb.block _ (lt_of_blk F1.out.2.2))) hT)))
    have HQ := Lib.hid (show q ≠ bm ∧ q + 1 ≠ bm ∧ w.heap.size ≤ bm from ⟨by have := lt_of_blk F1.out.2.1; omega, by have := lt_of_blk F1.out.2.2; omega, Nat.le_trans F1.out.1.size hm0⟩)
    clear hT hb ht0 hm0 F1
    go_wp2_with fail
    refine (lives23 _).mono ?_
    rintro e W2 ⟨rfl, hb⟩
    have F3 := Lib.hid (And.intro (bcall F2.out.1 (Nat.le_refl _) hb) (And.intro (F2.out.2.1.on (hb.block _ (lt_of_blk F2.out.2.1))) (And.intro (F2.out.2.2.1.on (hb.block _ (lt_of_blk F2.out.2.2.1))) (F2.out.2.2.2.keep hb))))
    clear hb F2
    obtain ⟨z0, z1, z2, z3, z4⟩ := F3.out.2.1.cells
    go_wp2_with fail
    refine (tset_any F3.out.2.2.2 (o := a) ha hk).mono ?_
    rintro e W3 ⟨rfl, hs⟩
    have htab := hs.tab
    have hbt := hs.but
    rw [if_pos HE.out, set_nil] at htab
    rw [HE.out]
    have F4 := Lib.hid (And.intro (Below.step F3.out.1 F3.out.1.size hbt (by simp; exact HQ.out.2.2)) (And.intro (F3.out.2.1.on (hbt.block _ (lt_of_blk F3.out.2.1) (by simp; exact HQ.out.1))) (And.intro (F3.out.2.2.1.on (hbt.block _ (lt_of_blk F3.out.2.2.1) (by simp; exact HQ.out.2.1))) htab)))
    clear hs htab hbt F3 z0 z1 z2 z3 z4
    obtain ⟨y0, y1, y2, y3, y4⟩ := OvS.cells F4.out.2.2.1
    go_wp2_with fail
    have hst := tset_any F4.out.2.2.2 (o := c) (by rw [HE2.out.2.2.2]; exact ha) (by rw [HE2.out.2.1]; exact hk)
    rw [HE2.out.1, HE2.out.2.2.2] at hst
    refine hst.mono ?_
    rintro e W4 ⟨rfl, hs⟩
    have htab := hs.tab
    have hbt := hs.but
    rw [← HE2.out.2.2.2, if_pos HE2.out.1, HE2.out.2.2.1] at htab
    have F5 := Lib.hid (And.intro (Below.step F4.out.1 F4.out.1.size hbt (by simp; exact HQ.out.2.2)) (And.intro (F4.out.2.1.on (hbt.block _ (lt_of_blk F4.out.2.1) (by simp; exact HQ.out.1))) (And.intro (F4.out.2.2.1.on (hbt.block _ (lt_of_blk F4.out.2.2.1) (by simp; exact HQ.out.2.1))) htab)))
    clear hst hs htab hbt F4 y0 y1 y2 y3 y4
    obtain ⟨z0, z1, z2, z3, z4⟩ := F5.out.2.1.cells
    go_wp2_with fail
    have hg := tget_any F5.out.2.2.2 (k := c.key) (by rw [HE2.out.2.1]; exact hk)
    rw [get_one, has_one, HE2.out.2.1, HE2.out.2.2.2] at hg
    refine hg.mono ?_
    rintro e W5 ⟨rfl, hb⟩
    rw [show (Ov.v ⟨b.r, a.ad, a.ln, b.id, b.till⟩) = .agg #[.int .i64 b.r, .int .u32 (a.ad : Int), .int .i64 a.ln, .int .i64 b.id, .int .i64 b.till] from rfl]
    have hal := (Below.refl W5.heap.size W5).alloc (Nat.le_refl _) (.cells #[.int .i64 b.r, .int .u32 (a.ad : Int), .int .i64 a.ln, .int .i64 b.id, .int .i64 b.till] 62)
    have hcs : OvS W5.heap.size ⟨b.r, a.ad, a.ln, b.id, b.till⟩ (W5.alloc (.cells #[.int .i64 b.r, .int .u32 (a.ad : Int), .int .i64 a.ln, .int .i64 b.id, .int .i64 b.till] 62)) := hnew _ _
    have hbb := bcall hb (Nat.le_refl _) hal
    have F6 := Lib.hid (And.intro (bcall F5.out.1 (Nat.le_refl _) hbb) (And.intro hcs (And.intro (F5.out.2.2.1.on (hbb.block _ (lt_of_blk F5.out.2.2.1))) (F5.out.2.2.2.keep hbb))))
    clear hg hb hal hcs hbb F5 z0 z1 z2 z3 z4
    obtain ⟨x0, x1, x2, x3, x4⟩ := F6.out.2.1.cells
    obtain ⟨y0, y1, y2, y3, y4⟩ := OvS.cells F6.out.2.2.1
    go_wp2_with fail
    generalize W5.alloc (.cells #[.int .i64 b.r, .int .u32 (a.ad : Int), .int .i64 a.ln, .int .i64 b.id, .int .i64 b.till] 62) = W6 at *
    refine (tlen_any F6.out.2.2.2).mono ?_
    rintro e W7 ⟨rfl, rfl⟩
    rw [show ((([c] : List Ov).length : Nat) : Int) = 1 from rfl]
    go_wp2_with fail
    refine (tall_any F6.out.2.2.2 (by simp)).mono ?_
    rintro e W8 ⟨v, rfl, hown, hb⟩
    obtain ⟨a8, c8, rfl, -, -⟩ := hown.sl0
    rw [show ([c] : List Ov).length = 1 from rfl]
    have F7 := Lib.hid (bcall F6.out.1 (Nat.le_refl _) hb)
    clear hown hb F6 x0 x1 x2 x3 x4 y0 y1 y2 y3 y4
    go_wp2_with fail
    go_ret
    exact ⟨rfl, F7.out⟩
end Go.Proofs.Ytfmehahjjgalfaa
