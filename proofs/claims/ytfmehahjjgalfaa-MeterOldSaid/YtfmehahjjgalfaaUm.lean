/- MeterOnce: the law's walk. -/
import Derived.Test.YtfmehahjjgalfaaUl
namespace Go.Proofs.Ytfmehahjjgalfaa.Me
open Go.RowKit

theorem take_src {X : Nat → Src} {src seq : Int} {L : List Ct} {now : Int} (h : takeE X src seq L now = 0) : chkR src seq L = true ∧ inM now = true := by
  unfold takeE at h
  cases hc : (chkR src seq L && inM now) with
  | false => rw [hc, if_pos rfl] at h; cases h
  | true => simpa [Bool.and_eq_true] using hc
theorem chkR_src {src seq : Int} {L : List Ct} (h : chkR src seq L = true) : inS src = true := by
  unfold chkR at h
  rw [Bool.and_eq_true, Bool.and_eq_true] at h
  exact h.2.1
theorem once_ahead (src seq : Int) (L : List Ct) (now : Int) (i : Nat) : (takeX X0 src seq L now i).ahead = none := by
  unfold takeX
  split
  · by_cases h : i = src.toNat
    · simp only [if_pos h]; rfl
    · simp only [if_neg h]; rfl
  · rfl
theorem demI_zero {X : Nat → Src} {k : PK} (h : ∀ i, rateS (X i) k = 0) : ∀ i, demI X k i = 0
  | 0 => rfl
  | i + 1 => by show addI _ _ = 0; rw [demI_zero h i, h i]; rfl
theorem once_dem (src seq : Int) (L : List Ct) (now : Int) : Dem (takeX X0 src seq L now) [] := by
  refine ⟨List.Pairwise.nil, fun x => ⟨fun h => (by cases h), fun ⟨h1, h2⟩ => ?_⟩⟩
  rw [demI_zero (fun i => by unfold rateS; rw [once_ahead]) 16] at h2
  omega
theorem once_yes {src seq : Int} {L : List Ct} {now : Int} (h : takeE X0 src seq L now = 0) : stampV (takeX X0 src seq L now) src = now ∧ stampB (takeX X0 src seq L now) src = true := by
  have hs := chkR_src (take_src h).1
  have hx : (takeX X0 src seq L now src.toNat).last = some ⟨seq, now, L⟩ := by
    unfold takeX
    rw [if_pos h]
    show (if src.toNat = src.toNat then (⟨some ⟨seq, now, L⟩, (X0 src.toNat).last⟩ : Src) else X0 src.toNat).last = _
    rw [if_pos rfl]
  unfold stampV stampB
  rw [hs, hx]
  exact ⟨rfl, rfl⟩
theorem once_no {src seq : Int} {L : List Ct} {now : Int} (h : takeE X0 src seq L now ≠ 0) : stampV (takeX X0 src seq L now) src = 0 ∧ stampB (takeX X0 src seq L now) src = false := by
  rw [takeX_no h]
  unfold stampV stampB X0
  exact ⟨by split <;> rfl, by cases inS src <;> rfl⟩
set_option maxRecDepth 100000 in
set_option maxHeartbeats 4000000 in
theorem monce_law {w : World} {oa : Option Addr} {n c : Nat} {L : List Ct} (HC : Cts w oa n c L) (src seq now : Int) : Calls Try.prog 15 #[.agg #[.int .i64 src, .int .i64 seq, .slice oa n c], .int .i64 now] w fun e w' => e = .returned (.bool true) ∧ Below w.heap.size w w' := by
  have hal := (Below.refl w.heap.size w).alloc (Nat.le_refl _) (.cells #[.int .i64 src, .int .i64 seq, .slice oa n c] 82)
  have hks : RpS w.heap.size src seq oa n c (w.alloc (.cells #[.int .i64 src, .int .i64 seq, .slice oa n c] 82)) := hnew _ _
  have F := Lib.hid (And.intro hal (And.intro hks (HC.keep hal)))
  obtain ⟨z0, z1, z2⟩ := hks.cells
  clear hal hks HC
  by_cases h200 : 200 < n
  · have h2t : ((200 : Int) < (n : Int)) = True := by simp; omega
    clear h200
    go_enter Try.func15, Try.ntmps15
    go_wp2_with fail
    refine (lives17 _).mono ?_
    rintro e W1 ⟨rfl, hb⟩
    have F2 := Lib.hid (bcall F.out.1 (Nat.le_refl _) hb)
    clear hb
    go_wp2_with fail
    go_ret
    exact ⟨rfl, F2.out⟩
  have h2t : ((200 : Int) < (n : Int)) = False := by simp; omega
  clear h200
  by_cases hE : takeE X0 src seq L now = 0
  · have HE := Lib.hid (And.intro hE (once_yes hE))
    clear hE
    go_enter Try.func15, Try.ntmps15
    go_wp2_with fail
    obtain ⟨q, hq⟩ : ∃ q, w.heap.size = q := ⟨_, rfl⟩
    obtain ⟨W0, hW0⟩ : ∃ W, w.alloc (.cells #[.int .i64 src, .int .i64 seq, .slice oa n c] 82) = W := ⟨_, rfl⟩
    have F1 := Lib.hid (show Below w.heap.size w W0 ∧ RpS q src seq oa n c W0 ∧ Cts W0 oa n c L from hq ▸ hW0 ▸ F.out)
    rw [hW0, hq]
    clear hW0 hq F z0 z1 z2
    refine (mnew_any _).mono ?_
    rintro e W1 ⟨rfl, hT, hb⟩
    have HBM := Lib.hid F1.out.1.size
    have F2 := Lib.hid (And.intro (bcall F1.out.1 (Nat.le_refl _) hb) (And.intro (show MetAt W1 W0.heap.size X0 from hT) (And.intro (F1.out.2.1.keep hb) (F1.out.2.2.keep hb))))
    have HQM := Lib.hid (show q ≠ W0.heap.size from Nat.ne_of_lt (lt_of_blk F1.out.2.1))
    clear hT hb F1
    generalize W0.heap.size = m at *
    go_wp2_with fail
    refine (lives17 _).mono ?_
    rintro e W2 ⟨rfl, hb⟩
    have F3 := Lib.hid (And.intro (bcall F2.out.1 (Nat.le_refl _) hb) (And.intro (F2.out.2.1.keep hb) (And.intro (F2.out.2.2.1.keep hb) (F2.out.2.2.2.keep hb))))
    clear hb F2
    obtain ⟨z0, z1, z2⟩ := F3.out.2.2.1.cells
    go_wp2_with fail
    have hg := take_any F3.out.2.1 F3.out.2.2.2 src seq now
    rw [HE.out.1] at hg
    refine hg.mono ?_
    rintro e W4 ⟨rfl, hs⟩
    have F4 := Lib.hid (And.intro (Below.step F3.out.1 F3.out.1.size hs.but (by simp; exact HBM.out)) (And.intro hs.met (show RpS q src seq oa n c W4 from (hs.but.block _ (lt_of_blk F3.out.2.2.1) (by simp; exact HQM.out)).trans F3.out.2.2.1)))
    clear hg hs F3 z0 z1 z2
    obtain ⟨z0, z1, z2⟩ := F4.out.2.2.cells
    go_wp2_with fail
    have hg := stamp_any F4.out.2.1 src
    rw [HE.out.2.1, HE.out.2.2] at hg
    refine hg.mono ?_
    rintro e W5 ⟨rfl, hw5⟩
    subst hw5
    clear hg z0 z1 z2
    go_wp2_with fail
    refine (demands_any F4.out.2.1).mono ?_
    rintro e W6 ⟨v, M, rfl, hr⟩
    have hM := hr.dem.one (once_dem src seq L now)
    have hown := hr.own
    rw [hM] at hown
    obtain ⟨oq, cq, rfl, -, -⟩ := hown.sl0
    rw [show ([] : List Ct).length = 0 from rfl]
    have F5 := Lib.hid (And.intro (bcall F4.out.1 (Nat.le_refl _) hr.bel) (F4.out.2.1.keep hr.bel))
    clear hr hM hown F4
    go_wp2_with fail
    refine (over_any F5.out.2).mono ?_
    rintro e W7 ⟨M2, hd2, rfl, hb⟩
    rw [hd2.one (once_dem src seq L now), show (sumC [] == 9007199254740991) = false from by decide]
    have F6 := Lib.hid (bcall F5.out.1 (Nat.le_refl _) hb)
    clear hd2 hb F5
    go_wp2_with fail
    go_ret
    exact ⟨rfl, F6.out⟩
  · have HE := Lib.hid (And.intro hE (once_no hE))
    have hk0 : (takeE X0 src seq L now == 0) = false := by simpa using hE
    clear hE
    go_enter Try.func15, Try.ntmps15
    go_wp2_with fail
    obtain ⟨q, hq⟩ : ∃ q, w.heap.size = q := ⟨_, rfl⟩
    obtain ⟨W0, hW0⟩ : ∃ W, w.alloc (.cells #[.int .i64 src, .int .i64 seq, .slice oa n c] 82) = W := ⟨_, rfl⟩
    have F1 := Lib.hid (show Below w.heap.size w W0 ∧ RpS q src seq oa n c W0 ∧ Cts W0 oa n c L from hq ▸ hW0 ▸ F.out)
    rw [hW0, hq]
    clear hW0 hq F z0 z1 z2
    refine (mnew_any _).mono ?_
    rintro e W1 ⟨rfl, hT, hb⟩
    have HBM := Lib.hid F1.out.1.size
    have F2 := Lib.hid (And.intro (bcall F1.out.1 (Nat.le_refl _) hb) (And.intro (show MetAt W1 W0.heap.size X0 from hT) (And.intro (F1.out.2.1.keep hb) (F1.out.2.2.keep hb))))
    have HQM := Lib.hid (show q ≠ W0.heap.size from Nat.ne_of_lt (lt_of_blk F1.out.2.1))
    clear hT hb F1
    generalize W0.heap.size = m at *
    go_wp2_with fail
    refine (lives17 _).mono ?_
    rintro e W2 ⟨rfl, hb⟩
    have F3 := Lib.hid (And.intro (bcall F2.out.1 (Nat.le_refl _) hb) (And.intro (F2.out.2.1.keep hb) (And.intro (F2.out.2.2.1.keep hb) (F2.out.2.2.2.keep hb))))
    clear hb F2
    obtain ⟨z0, z1, z2⟩ := F3.out.2.2.1.cells
    go_wp2_with fail
    have hg := take_any F3.out.2.1 F3.out.2.2.2 src seq now
    obtain ⟨k, hk⟩ : ∃ k, takeE X0 src seq L now = k := ⟨_, rfl⟩
    rw [hk] at hg hk0
    clear hk
    refine hg.mono ?_
    rintro e W4 ⟨rfl, hs⟩
    have F4 := Lib.hid (And.intro (Below.step F3.out.1 F3.out.1.size hs.but (by simp; exact HBM.out)) (And.intro hs.met (show RpS q src seq oa n c W4 from (hs.but.block _ (lt_of_blk F3.out.2.2.1) (by simp; exact HQM.out)).trans F3.out.2.2.1)))
    clear hg hs F3 z0 z1 z2
    obtain ⟨z0, z1, z2⟩ := F4.out.2.2.cells
    go_wp2_with fail
    have hg := stamp_any F4.out.2.1 src
    rw [HE.out.2.1, HE.out.2.2] at hg
    refine hg.mono ?_
    rintro e W5 ⟨rfl, hw5⟩
    subst hw5
    clear hg z0 z1 z2
    go_wp2_with fail
    refine (demands_any F4.out.2.1).mono ?_
    rintro e W6 ⟨v, M, rfl, hr⟩
    have hM := hr.dem.one (once_dem src seq L now)
    have hown := hr.own
    rw [hM] at hown
    obtain ⟨oq, cq, rfl, -, -⟩ := hown.sl0
    rw [show ([] : List Ct).length = 0 from rfl]
    have F5 := Lib.hid (And.intro (bcall F4.out.1 (Nat.le_refl _) hr.bel) (F4.out.2.1.keep hr.bel))
    clear hr hM hown F4
    go_wp2_with fail
    refine (over_any F5.out.2).mono ?_
    rintro e W7 ⟨M2, hd2, rfl, hb⟩
    rw [hd2.one (once_dem src seq L now), show (sumC [] == 9007199254740991) = false from by decide]
    have F6 := Lib.hid (bcall F5.out.1 (Nat.le_refl _) hb)
    clear hd2 hb F5
    go_wp2_with fail
    go_ret
    exact ⟨rfl, F6.out⟩
end Go.Proofs.Ytfmehahjjgalfaa.Me
