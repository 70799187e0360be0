/-
  Proved: 'bypathlaw15.BestRanks' returns true for every input and leaves its arguments as they were. No conditions.
-/
import Derived.Test.YtlgmoiilfigamaaWy
import Derived.Test.YtlgmoiilfigamaaPz
namespace Go.Proofs.Ytlgmoiilfigamaa
open Go.ChangeShapes Go.WideShapes Go.ChangeAt Go.RowKit

set_option maxHeartbeats 4000000 in
theorem ranks_any (oa : Option Addr) (n c : Nat) (L : List Rt) (w : World) (h : Came w oa n c L) : Calls Try.prog 6 #[.slice oa n c] w fun e w' => e = .returned (.bool true) ∧ Below w.heap.size w w' := by
  have hn := h.low
  have HL := Lib.hid (large_any oa n c L w w.heap.size (Nat.le_refl _) h.sl h.ok)
  cases hlg : largeB L with
  | true =>
    rw [hlg] at HL
    clear hlg h
    go_enter Try.func6, Try.ntmps6
    go_wp2_with fail
    refine (HL.out).mono ?_
    rintro e w1 ⟨rfl, hb⟩
    have B1 := Lib.hid hb
    clear hb
    go_wp2_with fail
    refine (lives_any _).mono ?_
    rintro e w2 ⟨rfl, hb⟩
    have B2 := Lib.hid (B1.out.trans (hb.mono B1.out.size))
    clear hb
    go_wp2_with fail
    go_ret
    exact ⟨rfl, B2.out⟩
  | false =>
    rw [hlg] at HL
    by_cases h30 : 30 < n
    · clear hlg h
      go_enter Try.func6, Try.ntmps6
      go_wp2_with fail
      refine (HL.out).mono ?_
      rintro e w1 ⟨rfl, hb⟩
      have B1 := Lib.hid hb
      clear hb
      go_wp2_with fail
      refine (lives_any _).mono ?_
      rintro e w2 ⟨rfl, hb⟩
      have B2 := Lib.hid (B1.out.trans (hb.mono B1.out.size))
      clear hb
      go_wp2_with fail
      go_ret
      exact ⟨rfl, B2.out⟩
    · have hi := ins_of (Nat.le_refl _) h.ok hlg
      have HI := Lib.hid (And.intro hi h)
      have hdrop := bestN_drop L
      have HD := Lib.hid (And.intro hdrop h.sl.len)
      clear hlg h hi hdrop
      go_enter Try.func6, Try.ntmps6
      go_wp2_with fail
      refine (HL.out).mono ?_
      rintro e w1 ⟨rfl, hb⟩
      have B1 := Lib.hid hb
      clear hb
      go_wp2_with fail
      refine (rank_any oa n c L w1 w.heap.size (HI.out.2.sl.keep B1.out) HI.out.2.nil (HI.out.1.below B1.out)).mono ?_
      rintro e w2 ⟨v2, rfl, hown, hb⟩
      have hlr : (rankOf L).length = n := by unfold rankOf; rw [rank_length, HD.out.2]
      obtain ⟨a2, c2, rfl, hlc, hcm, hsl, -⟩ := hown.sl
      rw [hlr] at hlc hsl ⊢
      have hb2 := B1.out.trans (hb.mono B1.out.size)
      have hok2 : ∀ x ∈ rankOf L, x ∈ L := fun x hx => rank_mem _ _ _ (Nat.le_refl _) hx
      have B2 := Lib.hid (And.intro hb2 (And.intro hsl (And.intro hok2 hlr)))
      clear hb hown hsl hb2 hok2 hlr
      go_wp2_with fail
      refine (lives_any _).mono ?_
      rintro e w3 ⟨rfl, hb⟩
      have B3 := Lib.hid (And.intro (B2.out.1.trans (hb.mono B2.out.1.size)) (B2.out.2.1.keep hb))
      clear hb
      go_wp2_with fail
      go_loopw [4, 5, 6] (fun iv _ _ wr => ∃ k : Nat, k ≤ n ∧ iv = .int .i64 k ∧ Below w3.heap.size w3 wr) (fun iv _ _ _ => n - (intOf iv).toNat)
      case atStart => exact ⟨0, Nat.zero_le _, rfl, Below.refl _ _⟩
      case round =>
        obtain ⟨k, hk, rfl, hb⟩ := hrel
        have hsz := hb.size
        by_cases hlt : k < n
        · obtain ⟨g, o, rfl, hrow⟩ := B3.out.2.row (by omega)
          have hrw := hrow.below hb
          have hbw : Below w.heap.size w wr := B3.out.1.trans (hb.mono B3.out.1.size)
          have hsl2 : R40.Sl wr (some ⟨g, o + k * 10, none⟩) (n - k) (c2 - k) ((rankOf L).drop k) := ⟨by rw [List.length_drop, B2.out.2.2.2], by unfold maxLen; omega, fun _ => ⟨g, _, rfl, hrw.drop k⟩⟩
          have hin : Ins wr w.heap.size ((rankOf L).drop k) := (HI.out.1.below hbw).sub (fun x hx => B2.out.2.2.1 x (List.drop_subset _ _ hx)) (by rw [List.length_drop, B2.out.2.2.2]; omega)
          have hbest := best_any (some ⟨g, o + k * 10, none⟩) (n - k) (c2 - k) ((rankOf L).drop k) wr w.heap.size hsl2 hin
          rw [HD.out.1 k (by rw [← HD.out.2]; exact hlt)] at hbest
          have hne : (!((rankOf L).drop k).isEmpty) = true := by
            have : ((rankOf L).drop k).length = n - k := by rw [List.length_drop, B2.out.2.2.2]
            cases hd : (rankOf L).drop k with
            | nil => rw [hd] at this; simp at this; omega
            | cons _ _ => rfl
          rw [hne] at hbest
          have hat := hrw.get k (by rw [B2.out.2.2.2]; exact hlt)
          have hgl := hrw.lt
          generalize (rankOf L).getD k default = x at *
          have HBE := Lib.hid hbest
          have HA := Lib.hid (And.intro hat hb)
          have hkc : ¬ c2 = k := by omega
          have hkc2 : (k : Int) ≤ (n : Int) := by omega
          have hnc2 : n ≤ c2 := by omega
          have hc2m : c2 ≤ 9223372036854775807 := by unfold maxLen at hcm; omega
          clear hbest hat hb hbw hsl2 hin hrw hrow hne
          go_wp2_with fail
          refine (HBE.out).mono ?_
          rintro e w4 ⟨rfl, hb4⟩
          have hat4 := HA.out.1.keep (hb4.block g hgl)
          have c0 := hat4 0 (by decide)
          have c1 := hat4 1 (by decide)
          have c2 := hat4 2 (by decide)
          have c3 := hat4 3 (by decide)
          have c4 := hat4 4 (by decide)
          have c5 := hat4 5 (by decide)
          have c6 := hat4 6 (by decide)
          have c7 := hat4 7 (by decide)
          have c8 := hat4 8 (by decide)
          have c9 := hat4 9 (by decide)
          simp only [R40, Rt.cells, Nat.add_zero, List.getElem?_cons_zero, List.getElem?_cons_succ] at c0 c1 c2 c3 c4 c5 c6 c7 c8 c9
          have H4 := Lib.hid (HA.out.2.trans (hb4.mono hsz))
          clear hb4 hat4
          have hw1 : IntKind.i64.wrap ((n : Int) - k) = (n : Int) - k := IntWalk.i64_in _ (by omega)
          have hw2 : ¬ ((n : Int) - k ≤ 0) := by omega
          have hw3 : ¬ ((n : Int) ≤ k) := by omega
          have hw4 : IntKind.i64.wrap (k : Int) = (k : Int) := IntWalk.i64_in _ (by omega)
          go_wp2_with fail
          refine wp_region_quiet_tail (fun w' => w' = w4.drew) 28 (by kernel_rfl) (by kernel_rfl) rfl ?_
          simp only [List.take_succ_cons, List.take_zero, List.drop_succ_cons, List.drop_zero]
          iterate 28 (refine wpQuiet_step (fun K hK => ?_); go_simp; refine hK _ ?_; clear hK K)
          refine wpQuiet_nil ?_
          rintro _ rfl
          clear c0 c1 c2 c3 c4 c5 c6 c7 c8 c9 hw1 hw2 hw3 hw4
          go_wp2_with fail
          go_roundw
          case rel => exact ⟨k + 1, by omega, by go_num, H4.out.drew⟩
          case measure => simp [intOf]; omega
        · have hf : ¬ ((k : Int) < n) := by omega
          have HB := Lib.hid hb
          clear hb
          go_wp2_with fail
          go_ret
          exact ⟨rfl, B3.out.1.trans (HB.out.mono B3.out.1.size)⟩
set_option maxRecDepth 100000 in
theorem ranks_lifted (os : Os) (started : os.Started) (H : Type) (enc : TypeId × Value → H) :
    ReturnsInHanded {} Try.checked os 6 .any (Rows.bestRanksSpec.pre6 enc Try.prog Try.f6 Rows.bestRanksRow.domain false) (Rows.bestRanksSpec.post enc Try.prog Try.f6 false true false false) := by
  refine returnsInHanded_of_change (C := Try.checked) own started (by kernel_rfl) Try.func6
    (ChangeSpec.witness6 (enc := enc) (C := Try.checked) false ⟨#[], #[.slice none 0 0], []⟩ 8 (by kernel_rfl) (by kernel_rfl) (by kernel_rfl) (by kernel_rfl)) ?_
  intro W base args ds gs before hval0 hW hcnd _
  have hval : ∀ (j : Nat) t v, Try.f6.params[j]? = some t → args[j]? = some v → Value.okWide Try.prog W .any base t v := hval0
  have hW' := hW
  obtain ⟨p, q, hA0, hV, rfl, hfz, hnd⟩ := hW
  have hA : DataW.TrodAll enc Try.prog W 0 (fun _ => true) true Try.f6.params.toList args.toList ds p := hA0
  rw [Try.params6] at hA hval
  obtain ⟨v0, vs0, d0, ds0, p0, q0, hargs, rfl, rfl, h0, r0⟩ := trodAll_cons hA
  obtain ⟨rfl, rfl, rfl⟩ := trodAll_nil r0
  obtain rfl : args = #[v0] := by cases args; simp_all
  obtain ⟨rfl, rfl⟩ := trodVars_none hV
  have lt0 : ∀ x ∈ p0, x.block < W.heap.size := by obtain ⟨m, hm⟩ := h0; exact DataW.trod_lt m _ _ _ hm
  obtain ⟨x0, y0, z0, rfl⟩ := okWide_slice Try.underlying22 (hval 0 22 v0 rfl rfl)
  obtain ⟨s0, e0, ok0⟩ := (reads22).arg h0
  simp only [Value.cells, List.cons.injEq, Value.slice.injEq, and_true] at e0
  obtain ⟨rfl, rfl, rfl⟩ := e0
  clear hA0 hval0
  refine (ranks_any _ _ _ _ W (came_of ok0)).mono fun e W' ⟨he, bel⟩ => ?_
  subst he
  exact ⟨_, rfl, _, _, _, [], _, [], hW', trodAll_mk1 (shut_bool Try.underlying4 _), (trodAll_cons_mk (Below.trod laidOut (by kernel_rfl) (of_decide_eq_true (by kernel_rfl)) h0 bel lt0) trodAll_mk0), rfl, bel.frame _, fun h => by cases h⟩

theorem ranks_over : Rows.bestRanksRow.holds Try.pinned (OpenSpec.ofChange Rows.bestRanksSpec) :=
  OpenClaim.holds_of_wide 6 Try.f6 rfl rfl rfl rfl rfl rfl rfl ⟨rfl, rfl, rfl, rfl, rfl⟩ rfl rfl rfl rfl rfl (by kernel_rfl) Try.func6 (by kernel_rfl)
    (of_decide_eq_true (by kernel_rfl)) (by unfold Func.isWrapper; rw [if_neg (of_decide_eq_false (by kernel_rfl))]; exact ⟨rfl, rfl⟩)
    (fun os started H enc _ => ranks_lifted os started H enc)

theorem bestRanks_holds : Rows.BestRanksSaid := ranks_over
#print axioms bestRanks_holds
end Go.Proofs.Ytlgmoiilfigamaa
