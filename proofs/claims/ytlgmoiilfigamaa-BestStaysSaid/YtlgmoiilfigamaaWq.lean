/- The reference's Rank. -/
import Derived.Test.YtlgmoiilfigamaaWp
namespace Go.Proofs.Ytlgmoiilfigamaa
open Go.RowKit

theorem own_empty {w : World} {T : TypeId} (hT : T = 40) : R40.Own (w.alloc (.cells #[] T)) w.heap.size (.slice (some ⟨w.heap.size, 0, none⟩) 0 0) [] := by
  subst hT
  exact ⟨rfl, .inr ⟨w.heap.size, 0, #[], rfl, Nat.le_refl _, hnew _ _, Nat.le_refl _, by unfold maxLen; omega, rfl, rfl⟩⟩

set_option maxHeartbeats 2000000 in
theorem rrank_any (oa : Option Addr) (n c : Nat) (L : List Rt) (w : World) (B : Nat) (hs : R40.Sl w oa n c L) (hc : oa = none → c = 0) (hi : Ins w B L) :
    Calls Try.prog 15 #[.slice oa n c] w fun e w' => ∃ v, e = .returned v ∧ R40.Own w' w.heap.size v (rankOf L) ∧ Below w.heap.size w w' := by
  have h60 : n ≤ 60 := by rw [hs.len]; exact hi.h60
  have HI := Lib.hid (And.intro hi (And.intro hs.len (And.intro hs hc)))
  clear hs hi hc
  go_enter Try.func15, Try.ntmps15
  go_wp2_with (at_builtin; refine halt ?_)
  refine Halted.go ?_
  refine Rep.append_list T22 rfl _ _ rfl (base := w.heap.size) (L := []) (M := L) rfl (own_empty rfl) rfl (HI.out.2.2.1.keep ((Below.refl _ _).alloc (Nat.le_refl _) _)) HI.out.2.2.2 (by unfold maxLen; simp; omega) (by simp; omega) (by simp) ?_
  intro v1 w1 hown hb _
  have hb' : Below w.heap.size w w1 := ((Below.refl _ _).alloc (Nat.le_refl _) _).trans hb
  have hsz := hb'.size
  have HB := Lib.hid (And.intro hb' (show R40.Own w1 w.heap.size v1 L from hown))
  clear hown hb hb'
  go_wp2_with fail
  go_loopw [3, 4, 5, 6] (fun rv ov _ _ wr => ∃ (k : Nat) (M O : List Rt), k = M.length ∧ k ≤ n ∧ O.length = n - k ∧ O ++ rank k M = rankOf L ∧ (∀ x ∈ M, x ∈ L) ∧ (∃ a c, rv = .slice a k c) ∧ (∃ B1, w.heap.size ≤ B1 ∧ R40.Own wr B1 rv M ∧ R40.Own wr w.heap.size ov O ∧ (∀ q, ov.ownBlock = some q → q < B1)) ∧ Below w.heap.size w wr) (fun rv _ _ _ _ => match rv with | .slice _ n _ => n | _ => 0)
  case atStart =>
    obtain ⟨hb, hown⟩ := HB.out
    obtain ⟨a, c', rfl, h2, h3, hsl, hab⟩ := hown.sl
    exact ⟨n, L, [], HI.out.2.1, Nat.le_refl _, by simp, by unfold rankOf; rw [HI.out.2.1]; rfl, fun _ h => h, ⟨a, c', by rw [HI.out.2.1]⟩, ⟨w.heap.size, Nat.le_refl _, hown, Rep.Own.nil _ w.heap.size, fun q h => by cases h⟩, hb⟩
  case round =>
    obtain ⟨k, M, O, hMk, hkn, hOl, hrk, hsub, ⟨ra, rc, rfl⟩, ⟨B1, hB1, hrest, hout, hlow⟩, hb⟩ := hrel
    have hszr := hb.size
    cases k with
    | zero =>
      have HF := Lib.hid (And.intro hrk (And.intro hout hb))
      clear hrk hout hb hrest hlow hsub hMk hOl
      go_wp2_with fail
      go_ret
      obtain ⟨hrk, hout, hb⟩ := HF.out
      simp only [rank, List.append_nil] at hrk
      rw [← hrk]
      exact ⟨_, rfl, hout, hb⟩
    | succ m =>
      have hne : M ≠ [] := by intro h; rw [h] at hMk; simp at hMk
      rcases hrest.cases with ⟨_, he⟩ | ⟨g, cap, hv, hg, hgl, h1, h2, hrow, -⟩
      · exact absurd he hne
      injection hv with hv1 hv2 hv3
      subst hv1 hv3
      clear hv2
      rw [← hMk] at h1
      obtain ⟨hbl, -⟩ := best_head M hne
      obtain ⟨i, hi⟩ : ∃ i, i = bestN M := ⟨_, rfl⟩
      have hbw : Below B w wr := hb.mono HI.out.1.hB
      have hbest := rbest_any (some ⟨g, 0, none⟩) (m + 1) rc M wr B ⟨hMk, by omega, fun _ => ⟨g, 0, rfl, hrow⟩⟩ ((HI.out.1.below hbw).sub hsub (by omega))
      rw [← hi] at hbest hbl
      rw [show (!M.isEmpty) = true by cases M; exact absurd rfl hne; rfl] at hbest
      have hrk' : (O ++ [M.getD i default]) ++ rank m (M.eraseIdx i) = rankOf L := by rw [← hrk, hi]; simp [rank]
      have hatx : R40.At wr g (i * 10) (M.getD i default) := by have := hrow.get i hbl; rwa [Nat.zero_add] at this
      have hil : i < m + 1 := by omega
      have hgq : some g ≠ Value.ownBlock _ := fun h => by have := hlow g h.symm; omega
      generalize hx : M.getD i default = x at *
      have HB1 := Lib.hid hbest
      have HS := Lib.hid (And.intro hMk (And.intro hOl (And.intro hrk' (And.intro hsub (And.intro hrow (And.intro hout (And.intro hb (And.intro hatx hgq))))))))
      clear hbest hMk hOl hrk' hsub hrow hout hb hatx hrk hne hbl hi hx hbw hrest hlow hgq
      have hf : (0 : Int) < ((m + 1 : Nat) : Int) := by omega
      have hcm : rc ≤ 9223372036854775807 := by unfold maxLen at h2; omega
      go_wp2_with fail
      refine (HB1.out).mono ?_
      rintro e w2 ⟨rfl, hb2⟩
      have hat := (HS.out.2.2.2.2.2.2.2.1).keep (hb2.block g hgl)
      have c0 := hat 0 (by decide)
      have c1 := hat 1 (by decide)
      have c2 := hat 2 (by decide)
      have c3 := hat 3 (by decide)
      have c4 := hat 4 (by decide)
      have c5 := hat 5 (by decide)
      have c6 := hat 6 (by decide)
      have c7 := hat 7 (by decide)
      have c8 := hat 8 (by decide)
      have c9 := hat 9 (by decide)
      simp only [R40, Rt.cells, Nat.add_zero, List.getElem?_cons_zero, List.getElem?_cons_succ] at c0 c1 c2 c3 c4 c5 c6 c7 c8 c9
      have hil' : (i : Int) < (m : Int) + 1 := by omega
      have HB2 := Lib.hid hb2
      have hsz2 := hb2.size
      clear hb2 hat
      go_wp2_with (at_builtin; refine halt ?_)
      refine Halted.go ?_
      refine Rep.append_one T22 rfl _ _ rfl rfl ((HS.out.2.2.2.2.2.1.below HB2.out).alloc _) x w2.heap.size 1 rfl (hnew _ _) HS.out.2.1 (by unfold maxLen; omega) (by omega) (by simp; omega) ?_
      intro v' w3 hown' hb3 hg3
      have hsz3 := hg3.size
      simp only [World.size_alloc] at hsz3
      have hgg : w3.heap[g]? = wr.heap[g]? := (hg3.block g (by simp; omega) HS.out.2.2.2.2.2.2.2.2).trans ((Below.heap_alloc w2 _ g (by omega)).trans (HB2.out.block g hgl))
      have hrow3 : R40.Row w3.drew g 0 M := Rep.Row.keep (w := wr) HS.out.2.2.2.2.1 hgg
      have hbw3 : Below w.heap.size w w3 := ((HS.out.2.2.2.2.2.2.1.trans (HB2.out.mono hszr)).alloc (by omega) _).trans hb3
      have HO := Lib.hid (And.intro hown' (And.intro hbw3 hrow3))
      clear hown' hb3 hg3 hgg hrow3 hbw3 c0 c1 c2 c3 c4 c5 c6 c7 c8 c9
      have hi1 : i ≤ rc := by omega
      have hi2 : i ≤ m := by omega
      have hi3 : ((i : Int) + 1).toNat = i + 1 := by omega
      have hi4 : (0 : Int) ≤ (i : Int) + 1 := by omega
      have hi5 : (i : Int) ≤ (m : Int) := by omega
      have hiw : IntKind.i64.wrap ((i : Int) + 1) = (i : Int) + 1 := IntWalk.i64_in _ (by omega)
      go_wp2_with fail
      refine wp_region_pure [1, 2, 3, 5, 6, 7, 8] [0, 4, 9, 10] (by kernel_rfl) (by kernel_rfl) (fun _ _ d _ _ h => by cases d <;> exact h) ?_
      simp only [pick, List.getD_cons_zero, List.getD_cons_succ]
      iterate 7 (refine wpPure_step (fun K hK => ?_); go_simp; refine hK _ ?_; clear hK K)
      refine wpPure_nil ?_
      generalize hsa : (if rc = i + 1 then (some ⟨g, 0, none⟩ : Option Addr) else some ⟨g, (i + 1) * 10, none⟩) = sa
      have HSA := Lib.hid hsa
      clear hsa
      go_wp2_with (at_builtin; refine halt ?_)
      refine Halted.go ?_
      have hrow3 := HO.out.2.2
      have hMk := HS.out.1
      have hs1 : R40.Sl w3.drew (some ⟨g, 0, none⟩) i rc (M.take i) := ⟨by rw [List.length_take]; omega, by omega, fun _ => ⟨g, 0, rfl, hrow3.take i⟩⟩
      have hs2 : R40.Sl w3.drew sa (m - i) (rc - (i + 1)) (M.drop (i + 1)) := ⟨by rw [List.length_drop]; omega, by unfold maxLen; omega, fun h0 => ⟨g, (i + 1) * 10, by rw [← HSA.out, if_neg (by omega)], by have := hrow3.drop (i + 1); rwa [Nat.zero_add] at this⟩⟩
      have hb0 : Below w3.drew.heap.size w3.drew (w3.drew.alloc (.cells #[] 40)) := (Below.refl _ _).alloc (Nat.le_refl _) _
      have HA := Lib.hid (And.intro hs1 (And.intro hs2 (And.intro hb0 hMk)))
      clear hs1 hs2 hb0 hrow3 hMk
      refine Rep.append_list T22 rfl _ _ rfl (base := w3.heap.size) (L := []) (M := M.take i) rfl (own_empty (w := w3.drew) rfl) rfl (HA.out.1.keep HA.out.2.2.1) (fun h => by cases h) (by unfold maxLen; simp; omega) (by simp; omega) (by simp) ?_
      intro v4 w4 hown4 hb4 _
      have H4 := Lib.hid (And.intro (show R40.Own w4 w3.heap.size v4 ([] ++ M.take i) from hown4) (show Below w3.drew.heap.size w3.drew w4 from HA.out.2.2.1.trans hb4))
      have hsz4 : w3.heap.size ≤ w4.heap.size := H4.out.2.size
      clear hown4 hb4
      go_wp2_with (at_builtin; refine halt ?_)
      refine Halted.go ?_
      refine Rep.append_list T22 rfl _ _ rfl (base := w3.heap.size) (M := M.drop (i + 1)) rfl H4.out.1 rfl (HA.out.2.1.keep H4.out.2) (fun h => by have := HSA.out; rw [h] at this; split at this <;> cases this) (by unfold maxLen; simp; omega) (by simp; omega) hsz4 ?_
      intro v5 w5 hown5 hb5 _
      have hrest' : R40.Own w5 w3.heap.size v5 (M.eraseIdx i) := by rw [List.eraseIdx_eq_take_drop_succ]; exact hown5
      obtain ⟨a5, c5, rfl, h51, h52, -⟩ := hrest'.sl
      have hle5 : (M.eraseIdx i).length = m := by rw [List.length_eraseIdx]; have := HA.out.2.2.2; split <;> omega
      have hb35 : Below w3.heap.size w3 w5 := undrew (H4.out.2.trans hb5)
      have H5 := Lib.hid (And.intro hrest' (And.intro hle5 hb35))
      rw [hle5]
      clear hown5 hb5 hrest' hle5 hb35 h51 h52
      go_wp2_with fail
      go_roundw
      case rel =>
        obtain ⟨hMk, hOl, hrk', hsub, -, hout, hb, -, -⟩ := HS.out
        obtain ⟨hrest', hle5, hb35⟩ := H5.out
        refine ⟨m, _, O ++ [x], hle5.symm, by omega, ?_, hrk', ?_, ⟨_, _, rfl⟩, ⟨w3.heap.size, by omega, ?_, HO.out.1.below hb35, ?_⟩, HO.out.2.1.trans (hb35.mono (by omega))⟩
        · simp; omega
        · exact fun y hy => hsub y (List.mem_of_mem_eraseIdx hy)
        · rw [hle5] at hrest'; exact hrest'
        · exact fun q hq => (World.ownsRow.lt HO.out.1 q hq).2
      case measure => simp
end Go.Proofs.Ytlgmoiilfigamaa
