/- Timers: Next. -/
import Derived.Test.YtfmehahjjgalfaaEc
import Derived.Test.YtfmehahjjgalfaaDd
namespace Go.Proofs.Ytfmehahjjgalfaa.Tim
open Go.RowKit
open Go.ChangeMaps (setBlock)

def minS (a : Int) (x : Tm) : Int := if x.at' < a then x.at' else a
def minT (L : List Tm) : Int := L.foldl minS 9007199254740991
theorem minT_perm {L M : List Tm} (h : L.Perm M) : minT L = minT M := by
  unfold minT
  refine h.foldl_eq' (fun x _ y _ z => ?_) _
  unfold minS
  (repeat' split) <;> omega
theorem minT_snoc (L : List Tm) (x : Tm) : minT (L ++ [x]) = if x.at' < minT L then x.at' else minT L := by
  unfold minT
  rw [List.foldl_append]
  rfl
theorem next_nil (w : World) : Calls Try.prog 27 #[.pointer none] w fun e w' => e = .returned (.tuple #[.int .i64 0, .bool false]) ∧ Below w.heap.size w w' := by
  have HL := Lib.hid (len_nil w)
  go_enter Try.func27, Try.ntmps27
  go_wp2_with fail
  refine HL.out.mono ?_
  rintro e W1 ⟨rfl, hw⟩
  subst hw
  go_wp2_with fail
  go_ret2
  exact ⟨rfl, Below.refl _ _⟩
theorem next_none {w : World} {t bm : Nat} (H : TimAt w t bm []) : Calls Try.prog 27 #[.pointer (some ⟨t, 0, none⟩)] w fun e w' => e = .returned (.tuple #[.int .i64 0, .bool false]) ∧ Below w.heap.size w w' := by
  have HL := Lib.hid (len_any H)
  clear H
  go_enter Try.func27, Try.ntmps27
  go_wp2_with fail
  refine HL.out.mono ?_
  rintro e W1 ⟨rfl, hw⟩
  subst hw
  go_wp2_with fail
  go_ret2
  exact ⟨rfl, Below.refl _ _⟩
set_option maxRecDepth 100000 in
set_option maxHeartbeats 1000000 in
theorem next_any {w : World} {t bm : Nat} {L : List Tm} (H : TimAt w t bm L) (hL : L ≠ []) : Calls Try.prog 27 #[.pointer (some ⟨t, 0, none⟩)] w fun e w' => e = .returned (.tuple #[.int .i64 (minT L), .bool true]) ∧ Below w.heap.size w w' := by
  have HM := Lib.hid (len_any H)
  have c0 := H.c0
  have hlt := H.lt
  obtain ⟨clk, es, k1, k2, k3⟩ := H.out
  obtain ⟨nl, hnl⟩ : ∃ nl, L.length = nl := ⟨_, rfl⟩
  have hz : ((nl : Int) == 0) = false := by
    have : nl ≠ 0 := fun h => hL (List.eq_nil_of_length_eq_zero (hnl.trans h))
    simp [this]
  rw [hnl] at HM
  have hrg := MR.run_range TN k2 Try.underlying104
  have hal := (Below.refl w.heap.size w).alloc (Nat.le_refl _) (.mapIter (some bm) clk #[] clk)
  have hit : (w.alloc (.mapIter (some bm) clk #[] clk)).heap[w.heap.size]? = some (.mapIter (some bm) clk #[] clk) := hnew _ _
  have HF := Lib.hid (And.intro k2 (And.intro k3 hlt.2.1))
  have HW := Lib.hid (And.intro hal hit)
  clear k1 k2 k3 hal hit hlt hL hnl H
  go_enter Try.func27, Try.ntmps27
  go_wp2_with fail
  refine HM.out.mono ?_
  rintro e W1 ⟨rfl, hw⟩
  subst hw
  go_wp2_with fail
  go_loopw [4] (fun ov wr => ∃ (done : List (MR.Ent TK)) (seen : Array Nat), ov = .int .i64 (minT (done.map (Kl.ofE Tm.k L))) ∧ wr.heap[W1.heap.size]? = some (.mapIter (some bm) clk seen clk) ∧ MR.Ran es seen done ∧ Below W1.heap.size W1 wr ∧ W1.heap.size + 1 ≤ wr.heap.size) (fun _ wr => es.length - seenN wr W1.heap.size)
  case atStart => exact ⟨[], #[], rfl, HW.out.2, MR.Ran.none _, HW.out.1, by simp⟩
  case round =>
    obtain ⟨done, seen, rfl, hit, hran, hb, hsz⟩ := hrel
    obtain ⟨w2, rfl⟩ : ∃ w2 : World, w2 = wr := ⟨_, rfl⟩
    have hm2 : MR.MapAt TN w2 bm es clk := HF.out.1.blk_iff TN (hb.block _ HF.out.2.2)
    obtain ⟨hdl, hsd⟩ := Ran_len hran HF.out.1.bnodup
    rcases MR.next_step TN hm2 hit 0 with ⟨hall, hnx⟩ | ⟨e, hein, hens, w3, hnx, hset⟩
    · have hpe := minT_perm (((hran.all HF.out.1.bnodup hall).map (Kl.ofE Tm.k L)).trans HF.out.2.1.perm)
      have G := Lib.hid (And.intro hpe hb)
      clear hm2 hit hran hb hdl hsd hall hpe hsz
      generalize minT (done.map (Kl.ofE Tm.k L)) = v at *
      go_wp2_with fail
      go_ret2
      exact ⟨by rw [G.out.1]; rfl, G.out.2⟩
    · have hm3 := hm2.blk_iff TN (hset.other (show bm ≠ W1.heap.size from by have := HF.out.2.2; omega))
      have hen := MR.run_entry TN hm3 hein (hset.at hsz)
      have hent0 := HF.out.2.1.ent hein
      rw [hent0.2.1] at hnx hen
      have hb3 : Below W1.heap.size W1 w3 := hb.trans (hset.below (Nat.le_refl _))
      have hr3 := hran.more hein hens
      have hit3 := hset.at hsz
      have hs3 : W1.heap.size + 1 ≤ w3.heap.size := by rw [hset.size]; exact hsz
      have hms : seenN w2 W1.heap.size = seen.size := seenN_of hit
      have hdl3 := (Ran_len hr3 HF.out.1.bnodup)
      have hme : minT ((done ++ [e]).map (Kl.ofE Tm.k L)) = if (Kl.ofE Tm.k L e).at' < minT (done.map (Kl.ofE Tm.k L)) then (Kl.ofE Tm.k L e).at' else minT (done.map (Kl.ofE Tm.k L)) := by
        rw [List.map_append]
        exact minT_snoc _ _
      have HG := Lib.hid (And.intro hme (And.intro hr3 (And.intro hb3 (And.intro hs3 (And.intro hit3 (And.intro hdl3 hms))))))
      generalize minT (done.map (Kl.ofE Tm.k L)) = v at *
      generalize Kl.ofE Tm.k L e = x at *
      generalize TN.enc e.1 = ke at *
      unfold Tm.v at hnx hen
      clear hran hb hdl hsd hm2 hit hm3 hset hens hb3 hr3 hit3 hs3 hme hdl3 hein hent0 hms hsz
      go_wp2_with fail
      obtain ⟨g1, g2, g3, g4, g5, g6, g7⟩ := HG.out
      refine ⟨⟨done ++ [e], seen.push e.2.2, ?_, g5, g2, g3, g4⟩, ?_⟩
      · rw [g1, show min v x.at' = (if x.at' < v then x.at' else v) from by rw [Int.min_def]; (repeat' split) <;> omega]
      · have h5 : seenN w3 W1.heap.size = (seen.push e.2.2).size := seenN_of g5
        have h6 := g6.2
        have h7 := g6.1
        rw [h5, g7]
        rw [Array.size_push] at h6 ⊢
        omega
end Go.Proofs.Ytfmehahjjgalfaa.Tim
