/- Large; routes are the same as themselves. -/
import Derived.Test.YtlgmoiilfigamaaWq
import Derived.Laws.StructEq
namespace Go.Proofs.Ytlgmoiilfigamaa
open Go.RowKit

def largeA (x : Rt) : Bool := decide (20 < x.path.length) || decide (100 < x.comms.length) || x.path.any fun s => decide (200 < s.ns.length)
theorem small_of {x : Rt} (h : largeA x = false) : Small x := by
  unfold largeA at h
  simp only [Bool.or_eq_false_iff, decide_eq_false_iff_not, List.any_eq_false, decide_eq_true_eq] at h
  exact ⟨by omega, by omega, fun s hs => by have := h.2 s hs; omega⟩
theorem any_take_succ {α : Type} [Inhabited α] (M : List α) (p : α → Bool) (k : Nat) (h : k < M.length) : (M.take (k + 1)).any p = ((M.take k).any p || p (M.getD k default)) := by
  rw [List.take_succ_eq_append_getElem h, List.any_append]
  simp [List.getD_eq_getElem?_getD, h]

set_option maxHeartbeats 1000000 in
theorem large18 (x : Rt) (w : World) (B : Nat) (_hB : B ≤ w.heap.size) (hx : RtOk w B x) : Calls Try.prog 18 #[x.attrs] w fun e w' => e = .returned (.bool (largeA x)) ∧ Below w.heap.size w w' := by
  obtain ⟨⟨hp1, hp2, hp3, hp4⟩, ⟨hc1, hc2, hc3⟩, -, -⟩ := hx
  have hpm : x.pn ≤ 9223372036854775807 := by unfold maxLen at hp2; omega
  have hcm : x.cn ≤ 9223372036854775807 := by unfold maxLen at hc2; omega
  have HX := Lib.hid (And.intro hp1 (And.intro hp3 (And.intro hp4 hc1)))
  unfold Rt.attrs
  by_cases h20 : 20 < x.pn
  · clear hp1 hp2 hp3 hp4 hc1 hc2 hc3
    go_enter Try.func18, Try.ntmps18
    go_wp2_with fail
    go_ret
    exact ⟨ret_bool (by unfold largeA; rw [← HX.out.1]; simp [h20]), (Below.refl _ _).alloc (Nat.le_refl _) _⟩
  · by_cases h100 : 100 < x.cn
    · clear hp1 hp2 hp3 hp4 hc1 hc2 hc3
      go_enter Try.func18, Try.ntmps18
      go_wp2_with fail
      go_ret
      exact ⟨ret_bool (by unfold largeA; rw [← HX.out.1, ← HX.out.2.2.2]; simp [h100]), (Below.refl _ _).alloc (Nat.le_refl _) _⟩
    · clear hp1 hp2 hp3 hp4 hc1 hc2 hc3
      go_enter Try.func18, Try.ntmps18
      go_wp2_with fail
      go_loop [3] (fun iv => ∃ k : Nat, k ≤ x.pn ∧ iv = .int .i64 k ∧ ((x.path.take k).any fun s => decide (200 < s.ns.length)) = false) (fun iv => x.pn - (intOf iv).toNat)
      case atStart => exact ⟨0, Nat.zero_le _, rfl, rfl⟩
      case round =>
        obtain ⟨k, hk, rfl, hno⟩ := hrel
        by_cases hlt : k < x.pn
        · have hseg : x.path.getD k default ∈ x.path := getD_mem (by rw [← HX.out.1]; exact hlt)
          obtain ⟨b, off, hpa, hbB, hcell⟩ := HX.out.2.1 (by omega)
          have hc := (hcell k hlt).2
          obtain ⟨hs1, hs2, -⟩ := HX.out.2.2.1 _ hseg
          have hts := any_take_succ x.path (fun s => decide (200 < s.ns.length)) k (by rw [← HX.out.1]; exact hlt)
          rw [hno] at hts
          generalize hs : x.path.getD k default = s at *
          have hcb : ∀ o : Obj, (w.alloc o).cell? ⟨b, off + k * 2 + 1, none⟩ = some (.slice s.sa s.sn s.sc) := fun o => cell_hold hc o
          have hsm : s.sn ≤ 9223372036854775807 := by unfold maxLen at hs2; omega
          have HS := Lib.hid (And.intro hts (And.intro hs1 (And.intro hs hseg)))
          clear hts hs1 hs hseg hno hs2 hcell hc
          rw [hpa]
          by_cases h200 : 200 < s.sn
          · go_wp2_with fail
            go_ret
            refine ⟨ret_bool ?_, (Below.refl _ _).alloc (Nat.le_refl _) _⟩
            unfold largeA
            have : (x.path.any fun s => decide (200 < s.ns.length)) = true := List.any_eq_true.2 ⟨s, HS.out.2.2.2, by rw [← HS.out.2.1]; simp [h200]⟩
            rw [this]; simp
          · go_wp2_with fail
            go_round
            case rel => exact ⟨k + 1, by omega, by go_num, by rw [HS.out.1, ← HS.out.2.1]; simp [h200]⟩
            case measure => simp [intOf]; omega
        · have hf : ¬ ((k : Int) < x.pn) := by omega
          have hkn : x.path.take k = x.path := List.take_of_length_le (by rw [← HX.out.1]; omega)
          rw [hkn] at hno
          have HN := Lib.hid hno
          clear hno hkn
          go_wp2_with fail
          go_ret
          refine ⟨ret_bool ?_, (Below.refl _ _).alloc (Nat.le_refl _) _⟩
          unfold largeA
          rw [HN.out, ← HX.out.1, ← HX.out.2.2.2]
          simp [h20, h100]
end Go.Proofs.Ytlgmoiilfigamaa
