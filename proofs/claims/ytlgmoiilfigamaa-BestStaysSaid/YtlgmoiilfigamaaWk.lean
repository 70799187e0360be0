/- Best, Clone, Delete, Rank. -/
import Derived.Test.YtlgmoiilfigamaaWj
import Derived.Test.YtlgmoiilfigamaaAp
import Derived.Test.YtlgmoiilfigamaaQt
namespace Go.Proofs.Ytlgmoiilfigamaa
open Go.RowKit

def bestN (L : List Rt) : Nat := ((cut lookC 6 (withAt L)).headD default).2.toNat
theorem withAt_mem {L : List Rt} {c : Cd} (h : c ∈ withAt L) : ∃ i : Nat, i < L.length ∧ c = (L.getD i default, (i : Int)) := by
  unfold withAt at h
  obtain ⟨p, hp, rfl⟩ := List.mem_map.1 h
  obtain ⟨x, i⟩ := p
  obtain ⟨h1, h2⟩ := List.mem_zipIdx' hp
  exact ⟨i, h1, by simp [List.getD_eq_getElem?_getD, h1, h2]⟩
theorem best_head (L : List Rt) (hL : L ≠ []) : bestN L < L.length ∧ (cut lookC 6 (withAt L)).headD default = (L.getD (bestN L) default, (bestN L : Int)) := by
  have hne : withAt L ≠ [] := fun h => hL (List.length_eq_zero_iff.1 (by rw [← withAt_length, h]; rfl))
  have hc := cut_ne (f := lookC) hne 6
  unfold bestN
  cases hm : cut lookC 6 (withAt L) with
  | nil => exact absurd hm hc
  | cons c r =>
    have hmem : c ∈ withAt L := (cut_sub (f := lookC) (withAt L) 6).subset (by rw [hm]; simp)
    obtain ⟨i, hi, rfl⟩ := withAt_mem hmem
    exact ⟨by simpa using hi, by simp⟩

set_option maxHeartbeats 1000000 in
theorem best_some (b off cap n : Nat) (L : List Rt) (w : World) (B : Nat) (hL : L ≠ []) (hn : L.length = n) (hB : B ≤ w.heap.size) (hr : R40.Row w b off L) (hok : ∀ x ∈ L, RtOk w B x ∧ Small x) (h60 : n ≤ 60) :
    Calls Try.prog 9 #[.slice (some ⟨b, off, none⟩) n cap] w fun e w' => e = .returned (.tuple #[.int .i64 (bestN L), .bool true]) ∧ Below w.heap.size w w' := by
  have HL := Lib.hid (left_some b off cap n L w B hL hn hB hr hok h60)
  have HB := Lib.hid (best_head L hL)
  have hlen : (cut lookC 6 (withAt L)).length ≤ 60 := by
    have := (cut_sub (f := lookC) (withAt L) 6).length_le
    rw [withAt_length] at this; omega
  clear hr hok hL hn
  go_enter Try.func9, Try.ntmps9
  go_wp2_with fail
  refine (HL.out).mono ?_
  rintro e w1 ⟨g, cap', rfl, h1⟩
  have S1 := Lib.hid h1
  clear h1
  go_wp2_with fail
  refine (lst22 S1.out).mono ?_
  rintro e w2 ⟨rfl, h1⟩
  have S2 := Lib.hid h1
  clear h1
  go_wp2_with fail
  refine (lst23 S2.out).mono ?_
  rintro e w3 ⟨rfl, h1⟩
  rw [show keep lookC 5 (keep lookC 4 (leftOf L)) = cut lookC 6 (withAt L) from rfl] at h1
  have hM : cut lookC 6 (withAt L) = cut lookC 6 (withAt L) := rfl
  obtain ⟨m, hm⟩ : ∃ m, m = (cut lookC 6 (withAt L)).length := ⟨_, rfl⟩
  have hm0 : 0 < m := by rw [hm]; exact List.length_pos_iff.2 h1.ne
  obtain ⟨cur, hrow⟩ := h1.row
  have hc := (hrow.at (i := 0) (by omega)).c10
  rw [show (cut lookC 6 (withAt L)).getD 0 default = (cut lookC 6 (withAt L)).headD default by cases cut lookC 6 (withAt L) <;> rfl, HB.out.2] at hc
  dsimp only at hc
  simp only [Nat.zero_mul, Nat.zero_add] at hc
  have S3 := Lib.hid h1.below
  have hmm : (cut lookC 6 (withAt L)).length = m := hm.symm
  rw [show (keep lookC 5 (keep lookC 4 (leftOf L))).length = m from hmm]
  clear h1 hM hrow hmm hm HL
  go_wp2_with fail
  go_ret2
  exact ⟨rfl, S3.out⟩
end Go.Proofs.Ytlgmoiilfigamaa
