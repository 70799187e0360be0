/- Large of routes; what is the same as itself. -/
import Derived.Test.YtlgmoiilfigamaaWr
namespace Go.Proofs.Ytlgmoiilfigamaa
open Go.RowKit

def largeB (L : List Rt) : Bool := decide (60 < L.length) || L.any largeA
theorem ins_of {w : World} {B : Nat} {L : List Rt} (hB : B ≤ w.heap.size) (hx : ∀ x ∈ L, RtOk w B x) (h : largeB L = false) : Ins w B L := by
  unfold largeB at h
  simp only [Bool.or_eq_false_iff, decide_eq_false_iff_not, List.any_eq_false] at h
  exact ⟨hB, fun x hm => ⟨hx x hm, small_of (by simpa using h.2 x hm)⟩, by omega⟩

set_option maxHeartbeats 1000000 in
theorem large_any (oa : Option Addr) (n c : Nat) (L : List Rt) (w : World) (B : Nat) (hB : B ≤ w.heap.size) (hs : R40.Sl w oa n c L) (hx : ∀ x ∈ L, RtOk w B x) :
    Calls Try.prog 7 #[.slice oa n c] w fun e w' => e = .returned (.bool (largeB L)) ∧ Below w.heap.size w w' := by
  have hm : n ≤ 9223372036854775807 := by have := hs.max; unfold maxLen at this; omega
  have HS := Lib.hid (And.intro hs hx)
  clear hs hx
  by_cases h60 : 60 < n
  · go_enter Try.func7, Try.ntmps7
    go_wp2_with fail
    go_ret
    exact ⟨ret_bool (by unfold largeB; rw [← HS.out.1.len]; simp [h60]), Below.refl _ _⟩
  · go_enter Try.func7, Try.ntmps7
    go_wp2_with fail
    go_loopw [3] (fun iv wr => ∃ k : Nat, k ≤ n ∧ iv = .int .i64 k ∧ (L.take k).any largeA = false ∧ Below w.heap.size w wr) (fun iv _ => n - (intOf iv).toNat)
    case atStart => exact ⟨0, Nat.zero_le _, rfl, rfl, Below.refl _ _⟩
    case round =>
      obtain ⟨k, hk, rfl, hno, hb⟩ := hrel
      have hsz := hb.size
      by_cases hlt : k < n
      · obtain ⟨b, off, rfl, hlb, hat0⟩ := HS.out.1.at hlt
        have hat := hat0.keep (hb.block b hlb)
        have hxm : L.getD k default ∈ L := getD_mem (by rw [← HS.out.1.len]; exact hlt)
        have hok := (HS.out.2 _ hxm).below (hb.mono hB)
        have hts := any_take_succ L largeA k (by rw [← HS.out.1.len]; exact hlt)
        rw [hno, Bool.false_or] at hts
        generalize hx : L.getD k default = x at *
        have c0 := hat 0 (by decide)
        have c1 := hat 1 (by decide)
        have c2 := hat 2 (by decide)
        have c3 := hat 3 (by decide)
        have c4 := hat 4 (by decide)
        have c5 := hat 5 (by decide)
        have c6 := hat 6 (by decide)
        have c7 := hat 7 (by decide)
        have c8 := hat 8 (by decide)
        have c9 := hat 9 (by decide)
        simp only [R40, Rt.cells, Nat.add_zero, List.getElem?_cons_zero, List.getElem?_cons_succ] at c0 c1 c2 c3 c4 c5 c6 c7 c8 c9
        have HL := Lib.hid (large18 x wr B (by omega) hok)
        unfold Rt.attrs at HL
        have HQ := Lib.hid (And.intro hts (And.intro hb (And.intro hxm hx)))
        clear hts hb hxm hx hok hat hat0 hno
        go_wp2_with fail
        refine (HL.out).mono ?_
        rintro e w1 ⟨rfl, hb1⟩
        have HB1 := Lib.hid hb1
        clear hb1 c0 c1 c2 c3 c4 c5 c6 c7 c8 c9
        cases hla : largeA x with
        | true =>
          have HLA := Lib.hid hla
          clear hla
          go_wp2_with fail
          go_ret
          refine ⟨ret_bool ?_, HQ.out.2.1.trans (HB1.out.mono hsz)⟩
          unfold largeB
          rw [List.any_eq_true.2 ⟨x, HQ.out.2.2.1, HLA.out⟩]; simp
        | false =>
          have HLA := Lib.hid hla
          clear hla
          go_wp2_with fail
          go_roundw
          case rel => exact ⟨k + 1, by omega, by go_num, by rw [HQ.out.1]; exact HLA.out, HQ.out.2.1.trans (HB1.out.mono hsz)⟩
          case measure => simp [intOf]; omega
      · have hf : ¬ ((k : Int) < n) := by omega
        have hkn : L.take k = L := List.take_of_length_le (by have := HS.out.1.len; omega)
        rw [hkn] at hno
        have HN := Lib.hid (And.intro hno hb)
        clear hno hkn hb
        go_wp2_with fail
        go_ret
        refine ⟨ret_bool ?_, HN.out.2⟩
        unfold largeB
        rw [HN.out.1, ← HS.out.1.len]
        simp [h60]

set_option maxHeartbeats 1000000 in
theorem sameInts_self (oa : Option Addr) (n c : Nat) (xs : List Int) (w : World) (B : Nat) (hB : B ≤ w.heap.size) (hx : IntsAt w B oa n xs) :
    Calls Try.prog 37 #[.slice oa n c, .slice oa n c] w fun e w' => e = .returned (.bool true) ∧ Below w.heap.size w w' := by
  obtain ⟨h1, h2, h3⟩ := hx
  have hm : n ≤ 9223372036854775807 := by unfold maxLen at h2; omega
  have HX := Lib.hid h3
  clear h1 h2 h3
  go_enter Try.func37, Try.ntmps37
  go_wp2_with fail
  go_loopw [5] (fun iv wr => ∃ k : Nat, k ≤ n ∧ iv = .int .i64 k ∧ Below w.heap.size w wr) (fun iv _ => n - (intOf iv).toNat)
  case atStart => exact ⟨0, Nat.zero_le _, rfl, Below.refl _ _⟩
  case round =>
    obtain ⟨k, hk, rfl, hb⟩ := hrel
    by_cases hlt : k < n
    · obtain ⟨b, off, rfl, hbB, hcell⟩ := HX.out (by omega)
      have hc := (hb.cell (p := ⟨b, off + k, none⟩) (by dsimp only; omega)).trans (hcell k hlt)
      generalize xs.getD k 0 = z at *
      have HB := Lib.hid hb
      clear hb hcell
      go_wp2_with fail
      refine wp_region_quiet_tail (fun w' => w' = wr.drew) 8 (by kernel_rfl) (by kernel_rfl) rfl ?_
      simp only [List.take_succ_cons, List.take_zero, List.drop_succ_cons, List.drop_zero]
      iterate 8 (refine wpQuiet_step (fun K hK => ?_); go_simp; refine hK _ ?_; clear hK K)
      refine wpQuiet_nil ?_
      rintro _ rfl
      go_wp2_with fail
      go_roundw
      case rel => exact ⟨k + 1, by omega, by go_num, HB.out.drew⟩
      case measure => simp [intOf]; omega
    · have hf : ¬ ((k : Int) < n) := by omega
      have HB := Lib.hid hb
      clear hb
      go_wp2_with fail
      go_ret
      exact ⟨rfl, HB.out⟩
end Go.Proofs.Ytlgmoiilfigamaa
