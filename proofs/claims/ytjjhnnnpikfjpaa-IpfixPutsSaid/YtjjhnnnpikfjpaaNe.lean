/- Concat. -/
import Derived.Test.YtjjhnnnpikfjpaaNd
namespace Go.Proofs.Ytjjhnnnpikfjpaa
open Go.RowKit

/-- a slice's header -/
def RH : Rep (Option Addr × Nat × Nat) := ⟨27, 1, by decide, fun x => [.slice x.1 x.2.1 x.2.2], fun _ => rfl, fun _ => rfl⟩
/-- slices that read as lists of bytes -/
structure BSS (w : World) (vs : List (Option Addr × Nat × Nat)) (ls : List (List Nat)) : Prop where
  len : vs.length = ls.length
  all : ∀ j, j < ls.length → RB.Sl w (vs.getD j default).1 (vs.getD j default).2.1 (vs.getD j default).2.2 (ls.getD j []) ∧ ((vs.getD j default).1 = none → (vs.getD j default).2.2 = 0)
theorem BSS.keep {w w' : World} {vs : List (Option Addr × Nat × Nat)} {ls : List (List Nat)} (h : BSS w vs ls) (hb : Below w.heap.size w w') : BSS w' vs ls := ⟨h.len, fun j hj => ⟨(h.all j hj).1.keep hb, (h.all j hj).2⟩⟩
def lsum (ls : List (List Nat)) : Nat := ls.flatten.length
theorem lsum_take {ls : List (List Nat)} {i : Nat} (h : i < ls.length) : lsum (ls.take (i + 1)) = lsum (ls.take i) + (ls.getD i []).length ∧ (ls.take (i + 1)).flatten = (ls.take i).flatten ++ ls.getD i [] := by
  have h1 : ls.take (i + 1) = ls.take i ++ [ls.getD i []] := by rw [List.take_succ_eq_append_getElem h]; simp [List.getD_eq_getElem?_getD, h]
  unfold lsum
  rw [h1, List.flatten_append, List.length_append]
  simp
theorem lsum_le (ls : List (List Nat)) (i : Nat) : lsum (ls.take i) ≤ lsum ls := by
  unfold lsum
  have h : ls.flatten = (ls.take i).flatten ++ (ls.drop i).flatten := by rw [← List.flatten_append, List.take_append_drop]
  rw [h, List.length_append]; omega
set_option maxRecDepth 100000 in
set_option maxHeartbeats 1000000 in
theorem concat_any {w : World} {oa : Option Addr} {n c : Nat} {vs : List (Option Addr × Nat × Nat)} {ls : List (List Nat)} (h : RH.Sl w oa n c vs) (hs : BSS w vs ls) (hn : n ≤ 1000) (hl : lsum ls ≤ 1000000) : Calls Try.prog 25 #[.slice oa n c] w fun e w' => ∃ v, e = .returned v ∧ RB.Own w' w.heap.size v ls.flatten ∧ Below w.heap.size w w' := by
  have hnl : n = ls.length := h.len.trans hs.len
  have H := Lib.hid (And.intro h hs)
  clear h hs
  go_enter Try.func25, Try.ntmps25
  go_wp2_with fail
  go_loopw [3, 11] (fun sv iv wr => ∃ i : Nat, i ≤ n ∧ iv = .int .i64 i ∧ sv = .int .i64 (lsum (ls.take i) : Nat) ∧ wr = w) (fun _ iv _ => n - (intOf iv).toNat)
  case atStart => exact ⟨0, Nat.zero_le _, rfl, rfl, rfl⟩
  case round =>
    obtain ⟨i, hi, rfl, rfl, rfl⟩ := hrel
    by_cases hlt : i < n
    · obtain ⟨bb, oo, rfl, hbb, hat⟩ := H.out.1.at hlt
      have c0 := hat 0 (by decide)
      simp only [RH, Nat.mul_one, Nat.add_zero, List.getElem?_cons_zero] at c0
      have hall := H.out.2.all i (by omega)
      have hlen := hall.1.len
      obtain ⟨h1, -⟩ := lsum_take (ls := ls) (i := i) (by omega)
      have h2 := lsum_le ls i
      have h3 := lsum_le ls (i + 1)
      have hil : ((i : Int) < (n : Int)) = True := by simp; omega
      generalize vs.getD i default = x at *
      generalize ls.getD i [] = y at *
      generalize hA : lsum (ls.take i) = A at *
      generalize hB : lsum (ls.take (i + 1)) = B at *
      have hw : IntKind.i64.wrap ((A : Int) + (x.2.1 : Int)) = (B : Int) := by rw [IntWalk.i64_in _ (by omega)]; omega
      have hw0 : ((B : Int) < 0) = False := by simp only [eq_iff_iff, iff_false]; omega
      have HB := Lib.hid hB
      clear hall hat hA hB
      go_wp2_with fail
      exact ⟨⟨i + 1, by omega, by rw [Int.natCast_succ], by rw [HB.out, ← hw, IntWalk.i64_in _ (by omega), hlen], trivial⟩, by show n - ((i : Int) + 1).toNat < n - (i : Int).toNat; omega⟩
    · obtain rfl : n = i := by omega
      have hil : ((n : Int) < (n : Int)) = False := by simp
      have hs : lsum (ls.take n) = lsum ls := by rw [hnl, List.take_length]
      rw [hs]
      clear hs
      go_wp2_with fail
      obtain ⟨w0, rfl⟩ : ∃ w0 : World, w0 = wr := ⟨_, rfl⟩
      refine (grow_nil (lsum ls) (by omega) _).mono ?_
      rintro e w1 ⟨v1, rfl, ho1, hb1⟩
      have HF := Lib.hid (And.intro ho1 hb1)
      clear ho1 hb1
      go_wp2_with fail
      go_loopw [6, 27] (fun sv iv wr2 => ∃ i : Nat, i ≤ n ∧ iv = .int .i64 i ∧ RB.Own wr2 w0.heap.size sv (ls.take i).flatten ∧ Below w0.heap.size w0 wr2) (fun _ iv _ => n - (intOf iv).toNat)
      case atStart => exact ⟨0, Nat.zero_le _, rfl, HF.out.1, HF.out.2⟩
      case round =>
        obtain ⟨i, hi2, rfl, hown, hbl⟩ := hrel
        by_cases hlt2 : i < n
        · obtain ⟨w2, rfl⟩ : ∃ w2 : World, w2 = wr := ⟨_, rfl⟩
          obtain ⟨bb, oo, rfl, hbb, hat⟩ := (H.out.1.keep hbl).at hlt2
          have c0 := hat 0 (by decide)
          simp only [RH, Nat.mul_one, Nat.add_zero, List.getElem?_cons_zero] at c0
          have hall := (H.out.2.keep hbl).all i (by omega)
          have hlen := hall.1.len
          obtain ⟨h1, h2⟩ := lsum_take (ls := ls) (i := i) (by omega)
          have h3 := lsum_le ls (i + 1)
          have hil2 : ((i : Int) < (n : Int)) = True := by simp; omega
          generalize vs.getD i default = x at *
          generalize ls.getD i [] = y at *
          unfold lsum at h1 h3 hl
          have HB := Lib.hid (And.intro hown (And.intro hbl (And.intro hall h2)))
          clear hall hat h2 hown hbl
          go_wp2_with (at_builtin; refine halt ?_)
          refine Halted.go ?_
          refine Rep.append_list T27 rfl _ _ rfl (base := w0.heap.size) rfl HB.out.1 rfl (hlen ▸ HB.out.2.2.1.1) HB.out.2.2.1.2 (by unfold maxLen; omega) (by omega) HB.out.2.1.size ?_
          intro v3 w3 hown3 hb3 _
          have HG := Lib.hid (And.intro hown3 (HB.out.2.1.trans hb3))
          clear hown3 hb3
          go_wp2_with fail
          exact ⟨⟨i + 1, by omega, by rw [Int.natCast_succ], by rw [HB.out.2.2.2]; exact HG.out.1, HG.out.2⟩, by show n - ((i : Int) + 1).toNat < n - (i : Int).toNat; omega⟩
        · obtain rfl : n = i := by omega
          have HB := Lib.hid (And.intro hown hbl)
          clear hown hbl
          go_wp2_with fail
          go_ret
          refine ⟨_, rfl, ?_, HB.out.2⟩
          have := HB.out.1
          rwa [hnl, List.take_length] at this
end Go.Proofs.Ytjjhnnnpikfjpaa
