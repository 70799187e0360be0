/- Get, Len, Longest. -/
import Derived.Test.YtdhebjeajdohoaaSb
import Derived.Test.YtdhebjeajdohoaaTl
namespace Go.Proofs.Ytdhebjeajdohoaa
open Go.RowKit

theorem getS_nil (a : Nat) (l : Int) (w : World) : Calls Try.prog 32 #[.pointer none, pfx a l] w fun e w' => e = .returned (.tuple #[.string ByteArray.empty, .bool false]) ∧ Below w.heap.size w w' := by
  have H := Lib.hid (findS_nil a l)
  unfold pfx at H ⊢
  go_enter Try.func32, Try.ntmps32
  go_wp2_with (go_at_call 51; refine (H.out _).mono ?_; rintro e w1 ⟨rfl, hb⟩)
  go_ret2
  exact ⟨rfl, ((Below.refl _ _).alloc (Nat.le_refl _) _).trans (hb.mono (by simp))⟩
theorem getS_any {w : World} {b n : Nat} {N : Nat → Nat → Option Nat} {M : Nat → Nat → Option ByteArray} (h : TrieS w b N n M) (a : Nat) (l : Int) (ha : a < 4294967296) :
    Calls Try.prog 32 #[.pointer (some ⟨b, 0, none⟩), pfx a l] w fun e w' => e = .returned (.tuple #[.string ((look M a l).getD ByteArray.empty), .bool (look M a l).isSome]) ∧ Below w.heap.size w w' := by
  have hb0 := ((Below.refl w.heap.size w).alloc (Nat.le_refl _) (.cells #[.int .u32 a, .int .i64 l] 32))
  have HF := Lib.hid (findS_any (h.below hb0) a l ha)
  have HT := Lib.hid h
  clear ha
  cases hN : (if okP a l then N a l.toNat else none) with
  | none =>
    have hl : look M a l = none := by
      unfold look
      split
      · rename_i e; rw [if_pos e] at hN; exact h.thing_none hN
      · rfl
    rw [hl]
    rw [hN] at HF
    clear h hN hl
    unfold pfx at HF ⊢
    unfold ptr at HF
    simp only [Option.map_none, Option.getD_none, Option.isSome_none] at HF ⊢
    go_enter Try.func32, Try.ntmps32
    go_wp2_with (go_at_call 51; refine (HF.out).mono ?_; rintro e w1 ⟨rfl, hb⟩)
    go_ret2
    exact ⟨rfl, hb0.trans (hb.mono (by simp))⟩
  | some k =>
    have hok : okP a l = true := by
      cases h2 : okP a l with
      | true => rfl
      | false => rw [h2] at hN; simp at hN
    rw [hok, if_pos rfl] at hN
    have hl : look M a l = M a l.toNat := by unfold look; rw [if_pos hok]
    rw [hl]
    rw [hok, if_pos rfl, hN] at HF
    have HK := Lib.hid hN
    clear h hN hl hok
    unfold pfx at HF ⊢
    unfold ptr at HF
    simp only [Option.map_some] at HF
    generalize hx : M a l.toNat = x
    have HX := Lib.hid hx
    clear hx
    cases x with
    | none =>
      simp only [Option.getD_none, Option.isSome_none]
      go_enter Try.func32, Try.ntmps32
      go_wp2_with (go_at_call 51; refine (HF.out).mono ?_; rintro e w1 ⟨rfl, hb⟩; have hbw := hb0.trans (hb.mono (by simp)); obtain ⟨-, -, c2, c3, -⟩ := nodeS (HT.out.below hbw) HK.out; rw [HX.out] at c2 c3; simp only [Option.getD_none, Option.isSome_none] at c2 c3; clear hb)
      go_ret2
      exact ⟨rfl, hbw⟩
    | some y =>
      simp only [Option.getD_some, Option.isSome_some]
      go_enter Try.func32, Try.ntmps32
      go_wp2_with (go_at_call 51; refine (HF.out).mono ?_; rintro e w1 ⟨rfl, hb⟩; have hbw := hb0.trans (hb.mono (by simp)); obtain ⟨-, -, c2, c3, -⟩ := nodeS (HT.out.below hbw) HK.out; rw [HX.out] at c2 c3; simp only [Option.getD_some, Option.isSome_some] at c2 c3; clear hb)
      go_ret2
      exact ⟨rfl, hbw⟩
theorem lenS_nil (w : World) : Calls Try.prog 34 #[.pointer none] w fun e w' => e = .returned (.int .i64 0) ∧ w' = w := by
  go_enter Try.func34, Try.ntmps34
  go_wp2_with fail
  go_ret
  exact ⟨rfl, rfl⟩
theorem lenS_any {w : World} {b n : Nat} {N : Nat → Nat → Option Nat} {M : Nat → Nat → Option ByteArray} (h : TrieS w b N n M) : Calls Try.prog 34 #[.pointer (some ⟨b, 0, none⟩)] w fun e w' => e = .returned (.int .i64 n) ∧ w' = w := by
  obtain ⟨r, hr, hb⟩ := h.root
  have c1 : w.cell? ⟨b, 1, none⟩ = some (.int .i64 n) := cell_of hb rfl
  clear h hb
  go_enter Try.func34, Try.ntmps34
  go_wp2_with fail
  go_ret
  exact ⟨rfl, rfl⟩
theorem longS_nil (a : Nat) (w : World) : Calls Try.prog 30 #[.pointer none, .int .u32 a] w fun e w' => e = .returned (.tuple #[pfx 0 0, .string ByteArray.empty, .bool false]) ∧ Below w.heap.size w w' := by
  go_enter Try.func30, Try.ntmps30
  go_wp2_with (go_at_call 49; refine (madeS_nil _).mono ?_; rintro e w1 ⟨rfl, rfl⟩)
  refine ret_cell3 rfl rfl rfl (hnewAt rfl) Try.underlying32 rfl (by kernel_rfl) ⟨rfl, (Below.refl _ _).alloc (Nat.le_refl _) _⟩
theorem kidNoneS {w : World} {b n : Nat} {N : Nat → Nat → Option Nat} {M : Nat → Nat → Option ByteArray} (h : TrieS w b N n M) {a : Nat} {i k : Nat} (hk : N (cut a i) i = some k) :
    w.cell? ⟨k, if decide (i < 32) && a.testBit (31 - i) then 1 else 0, none⟩ = some (ptr (N (cut a (i + 1)) (i + 1))) := by
  obtain ⟨n0, n1, -, -, -⟩ := nodeS h hk
  have hle := (h.key _ _ _ hk).le
  by_cases hi : i < 32
  · rw [cut_kid a (by omega)]
    simp only [hi, decide_true, Bool.true_and]
    cases a.testBit (31 - i)
    · exact n0
    · exact n1
  · simp only [hi, decide_false, Bool.false_and, Bool.false_eq_true, if_false]
    rw [h.none33 _ (by omega)]
    rw [h.none33 _ (by omega)] at n0
    exact n0
set_option maxHeartbeats 1000000 in
theorem longS_any {w : World} {b n : Nat} {N : Nat → Nat → Option Nat} {M : Nat → Nat → Option ByteArray} (h : TrieS w b N n M) (a : Nat) (ha : a < 4294967296) :
    Calls Try.prog 30 #[.pointer (some ⟨b, 0, none⟩), .int .u32 a] w fun e w' => e = .returned (.tuple (match lng M a 33 with | none => #[pfx 0 0, .string ByteArray.empty, .bool false] | some j => #[pfx (cut a j) j, .string ((M (cut a j) j).getD ByteArray.empty), .bool true])) ∧ Below w.heap.size w w' := by
  obtain ⟨r, hr, hb⟩ := h.root
  have hb0 := ((Below.refl w.heap.size w).alloc (Nat.le_refl _) (.cells #[.int .u32 0, .int .i64 0] 32))
  have c0 : w.cell? ⟨b, 0, none⟩ = some (.pointer (some ⟨r, 0, none⟩)) := cell_of hb rfl
  have c1 := cell_hold c0 (.cells #[.int .u32 0, .int .i64 0] 32)
  have HM := Lib.hid (madeS_any (h.below hb0))
  have HT := Lib.hid (h.below hb0)
  have HA := Lib.hid ha
  have HB0 := Lib.hid hb0
  have HK := Lib.hid (fun (j : Nat) w => make_any a j ha w)
  generalize hres : (match lng M a 33 with | none => #[pfx 0 0, .string ByteArray.empty, .bool false] | some j => #[pfx (cut a j) j, .string ((M (cut a j) j).getD ByteArray.empty), .bool true]) = res
  have HRes := Lib.hid hres
  clear hres
  clear ha h hb hb0
  go_enter Try.func30, Try.ntmps30
  go_wp2_with (go_at_call 49; refine (HM.out).mono ?_; rintro e w1 ⟨rfl, rfl⟩)
  clear HM c0 c1
  obtain ⟨w1, hw1⟩ : ∃ w1 : World, w1 = w.alloc (.cells #[.int .u32 0, .int .i64 0] 32) := ⟨_, rfl⟩
  have hcell : w1.heap[w.heap.size]? = some (.cells #[.int .u32 0, .int .i64 0] 32) := by rw [hw1]; exact hnew _ _
  have HCell := Lib.hid hcell
  rw [← hw1] at HT HB0 ⊢
  clear hw1 hcell
  go_loopw [7, 8, 9, 10] (fun xv lv av iv wr => ∃ i : Nat, i ≤ 33 ∧ iv = .int .i64 i ∧ av = ptr (N (cut a i) i) ∧ xv = .string (lngX ByteArray.empty M a i) ∧ lv = .int .i64 (lngN M a i) ∧ Below w1.heap.size w1 wr) (fun _ _ _ iv _ => 34 - (intOf iv).toNat)
  case atStart => exact ⟨0, by omega, rfl, by rw [cut_0 HA.out, hr]; rfl, rfl, rfl, Below.refl _ _⟩
  case round =>
    obtain ⟨i, hi, rfl, rfl, rfl, rfl, hbw⟩ := hrel
    cases hN : N (cut a i) i with
    | none =>
      have hst : lng M a 33 = lng M a i := lng_stop (fun j h1 h2 => by
        have := HT.out.none_down hN (j - i) (by omega)
        rw [show i + (j - i) = j by omega] at this
        exact HT.out.thing_none this) hi
      have hres := HRes.out
      rw [hst] at hres
      have hcw : wr.heap[w.heap.size]? = some (.cells #[.int .u32 0, .int .i64 0] 32) := (hbw.block _ (lt_of_blk HCell.out)).trans HCell.out
      have HW := Lib.hid (HB0.out.trans (hbw.mono HB0.out.size))
      unfold lngX lngN
      cases hl : lng M a i with
      | none =>
        rw [hl] at hres
        dsimp only at hres ⊢
        unfold ptr
        simp only [Option.map_none]
        have d0 : wr.cell? ⟨w.heap.size, 0, none⟩ = some (.int .u32 0) := cell_of hcw rfl
        have d1 : wr.cell? ⟨w.heap.size, 1, none⟩ = some (.int .i64 0) := cell_of hcw rfl
        have e0 : ∀ o, wr.frozen? ⟨w.heap.size, o, none⟩ = false := fun o => free_of hcw
        clear hbw hN hst hl HRes HK
        have HC := Lib.hid hcw
        have HE := Lib.hid hres
        clear hcw hres
        go_wp2_with fail
        have hs := ((SetB.self HC.out).store (o := 0) (lt_of_blk HC.out) (.int .u32 0)).store (o := 1) (lt_of_blk HC.out) (.int .i64 0)
        rw [← HE.out]
        refine ret_cell3 rfl rfl rfl (hs.at (lt_of_blk HC.out)) Try.underlying32 rfl (by kernel_rfl) ⟨rfl, HW.out.trans (hs.below (Nat.le_refl _))⟩
      | some j =>
        rw [hl] at hres
        dsimp only at hres ⊢
        unfold ptr
        simp only [Option.map_none]
        have hj := lng_lt hl
        have hcl : cl j = j := by unfold cl; rw [if_neg (by omega), if_neg (by omega)]; exact Int.toNat_natCast j
        have HMk := Lib.hid (HK.out j)
        rw [hcl] at HMk
        unfold pfx at HMk hres
        generalize (M (cut a j) j).getD ByteArray.empty = y at *
        clear hbw hN hst hl HRes HK hcl
        have HC := Lib.hid hcw
        have HE := Lib.hid hres
        clear hcw hres
        go_wp2_with (go_at_call 44; refine (HMk.out _).mono ?_; rintro e w2 ⟨rfl, hb2⟩; have hc2 := (hb2.block _ (lt_of_blk HC.out)).trans HC.out; have HC2 := Lib.hid hc2; have d0 : w2.cell? ⟨w.heap.size, 0, none⟩ = some (.int .u32 0) := cell_of hc2 rfl; have d1 : w2.cell? ⟨w.heap.size, 1, none⟩ = some (.int .i64 0) := cell_of hc2 rfl; have e0 : ∀ o, w2.frozen? ⟨w.heap.size, o, none⟩ = false := fun o => free_of hc2; have HB2 := Lib.hid hb2; clear hb2 hc2)
        have hs := ((SetB.self HC2.out).store (o := 0) (lt_of_blk HC2.out) (.int .u32 (cut a j))).store (o := 1) (lt_of_blk HC2.out) (.int .i64 j)
        rw [← HE.out]
        refine ret_cell3 rfl rfl rfl (hs.at (lt_of_blk HC2.out)) Try.underlying32 rfl (by kernel_rfl) ⟨rfl, (HW.out.trans (HB2.out.mono HW.out.size)).trans (hs.below (Nat.le_refl _))⟩
    | some k =>
      have ht := HT.out.below hbw
      have hkk := (ht.key _ _ _ hN).le
      have nj := kidNoneS ht hN
      obtain ⟨-, -, c2, c3, -⟩ := nodeS ht hN
      have HBit := Lib.hid (bit_any a i HA.out)
      have HW := Lib.hid hbw
      have HSt := Lib.hid (And.intro (fun h => lng_none (z := ByteArray.empty) (M := M) (a := a) (i := i) h) (fun x h => lng_some (z := ByteArray.empty) (x := x) (M := M) (a := a) (i := i) h))
      generalize hpn : ptr (N (cut a (i + 1)) (i + 1)) = pn at *
      have HPN := Lib.hid hpn
      clear hbw hN ht hpn
      unfold ptr
      simp only [Option.map_some]
      generalize (decide (i < 32) && a.testBit (31 - i)) = c at *
      cases hM : M (cut a i) i with
      | none =>
        have hst := HSt.out.1 hM
        rw [hM] at c2 c3
        simp only [Option.isSome_none] at c3
        have HST := Lib.hid hst
        clear c2 hM hst HSt
        generalize lngX ByteArray.empty M a i = x0 at *
        generalize lngN M a i = l0 at *
        cases c
        all_goals
          simp only [Bool.false_eq_true, if_false, if_true] at HBit nj
          go_wp2_with fail
          refine wp_region_quiet_tail (fun w' => w' = wr.drew) 8 (by kernel_rfl) (by kernel_rfl) rfl ?_
          simp only [List.take_succ_cons, List.take_zero, List.drop_succ_cons, List.drop_zero]
          iterate 8 (((with_reducible refine wpQuiet_step (fun K hK => ?_)); go_simp; first | ((with_reducible refine hK _ ?_); clear hK K) | (apply Exists.intro; refine ⟨?_, hK _ ?_⟩; (with_reducible refine (HBit.out _).mono ?_); rintro e w2 ⟨rfl, rfl⟩; exact ⟨rfl, rfl⟩; clear hK K)))
          refine wpQuiet_nil ?_
          rintro _ rfl
          clear HBit nj
          go_wp2_with fail
          go_roundw
          case rel => exact ⟨i + 1, by omega, by go_num, HPN.out.symm, by rw [HST.out.1], by rw [HST.out.2], HW.out.drew⟩
          case measure => simp [intOf]; omega
      | some y =>
        have hst := HSt.out.2 y hM
        rw [hM] at c2 c3
        simp only [Option.isSome_some, Option.getD_some] at c2 c3
        have HST := Lib.hid hst
        clear hM hst HSt
        generalize lngX ByteArray.empty M a i = x0 at *
        generalize lngN M a i = l0 at *
        cases c
        all_goals
          simp only [Bool.false_eq_true, if_false, if_true] at HBit nj
          go_wp2_with fail
          refine wp_region_quiet_tail (fun w' => w' = wr.drew) 8 (by kernel_rfl) (by kernel_rfl) rfl ?_
          simp only [List.take_succ_cons, List.take_zero, List.drop_succ_cons, List.drop_zero]
          iterate 8 (((with_reducible refine wpQuiet_step (fun K hK => ?_)); go_simp; first | ((with_reducible refine hK _ ?_); clear hK K) | (apply Exists.intro; refine ⟨?_, hK _ ?_⟩; (with_reducible refine (HBit.out _).mono ?_); rintro e w2 ⟨rfl, rfl⟩; exact ⟨rfl, rfl⟩; clear hK K)))
          refine wpQuiet_nil ?_
          rintro _ rfl
          clear HBit nj
          go_wp2_with fail
          go_roundw
          case rel => exact ⟨i + 1, by omega, by go_num, HPN.out.symm, by rw [HST.out.1], by rw [HST.out.2], HW.out.drew⟩
          case measure => simp [intOf]; omega
end Go.Proofs.Ytdhebjeajdohoaa
