/- made, find, at nodes. -/
import Derived.Test.YtdhebjeajdohoaaTa
namespace Go.Proofs.Ytdhebjeajdohoaa
open Go.RowKit

abbrev TrieS := TrieAt (α := ByteArray) 91 93 (Value.string) ByteArray.empty
theorem madeS_nil (w : World) : Calls Try.prog 49 #[.pointer none] w fun e w' => e = .returned (.bool false) ∧ w' = w := by
  go_enter Try.func49, Try.ntmps49
  go_wp2_with fail
  go_ret
  exact ⟨rfl, rfl⟩
theorem madeS_any {w : World} {b n : Nat} {N : Nat → Nat → Option Nat} {M : Nat → Nat → Option ByteArray} (h : TrieS w b N n M) : Calls Try.prog 49 #[.pointer (some ⟨b, 0, none⟩)] w fun e w' => e = .returned (.bool true) ∧ w' = w := by
  obtain ⟨r, hr, hb⟩ := h.root
  have c0 : w.cell? ⟨b, 0, none⟩ = some (.pointer (some ⟨r, 0, none⟩)) := cell_of hb rfl
  clear h hb
  go_enter Try.func49, Try.ntmps49
  go_wp2_with fail
  go_ret
  exact ⟨rfl, rfl⟩
/-- a node's cells -/
theorem nodeS {w : World} {b n : Nat} {N : Nat → Nat → Option Nat} {M : Nat → Nat → Option ByteArray} (h : TrieS w b N n M) {a d k : Nat} (hk : N a d = some k) :
    w.cell? ⟨k, 0, none⟩ = some (ptr (N (kid a d false) (d + 1))) ∧ w.cell? ⟨k, 1, none⟩ = some (ptr (N (kid a d true) (d + 1))) ∧ w.cell? ⟨k, 2, none⟩ = some (.string ((M a d).getD ByteArray.empty)) ∧ w.cell? ⟨k, 3, none⟩ = some (.bool (M a d).isSome) ∧ (∀ o, w.frozen? ⟨k, o, none⟩ = false) := by
  have hb := h.node a d k hk
  exact ⟨cell_of hb rfl, cell_of hb rfl, cell_of hb rfl, cell_of hb rfl, fun o => free_of hb⟩
set_option maxHeartbeats 1000000 in
theorem findS_any {w : World} {b n : Nat} {N : Nat → Nat → Option Nat} {M : Nat → Nat → Option ByteArray} (h : TrieS w b N n M) (a : Nat) (l : Int) (ha : a < 4294967296) :
    Calls Try.prog 51 #[.pointer (some ⟨b, 0, none⟩), pfx a l] w fun e w' => e = .returned (ptr (if okP a l then N a l.toNat else none)) ∧ Below w.heap.size w w' := by
  obtain ⟨r, hr, hb⟩ := h.root
  have c0 : w.cell? ⟨b, 0, none⟩ = some (.pointer (some ⟨r, 0, none⟩)) := cell_of hb rfl
  have HM := Lib.hid (madeS_any (h.below ((Below.refl _ _).alloc (Nat.le_refl _) (.cells #[.int .u32 a, .int .i64 l] 32))))
  have HC := Lib.hid (check_any a l ha)
  have HT := Lib.hid h
  have HA := Lib.hid ha
  clear ha
  cases hok : okP a l with
  | false =>
    rw [hok] at HC
    clear h hb hok c0
    unfold pfx at HC ⊢
    simp only [Bool.false_eq_true, if_false] at HC ⊢
    go_enter Try.func51, Try.ntmps51
    go_wp2_with (first | (go_at_call 49; refine (HM.out).mono ?_; rintro e w1 ⟨rfl, rfl⟩) | (go_at_call 37; refine (HC.out _).mono ?_; rintro e w1 ⟨rfl, hb1⟩))
    go_ret
    exact ⟨rfl, ((Below.refl _ _).alloc (Nat.le_refl _) _).trans (hb1.mono (by simp))⟩
  | true =>
    rw [hok] at HC
    obtain ⟨h0, h32, hcut⟩ := okP_iff.1 hok
    obtain ⟨m, rfl⟩ := Int.eq_ofNat_of_zero_le h0
    simp only [Int.toNat_natCast] at hcut
    have hm32 : m ≤ 32 := by omega
    have hbl := lt_of_blk hb
    clear h hb hok h0 h32
    unfold pfx at HC ⊢
    simp only [if_true, Int.toNat_natCast] at HC ⊢
    go_enter Try.func51, Try.ntmps51
    have c1 : (w.alloc (.cells #[.int .u32 a, .int .i64 m] 32)).cell? ⟨b, 0, none⟩ = some (.pointer (some ⟨r, 0, none⟩)) := cell_hold c0 _
    go_wp2_with (first | (go_at_call 49; refine (HM.out).mono ?_; rintro e w1 ⟨rfl, rfl⟩) | (go_at_call 37; refine (HC.out _).mono ?_; rintro e w1 ⟨rfl, hb1⟩; have c2 := (Below.cell hb1 (p := ⟨b, 0, none⟩) (by simp; omega)).trans c1))
    have HB := Lib.hid (((Below.refl _ _).alloc (Nat.le_refl _) _).trans (hb1.mono (by simp)) : Below w.heap.size w w1)
    have hp : w1.heap[w.heap.size]? = some (.cells #[.int .u32 a, .int .i64 m] 32) := (hb1.block _ (by simp)).trans (hnew _ _)
    have HP := Lib.hid hp
    clear HM HC c0 c1 c2 hb1 hp
    go_loopw [5, 6] (fun av iv wr => ∃ i : Nat, i ≤ m ∧ iv = .int .i64 i ∧ av = ptr (N (cut a i) i) ∧ Below w1.heap.size w1 wr) (fun _ iv _ => m - (intOf iv).toNat)
    case atStart => exact ⟨0, Nat.zero_le _, rfl, by rw [cut_0 HA.out, hr]; rfl, Below.refl _ _⟩
    case round =>
      obtain ⟨i, hi, rfl, rfl, hbw⟩ := hrel
      have hbww := HB.out.trans (hbw.mono HB.out.size)
      have hpw : wr.heap[w.heap.size]? = some (.cells #[.int .u32 a, .int .i64 m] 32) := (hbw.block _ (lt_of_blk HP.out)).trans HP.out
      have p0 : wr.cell? ⟨w.heap.size, 0, none⟩ = some (.int .u32 a) := cell_of hpw rfl
      have p1 : wr.cell? ⟨w.heap.size, 1, none⟩ = some (.int .i64 m) := cell_of hpw rfl
      clear hpw
      cases hN : N (cut a i) i with
      | none =>
        have hr2 : N a m = none := by
          have := HT.out.none_down hN (m - i) (by omega)
          rwa [show i + (m - i) = m by omega, hcut] at this
        have HR := Lib.hid hr2
        have HW := Lib.hid hbww
        clear hbw hbww hN hr2
        unfold ptr
        simp only [Option.map_none]
        by_cases hlt : i < m
        all_goals
          go_wp2_with fail
          go_ret
          exact ⟨by rw [HR.out]; rfl, HW.out⟩
      | some k =>
        have hnode := nodeS (HT.out.below hbww) hN
        by_cases hlt : i < m
        · have hk := cut_kid a (show i ≤ 31 by omega)
          have HBit := Lib.hid (bit_any a i HA.out)
          rw [show decide (i < 32) = true by simp; omega, Bool.true_and] at HBit
          have HW := Lib.hid hbw
          clear hbw hbww hN
          have hkl : ptr (N (cut a (i + 1)) (i + 1)) = if a.testBit (31 - i) then ptr (N (kid (cut a i) i true) (i + 1)) else ptr (N (kid (cut a i) i false) (i + 1)) := by
            rw [hk]; split <;> simp_all
          obtain ⟨n0, n1, -, -, -⟩ := hnode
          generalize ptr (N (kid (cut a i) i true) (i + 1)) = pt at *
          generalize ptr (N (kid (cut a i) i false) (i + 1)) = pf at *
          have HK := Lib.hid hkl
          clear hk hkl
          unfold ptr
          simp only [Option.map_some]
          generalize a.testBit (31 - i) = c at *
          cases c
          all_goals
            simp only [Bool.false_eq_true, if_false, if_true] at HBit HK
            go_wp2_with fail
            refine wp_region_quiet_tail (fun w' => w' = wr.drew) 9 (by kernel_rfl) (by kernel_rfl) rfl ?_
            simp only [List.take_succ_cons, List.take_zero, List.drop_succ_cons, List.drop_zero]
            iterate 9 (((with_reducible refine wpQuiet_step (fun K hK => ?_)); go_simp; first | ((with_reducible refine hK _ ?_); clear hK K) | (apply Exists.intro; refine ⟨?_, hK _ ?_⟩; (with_reducible refine (HBit.out _).mono ?_); rintro e w2 ⟨rfl, rfl⟩; exact ⟨rfl, rfl⟩; clear hK K)))
            refine wpQuiet_nil ?_
            rintro _ rfl
            go_wp2_with fail
            go_roundw
            case rel => exact ⟨i + 1, by omega, by go_num, HK.out.symm, HW.out.drew⟩
            case measure => simp [intOf]; omega
        · obtain rfl : i = m := by omega
          rw [hcut] at hN
          have HR := Lib.hid hN
          have HW := Lib.hid hbww
          clear hbw hbww hN hnode
          unfold ptr
          simp only [Option.map_some]
          go_wp2_with fail
          go_ret
          exact ⟨by rw [HR.out]; rfl, HW.out⟩
theorem findS_nil (a : Nat) (l : Int) (w : World) : Calls Try.prog 51 #[.pointer none, pfx a l] w fun e w' => e = .returned (.pointer none) ∧ Below w.heap.size w w' := by
  unfold pfx
  go_enter Try.func51, Try.ntmps51
  go_wp2_with (go_at_call 49; refine (madeS_nil _).mono ?_; rintro e w1 ⟨rfl, rfl⟩)
  go_ret
  exact ⟨rfl, (Below.refl _ _).alloc (Nat.le_refl _) _⟩
end Go.Proofs.Ytdhebjeajdohoaa
