/- An empty slice of routes; Left, Best. -/
import Derived.Test.YtlgmoiilfigamaaWi
namespace Go.Proofs.Ytlgmoiilfigamaa
open Go.RowKit

theorem least31_nil (oa : Option Addr) (c : Nat) (w : World) : Calls Try.prog 20 #[.slice oa 0 c, .func (.func 31) #[] #[]] w fun e w' => e = .returned (.slice none 0 0) ∧ Below w.heap.size w w' := by
  go_enter Try.func20, Try.ntmps20
  go_wp2_with fail
  go_ret
  exact ⟨rfl, (Below.refl _ _).alloc (Nat.le_refl _) _⟩
theorem least32_nil (oa : Option Addr) (c : Nat) (w : World) : Calls Try.prog 20 #[.slice oa 0 c, .func (.func 32) #[] #[]] w fun e w' => e = .returned (.slice none 0 0) ∧ Below w.heap.size w w' := by
  go_enter Try.func20, Try.ntmps20
  go_wp2_with fail
  go_ret
  exact ⟨rfl, (Below.refl _ _).alloc (Nat.le_refl _) _⟩
theorem least34_nil (oa : Option Addr) (c : Nat) (w : World) : Calls Try.prog 20 #[.slice oa 0 c, .func (.func 34) #[] #[]] w fun e w' => e = .returned (.slice none 0 0) ∧ Below w.heap.size w w' := by
  go_enter Try.func20, Try.ntmps20
  go_wp2_with fail
  go_ret
  exact ⟨rfl, (Below.refl _ _).alloc (Nat.le_refl _) _⟩
theorem least22_nil (oa : Option Addr) (c : Nat) (w : World) : Calls Try.prog 20 #[.slice oa 0 c, .func (.func 22) #[] #[]] w fun e w' => e = .returned (.slice none 0 0) ∧ Below w.heap.size w w' := by
  go_enter Try.func20, Try.ntmps20
  go_wp2_with fail
  go_ret
  exact ⟨rfl, (Below.refl _ _).alloc (Nat.le_refl _) _⟩
theorem least23_nil (oa : Option Addr) (c : Nat) (w : World) : Calls Try.prog 20 #[.slice oa 0 c, .func (.func 23) #[] #[]] w fun e w' => e = .returned (.slice none 0 0) ∧ Below w.heap.size w w' := by
  go_enter Try.func20, Try.ntmps20
  go_wp2_with fail
  go_ret
  exact ⟨rfl, (Below.refl _ _).alloc (Nat.le_refl _) _⟩
theorem index_nil (oa : Option Addr) (c : Nat) (fv : Value) (w : World) : Calls Try.prog 38 #[.slice oa 0 c, fv] w fun e w' => e = .returned (.int .i64 (-1)) ∧ w' = w := by
  go_enter Try.func38, Try.ntmps38
  go_wp2_with fail
  refine wp_loop_once ?_
  go_wp2_with fail
  go_ret
  exact ⟨rfl, rfl⟩
theorem delete_nil (oa : Option Addr) (c : Nat) (fv : Value) (w : World) : Calls Try.prog 29 #[.slice oa 0 c, fv] w fun e w' => e = .returned (.slice oa 0 c) ∧ w' = w := by
  go_enter Try.func29, Try.ntmps29
  go_wp2_with (go_at_call 38; refine (index_nil _ _ _ _).mono ?_; rintro e w' ⟨rfl, rfl⟩)
  go_ret
  exact ⟨rfl, rfl⟩
theorem meds_nil (w : World) : Calls Try.prog 35 #[.slice none 0 0] w fun e w' => e = .returned (.slice none 0 0) ∧ Below w.heap.size w w' := by
  have hmm := @run_makeMap Try.prog
  go_enter Try.func35, Try.ntmps35
  go_wp2_with fail
  refine wp_loop_once ?_
  go_wp2_with (go_at_call 29; refine (delete_nil _ _ _ _).mono ?_; rintro e w' ⟨rfl, rfl⟩)
  go_ret
  exact ⟨rfl, ((Below.refl _ _).alloc (Nat.le_refl _) _).alloc (by simp) _⟩
theorem left_nil (oa : Option Addr) (c : Nat) (w : World) : Calls Try.prog 21 #[.slice oa 0 c] w fun e w' => e = .returned (.slice none 0 0) ∧ Below w.heap.size w w' := by
  have H31 := Lib.hid (fun w => least31_nil none 0 w)
  have H32 := Lib.hid (fun w => least32_nil none 0 w)
  have H34 := Lib.hid (fun w => least34_nil none 0 w)
  go_enter Try.func21, Try.ntmps21
  go_wp2_with fail
  refine wp_loop_once ?_
  go_wp2_with fail
  refine (H31.out _).mono ?_
  rintro e w1 ⟨rfl, h1⟩
  go_wp2_with fail
  refine (H32.out _).mono ?_
  rintro e w2 ⟨rfl, h2⟩
  go_wp2_with fail
  refine (H34.out _).mono ?_
  rintro e w3 ⟨rfl, h3⟩
  go_wp2_with fail
  refine (meds_nil _).mono ?_
  rintro e w4 ⟨rfl, h4⟩
  go_wp2_with fail
  go_ret
  exact ⟨rfl, ((h1.trans (h2.mono h1.size)).trans (h3.mono (Nat.le_trans h1.size h2.size))).trans (h4.mono (Nat.le_trans (Nat.le_trans h1.size h2.size) h3.size))⟩

set_option maxHeartbeats 2000000 in
theorem lleft_some (b off cap n : Nat) (L : List Rt) (w : World) (B : Nat) (hL : L ≠ []) (hn : L.length = n) (hB : B ≤ w.heap.size) (hr : R40.Row w b off L) (hok : ∀ x ∈ L, RtOk w B x ∧ Small x) (h60 : n ≤ 60) :
    Calls Try.prog 12 #[.slice (some ⟨b, off, none⟩) n cap] w fun e w' => ∃ v, e = .returned v ∧ R40.Own w' w.heap.size v ((leftOf L).map Prod.fst) ∧ Below w.heap.size w w' := by
  have HL := Lib.hid (left_some b off cap n L w B hL hn hB hr hok h60)
  have hlen : (leftOf L).length ≤ 60 := by
    have := (cut_sub (f := lookC) (withAt L) 4).length_le
    rw [withAt_length] at this; unfold leftOf; omega
  clear hr hok hL hn
  go_enter Try.func12, Try.ntmps12
  go_wp2_with fail
  refine (HL.out).mono ?_
  rintro e w1 ⟨g, cap', rfl, h1⟩
  obtain ⟨m, hm⟩ : ∃ m, m = (leftOf L).length := ⟨_, rfl⟩
  rw [← hm] at hlen ⊢
  obtain ⟨M, hM⟩ : ∃ M, M = leftOf L := ⟨_, rfl⟩
  rw [← hM] at h1 hm
  have H1 := Lib.hid (And.intro h1 (And.intro hm hM))
  clear h1 hm hM HL
  go_wp2_with fail
  go_loopw [3, 9] (fun v i wr => ∃ k : Nat, k ≤ m ∧ i = .int .i64 k ∧ R40.Own wr w1.heap.size v ((M.take k).map Prod.fst) ∧ Below w1.heap.size w1 wr) (fun _ i _ => m - (intOf i).toNat)
  case atStart => exact ⟨0, Nat.zero_le _, rfl, Rep.Own.nil _ _, Below.refl _ _⟩
  case round =>
    obtain ⟨k, hk, rfl, hown, hb⟩ := hrel
    obtain ⟨h1, hm, hM⟩ := H1.out
    have hsz := hb.size
    have hsz1 := h1.below.size
    have hg1 := h1.hg
    by_cases hlt : k < m
    · obtain ⟨cur, hrow⟩ := h1.row
      have hlg := lt_of_blk hrow.blk
      obtain ⟨c0, c1, c2, c3, c4, c5, c6, c7, c8, c9, c10⟩ := (hrow.keep (hb.block g hlg)).at (i := k) (by omega)
      have htk : (M.take (k + 1)).map Prod.fst = (M.take k).map Prod.fst ++ [(M.getD k default).1] := by
        rw [List.take_succ_eq_append_getElem (by omega), List.map_append]
        simp [List.getD_eq_getElem?_getD, show k < M.length by omega]
      have hlen' : ((M.take k).map Prod.fst).length = k := by simp; omega
      generalize hx : M.getD k default = x at *
      have HK := Lib.hid (And.intro htk (And.intro hown (And.intro hb (And.intro hlen' (And.intro hm hx)))))
      clear htk hown hb hlen' hrow hx h1 hm hM
      go_wp2_with (at_builtin; refine halt ?_)
      refine Halted.go ?_
      refine Rep.append_one T22 rfl _ _ rfl rfl ((HK.out.2.1.alloc _).alloc _) x.1 (wr.heap.size + 1) 1 rfl (hnewAt ?_) HK.out.2.2.2.1 (by unfold maxLen; omega) (by omega) ?_ ?_
      · simp
      · simp; omega
      intro v' w2 hown' hb1 _
      have HO := Lib.hid (And.intro hown' hb1)
      clear hown' hb1 c0 c1 c2 c3 c4 c5 c6 c7 c8 c9 c10
      go_wp2_with fail
      go_roundw
      case rel =>
        refine ⟨k + 1, by omega, by go_num, ?_, ?_⟩
        · rw [HK.out.1]; exact HO.out.1
        · exact ((HK.out.2.2.1.alloc hsz _).alloc (by simp; omega) _).trans HO.out.2
      case measure => simp [intOf]; omega
    · have hf : ¬ ((k : Int) < m) := by omega
      have hkm : k = m := by omega
      have HK := Lib.hid (And.intro h1 (And.intro hown (And.intro hb (And.intro hkm (And.intro hm hM)))))
      clear h1 hown hb hkm hm hM
      go_wp2_with fail
      go_ret
      obtain ⟨h1, hown, hb, hkm, hm, hM⟩ := HK.out
      rw [hkm, hm, List.take_length, hM] at hown
      exact ⟨_, rfl, hown.mono hsz1, h1.below.trans (hb.mono hsz1)⟩
end Go.Proofs.Ytlgmoiilfigamaa
