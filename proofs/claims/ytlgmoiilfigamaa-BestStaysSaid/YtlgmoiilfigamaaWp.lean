/- The reference's Best and Left. -/
import Derived.Test.YtlgmoiilfigamaaWo
import Derived.Test.YtlgmoiilfigamaaPu
namespace Go.Proofs.Ytlgmoiilfigamaa
open Go.RowKit

theorem withAt_eq (L : List Rt) : withAt L = (List.range L.length).map fun i => (L.getD i default, (i : Int)) := by
  unfold withAt
  apply List.ext_getElem
  · simp
  · intro i h1 h2
    simp at h1 h2
    simp [List.getD_eq_getElem?_getD, h1]
theorem cut_withAt (L : List Rt) (n : Nat) : cut lookC n (withAt L) = (cutI L n).map fun i => (L.getD i default, (i : Int)) := by
  rw [withAt_eq, cut_map]; rfl
theorem cutI_ne {L : List Rt} (hL : L ≠ []) (s : Nat) : cutI L s ≠ [] := cut_ne (f := lookI L) (by intro h; exact hL (List.length_eq_zero_iff.1 (by rw [← List.length_range (n := L.length), h]; rfl))) s
theorem cutI_head (L : List Rt) (hL : L ≠ []) : (cutI L 6).getD 0 default = bestN L := by
  unfold bestN
  rw [cut_withAt]
  have := cutI_ne hL 6
  cases hm : cutI L 6 with
  | nil => exact absurd hm this
  | cons i r => simp
theorem leftR_eq (L : List Rt) : leftR L = (cutI L 4).map fun i => L.getD i default := by
  unfold leftR leftOf
  rw [cut_withAt, List.map_map]; rfl
theorem cutI_nil (s : Nat) : cutI [] s = [] := by
  have := cutI_length [] s
  exact List.length_eq_zero_iff.1 (by simpa using this)

set_option maxHeartbeats 1000000 in
theorem cut_nil (oa : Option Addr) (c steps : Nat) (w : World) (h6 : steps ≤ 6) : Calls Try.prog 24 #[.slice oa 0 c, .int .i64 (steps : Int)] w fun e w' => e = .returned (.slice none 0 0) ∧ w' = w := by
  go_enter Try.func24, Try.ntmps24
  go_wp2_with fail
  refine wp_loop_once ?_
  go_wp2_with fail
  go_loopw [5, 7, 8, 9, 10, 11] (fun lv iv _ _ _ _ wr => ∃ s : Nat, s ≤ steps ∧ iv = .int .i64 s ∧ lv = .slice none 0 0 ∧ wr = w) (fun _ iv _ _ _ _ _ => steps - (intOf iv).toNat)
  case atStart => exact ⟨0, Nat.zero_le _, rfl, rfl, rfl⟩
  case round =>
    obtain ⟨s, hs, rfl, rfl, hw⟩ := hrel
    have HW := Lib.hid hw
    clear hw
    by_cases hlt : s < steps
    · go_wp2_with fail
      refine wp_loop_once ?_
      go_wp2_with fail
      go_roundw
      case rel => exact ⟨s + 1, by omega, by go_num, rfl, HW.out⟩
      case measure => simp [intOf]; omega
    · have hf : ¬ ((s : Int) < steps) := by omega
      go_wp2_with fail
      go_ret
      exact ⟨rfl, HW.out⟩
theorem cut_any (oa : Option Addr) (n c steps : Nat) (L : List Rt) (w : World) (B : Nat) (hs : R40.Sl w oa n c L) (hi : Ins w B L) (h6 : steps ≤ 6) :
    Calls Try.prog 24 #[.slice oa n c, .int .i64 (steps : Int)] w fun e w' => ∃ v, e = .returned v ∧ R36.Own w' w.heap.size v (cutI L steps) ∧ Below w.heap.size w w' := by
  cases L with
  | nil => rw [sl_nil hs, cutI_nil]; exact (cut_nil oa c steps w h6).mono fun e w' ⟨h1, h2⟩ => ⟨_, h1, Rep.Own.nil _ _, h2 ▸ Below.refl _ _⟩
  | cons x r =>
    obtain ⟨b, off, rfl, hr⟩ := sl_some hs (by simp)
    exact cut_some b off c n steps (x :: r) w B (by simp) hs.len.symm hr hi h6

theorem rbest_any (oa : Option Addr) (n c : Nat) (L : List Rt) (w : World) (B : Nat) (hs : R40.Sl w oa n c L) (hi : Ins w B L) :
    Calls Try.prog 10 #[.slice oa n c] w fun e w' => e = .returned (.tuple #[.int .i64 (bestN L), .bool (!L.isEmpty)]) ∧ Below w.heap.size w w' := by
  have HC := Lib.hid (cut_any oa n c 6 L w B hs hi (by omega))
  have h60 := hi.h60
  have HL := Lib.hid h60
  clear hs hi h60
  go_enter Try.func10, Try.ntmps10
  go_wp2_with fail
  refine (HC.out).mono ?_
  rintro e w1 ⟨v, rfl, hown, hb⟩
  by_cases hL : L = []
  · subst hL
    rw [cutI_nil] at hown
    obtain ⟨a, c', rfl, -⟩ := hown.sl
    have HB := Lib.hid hb
    clear hown hb
    go_wp2_with fail
    go_ret2
    exact ⟨rfl, HB.out⟩
  · have hne := cutI_ne hL 6
    rcases hown.cases with ⟨_, he⟩ | ⟨g, cap, rfl, hg, hgl, h1, h2, hrow, -⟩
    · exact absurd he hne
    have hc := hrow.get 0 (List.length_pos_iff.2 hne) 0 (by decide)
    rw [cutI_head L hL] at hc
    simp only [R36, Nat.mul_one, Nat.add_zero, List.getElem?_cons_zero] at hc
    obtain ⟨m, hm⟩ : ∃ m, m = (cutI L 6).length := ⟨_, rfl⟩
    have hm0 : 0 < m := by rw [hm]; exact List.length_pos_iff.2 hne
    have hle := cutI_length L 6
    rw [← hm] at h1 hle ⊢
    have hLe : (!L.isEmpty) = true := by cases L; exact absurd rfl hL; rfl
    have HB := Lib.hid (And.intro hb (And.intro hLe hm))
    have hl60 := HL.out
    have hm60 : m ≤ 60 := by omega
    clear hown hb hrow hm hne hL hLe hle hl60
    go_wp2_with fail
    go_ret2
    exact ⟨by rw [HB.out.2.1]; rfl, HB.out.1⟩

set_option maxHeartbeats 2000000 in
theorem rleft_any (oa : Option Addr) (n c : Nat) (L : List Rt) (w : World) (B : Nat) (hs : R40.Sl w oa n c L) (hi : Ins w B L) :
    Calls Try.prog 13 #[.slice oa n c] w fun e w' => ∃ v, e = .returned v ∧ R40.Own w' w.heap.size v (leftR L) ∧ Below w.heap.size w w' := by
  have HC := Lib.hid (cut_any oa n c 4 L w B hs hi (by omega))
  have h60 := hi.h60
  have HS := Lib.hid (And.intro hs (And.intro hi (leftR_eq L)))
  have hml := cutI_length L 4
  have hMl : ∀ i ∈ cutI L 4, i < L.length := fun i h => cutI_lt h
  obtain ⟨M, hM⟩ : ∃ M, M = cutI L 4 := ⟨_, rfl⟩
  have hnL := hs.len
  rw [← hM] at hml hMl
  have HM := Lib.hid (And.intro hMl (And.intro hM hnL))
  have hm60 : M.length ≤ 60 := by omega
  clear hs hi hMl hM hml hnL
  go_enter Try.func13, Try.ntmps13
  go_wp2_with fail
  refine (HC.out).mono ?_
  rintro e w1 ⟨v, rfl, hown, hb⟩
  rw [← HM.out.2.1] at hown
  obtain ⟨a, c', rfl, hlc, hcm, hsl, hab⟩ := hown.sl
  obtain ⟨m, hm⟩ : ∃ m, m = M.length := ⟨_, rfl⟩
  rw [← hm] at hsl hlc hm60 ⊢
  have hsz := hb.size
  have H1 := Lib.hid (And.intro hb (And.intro hsl hm))
  clear hown hb hsl hm hab
  go_wp2_with fail
  go_loopw [3, 5] (fun ov iv wr => ∃ k : Nat, k ≤ m ∧ iv = .int .i64 k ∧ R40.Own wr w1.heap.size ov ((M.take k).map fun i => L.getD i default) ∧ Below w1.heap.size w1 wr) (fun _ iv _ => m - (intOf iv).toNat)
  case atStart => exact ⟨0, Nat.zero_le _, rfl, Rep.Own.nil _ _, Below.refl _ _⟩
  case round =>
    obtain ⟨k, hk, rfl, hown, hb⟩ := hrel
    have hsz1 := hb.size
    by_cases hlt : k < m
    · obtain ⟨g, o, rfl, hgl, hat⟩ := H1.out.2.1.at hlt
      have he := (hat.keep (hb.block g hgl)) 0 (by decide)
      obtain ⟨p, hp⟩ : ∃ p, p = M.getD k default := ⟨_, rfl⟩
      have hpm : p ∈ M := by rw [hp]; exact getD_mem (by rw [← H1.out.2.2]; exact hlt)
      have hpn : p < n := by rw [HM.out.2.2]; exact HM.out.1 p hpm
      rw [← hp] at he
      simp only [R36, Nat.mul_one, Nat.add_zero, List.getElem?_cons_zero] at he
      obtain ⟨b, off, rfl, hr⟩ := HS.out.1.row (by omega)
      have hatx := (hr.below (H1.out.1.trans (hb.mono hsz))).get p (by rw [← HM.out.2.2]; exact hpn)
      obtain ⟨x, hx⟩ : ∃ x, x = L.getD p default := ⟨_, rfl⟩
      rw [← hx] at hatx
      have c0 := hatx 0 (by decide)
      have c1 := hatx 1 (by decide)
      have c2 := hatx 2 (by decide)
      have c3 := hatx 3 (by decide)
      have c4 := hatx 4 (by decide)
      have c5 := hatx 5 (by decide)
      have c6 := hatx 6 (by decide)
      have c7 := hatx 7 (by decide)
      have c8 := hatx 8 (by decide)
      have c9 := hatx 9 (by decide)
      simp only [R40, Rt.cells, Nat.add_zero, List.getElem?_cons_zero, List.getElem?_cons_succ] at c0 c1 c2 c3 c4 c5 c6 c7 c8 c9
      have htk : (M.take (k + 1)).map (fun i => L.getD i default) = (M.take k).map (fun i => L.getD i default) ++ [x] := by
        rw [List.take_succ_eq_append_getElem (by rw [← H1.out.2.2]; exact hlt), List.map_append, hx, hp]
        simp [List.getD_eq_getElem?_getD, show k < M.length by rw [← H1.out.2.2]; exact hlt]
      have hlen : ((M.take k).map fun i => L.getD i default).length = k := by rw [List.length_map, List.length_take]; have := H1.out.2.2; omega
      have HK := Lib.hid (And.intro hown (And.intro hb (And.intro htk hlen)))
      clear hown hb htk hlen hatx hr hpm hp hx hat
      go_wp2_with (at_builtin; refine halt ?_)
      refine Halted.go ?_
      refine Rep.append_one T22 rfl _ _ rfl rfl (HK.out.1.alloc _) x wr.heap.size 1 rfl (hnew _ _) HK.out.2.2.2 (by unfold maxLen; omega) (by omega) (by simp; omega) ?_
      intro v' w3 hown' hb3 _
      have HO := Lib.hid (And.intro hown' hb3)
      clear hown' hb3 he c0 c1 c2 c3 c4 c5 c6 c7 c8 c9
      go_wp2_with fail
      go_roundw
      case rel =>
        refine ⟨k + 1, by omega, by go_num, ?_, (HK.out.2.1.alloc hsz1 _).trans HO.out.2⟩
        rw [HK.out.2.2.1]; exact HO.out.1
      case measure => simp [intOf]; omega
    · have hf : ¬ ((k : Int) < m) := by omega
      have hkm : M.take k = M := List.take_of_length_le (by have := H1.out.2.2; omega)
      rw [hkm] at hown
      have HK := Lib.hid (And.intro hown hb)
      clear hown hb hkm
      go_wp2_with fail
      go_ret
      refine ⟨_, rfl, ?_, H1.out.1.trans (HK.out.2.mono hsz)⟩
      rw [HS.out.2.2, ← HM.out.2.1]
      exact HK.out.1.mono hsz
end Go.Proofs.Ytlgmoiilfigamaa
