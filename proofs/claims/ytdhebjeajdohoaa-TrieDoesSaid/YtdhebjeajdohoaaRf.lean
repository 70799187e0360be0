/- The reference's trie: what Set makes; Within. -/
import Derived.Test.YtdhebjeajdohoaaRe
import Derived.Test.YtdhebjeajdohoaaTp
namespace Go.Proofs.Ytdhebjeajdohoaa
open Go.RowKit

theorem ltI_nat (e : Nat × Nat) (a m : Nat) : (ltI e a (m : Int) = true) ↔ ltK e (a, m) := by
  unfold ltI ltK; simp only [decide_eq_true_eq]; omega
theorem putAt_ins (a m : Nat) (x : Int) : ∀ (E : List ((Nat × Nat) × Int)), putAt E a m ((a, m), x) = insE (a, m) x E
  | [] => rfl
  | e :: r => by
    have ih := putAt_ins a m x r
    unfold putAt at ih ⊢
    unfold insE
    by_cases h : ltI e.1 a (m : Int) = true
    · have hi : idx (e :: r) a m = idx r a m + 1 := by unfold idx; rw [List.takeWhile_cons_of_pos (by exact h)]; rfl
      have hf : fnd (e :: r) a m = fnd r a m := by unfold fnd; rw [hi]; simp
      rw [if_pos ((ltI_nat _ _ _).1 h), hi, hf, ← ih, List.take_succ_cons, Nat.add_right_comm, List.drop_succ_cons]
      rfl
    · have hi : idx (e :: r) a m = 0 := by unfold idx; rw [List.takeWhile_cons_of_neg (by exact h)]; rfl
      have hk : ¬ ltK e.1 (a, m) := fun h2 => h ((ltI_nat _ _ _).2 h2)
      rw [if_neg hk, hi]
      by_cases he : e.1 = (a, m)
      · have hf : fnd (e :: r) a m = true := by unfold fnd; rw [hi]; simp [he]
        rw [if_pos he, hf]; rfl
      · have hf : fnd (e :: r) a m = false := by
          unfold fnd; rw [hi]
          simp only [List.getD_cons_zero, Bool.and_eq_false_iff, decide_eq_false_iff_not]
          by_cases h1 : e.1.1 = a
          · refine .inr fun h2 => he (Prod.ext h1 ?_)
            dsimp only; omega
          · exact .inl (.inr h1)
        rw [if_neg he, hf]; rfl
theorem rsetL_any {w : World} {c base : Nat} {E : List ((Nat × Nat) × Int)} (h : RefT w c base E) (hE : E.length ≤ 1000000) (a : Nat) (l : Int) (ha : a < 4294967296) (x : Int) : Calls Try.prog 11 #[.pointer (some ⟨c, 0, none⟩), pfx a l, .int .i64 x] w fun e w' => e = .returned (.bool (okP a l)) ∧ ((okP a l = true ∧ RefT w' c w.heap.size (setL E a l x) ∧ But w w' [c]) ∨ (okP a l = false ∧ Below w.heap.size w w')) := by
  unfold setL
  cases hok : okP a l with
  | true =>
    obtain ⟨-, hl⟩ := okP_key ha hok
    rw [hl] at hok ⊢
    have h1 := rset_any h hE a l.toNat ha hok x
    rw [putAt_ins] at h1
    simp only [Int.toNat_natCast, if_true]
    exact h1.mono fun e w' ⟨h2, h3, h4⟩ => ⟨h2, .inl ⟨by trivial, h3, h4⟩⟩
  | false =>
    have hck := Lib.hid (rcheck_any a l ha)
    rw [hok] at hck
    have hb0 := ((Below.refl w.heap.size w).alloc (Nat.le_refl _) (.cells #[.int .u32 a, .int .i64 l] 32))
    have H := Lib.hid (And.intro h hb0)
    clear h hb0 hok ha
    unfold pfx at hck ⊢
    go_enter Try.func11, Try.ntmps11
    go_wp2_with (go_at_call 39; refine (hck.out _).mono ?_; rintro e w1 ⟨rfl, hb1⟩)
    go_ret
    have hbw := H.out.2.trans (hb1.mono H.out.2.size)
    exact ⟨rfl, by simpa using hbw⟩
def kTo (E : List ((Nat × Nat) × Int)) (p : Nat) (l : Int) (j : Nat) : List (Nat × Nat) := ((E.map fun e : (Nat × Nat) × Int => e.1).take j).filter (fun q : Nat × Nat => inP p l q.1 q.2)
theorem kTo_succ (E : List ((Nat × Nat) × Int)) (p : Nat) (l : Int) (j : Nat) (h : j < E.length) : kTo E p l (j + 1) = kTo E p l j ++ (if inP p l (E.getD j default).1.1 (E.getD j default).1.2 then [(E.getD j default).1] else []) := by
  unfold kTo
  have h1 : (E.map fun e : (Nat × Nat) × Int => e.1).take (j + 1) = (E.map fun e : (Nat × Nat) × Int => e.1).take j ++ [(E.getD j default).1] := by
    rw [List.take_succ_eq_append_getElem (by simpa using h)]; simp [List.getD_eq_getElem?_getD, h]
  rw [h1, List.filter_append]
  congr 1
  simp only [List.filter_cons, List.filter_nil]
set_option maxHeartbeats 2000000 in
theorem rwithinT_any {w : World} {c base : Nat} {E : List ((Nat × Nat) × Int)} (h : RefT w c base E) (hk : ∀ e ∈ E, e.1.1 < 4294967296) (hE : E.length ≤ 1000000) (p : Nat) (l : Int) (hp : p < 4294967296) : Calls Try.prog 17 #[.pointer (some ⟨c, 0, none⟩), pfx p l] w fun e w' => ∃ v, e = .returned v ∧ RP.Own w' w.heap.size v (keysIn E p l) ∧ Below w.heap.size w w' := by
  have hb0 := ((Below.refl w.heap.size w).alloc (Nat.le_refl _) (.cells #[.int .u32 p, .int .i64 l] 32))
  have hpb := hnew w (.cells #[.int .u32 p, .int .i64 l] 32)
  obtain ⟨⟨v, hbox, hown⟩, hle⟩ := h
  obtain ⟨oa, cc, rfl, -, -, hsl, -⟩ := hown.sl
  have hcl := lt_of_blk hbox
  have hw1 : ∃ w1 : World, w1 = w.alloc (.cells #[.int .u32 p, .int .i64 l] 32) := ⟨_, rfl⟩
  have H0 := Lib.hid (And.intro hbox (And.intro hsl (And.intro hk hp)))
  clear hbox hown hsl hle hk hp
  unfold pfx
  go_enter Try.func17, Try.ntmps17
  go_wp2_with fail
  obtain ⟨w1, hw1⟩ := hw1
  rw [← hw1] at hb0 hpb ⊢
  have H1 := Lib.hid (And.intro hb0 hpb)
  clear hw1 hb0 hpb
  go_loopw [5, 6] (fun vv jv wr => ∃ j : Nat, j ≤ E.length ∧ jv = .int .i64 j ∧ RP.Own wr (w.heap.size + 1) vv (kTo E p l j) ∧ Below w.heap.size w wr ∧ wr.heap[w.heap.size]? = some (.cells #[.int .u32 p, .int .i64 l] 32)) (fun _ jv _ => E.length - (intOf jv).toNat)
  case atStart => exact ⟨0, Nat.zero_le _, rfl, Rep.Own.nil _ _, H1.out.1, H1.out.2⟩
  case round =>
    obtain ⟨j, hj, rfl, hown, hbw, hxz⟩ := hrel
    have f1 : wr.cell? ⟨c, 0, none⟩ = some (.slice oa E.length cc) := cell_of ((hbw.block c hcl).trans H0.out.1) rfl
    by_cases hjl : j < E.length
    · obtain ⟨bb, oo, rfl, hbb, hat⟩ := H0.out.2.1.at hjl
      obtain ⟨c0, c1, -⟩ := ro_cells (hat.keep (hbw.block bb hbb))
      have d0 : wr.cell? ⟨w.heap.size, 0, none⟩ = some (.int .u32 p) := cell_of hxz rfl
      have d1 : wr.cell? ⟨w.heap.size, 1, none⟩ = some (.int .i64 l) := cell_of hxz rfl
      simp only [RO] at c0 c1
      have HW := Lib.hid (rwithin_any p l (E.getD j default).1.1 (E.getD j default).1.2 H0.out.2.2.2 (H0.out.2.2.1 _ (by rw [List.getD_eq_getElem?_getD, List.getElem?_eq_getElem hjl]; exact List.getElem_mem _)))
      have htk := kTo_succ E p l j hjl
      have hlf : (kTo E p l j).length ≤ 1000000 := by
        unfold kTo
        exact Nat.le_trans (List.length_filter_le _ _) (by simp; omega)
      generalize E.getD j default = x at *
      have hjl' : ((j : Int) < (E.length : Int)) = True := by simp; omega
      generalize hin : inP p l x.1.1 x.1.2 = q at *
      generalize kTo E p l j = Lj at *
      have HK := Lib.hid (And.intro htk (And.intro hlf (And.intro hown (And.intro hbw hxz))))
      have hbl : bb < wr.heap.size := Nat.lt_of_lt_of_le hbb hbw.size
      unfold pfx at HW
      clear hat htk hlf hown hin
      have hpz := lt_of_blk hxz
      clear hxz
      cases q
      all_goals
        simp only [Bool.false_eq_true, if_false, if_true, List.append_nil] at HK
        go_wp2_with fail
        refine wp_region_quiet_tail (fun w' => w' = wr.drew) 9 (by kernel_rfl) (by kernel_rfl) rfl ?_
        simp only [List.take_succ_cons, List.take_zero, List.drop_succ_cons, List.drop_zero]
        iterate 9 ((with_reducible refine wpQuiet_step (fun K hK => ?_)); go_simp; (with_reducible refine hK _ ?_); clear hK K)
        with_reducible refine wpQuiet_nil ?_
        rintro _ rfl
      · clear c0 c1 d0 d1 f1
        go_wp2_with (go_at_call 26; refine (HW.out _).mono ?_; rintro e w5 ⟨rfl, hb5⟩)
        go_roundw
        case rel => exact ⟨j + 1, by omega, by go_num, by rw [HK.out.1]; exact HK.out.2.2.1.below (undrew hb5), HK.out.2.2.2.1.trans ((undrew hb5).mono HK.out.2.2.2.1.size), ((undrew hb5).block _ hpz).trans HK.out.2.2.2.2⟩
        case measure => simp [intOf]; omega
      · go_wp2_with (first | (go_at_call 26; refine (HW.out _).mono ?_; rintro e w5 ⟨rfl, hb5⟩; have hb5 := undrew hb5; have hg := hb5.block bb hbl; have e0 := (cell_same (o := oo + j * 3) hg).trans c0; have e1 := (cell_same (o := oo + j * 3 + 1) hg).trans c1; have f5 := (cell_same (o := 0) (hb5.block c (Nat.lt_of_lt_of_le hcl hbw.size))).trans f1; have HB5 := Lib.hid (And.intro (HK.out.2.2.1.below hb5) (And.intro (HK.out.2.2.2.1.trans (hb5.mono HK.out.2.2.2.1.size)) ((hb5.block _ hpz).trans HK.out.2.2.2.2))); clear hb5 hg c0 c1 d0 d1 f1) | (at_builtin; refine halt ?_))
        refine Halted.go ?_
        refine Rep.append_one T41 rfl _ _ rfl rfl (HB5.out.1.alloc _) x.1 w5.heap.size 1 rfl (hnew _ _) rfl (by have := HK.out.2.1; unfold maxLen; omega) (by have := HK.out.2.1; omega) (by have := lt_of_blk HB5.out.2.2; simp; omega) ?_
        intro v' w6 hown' hb6 _
        have hp6 := (hb6.block w.heap.size (by omega)).trans (hold (o := .cells #[.int .u32 x.1.1, .int .i64 x.1.2] 32) HB5.out.2.2)
        have H6 := Lib.hid (And.intro hown' (And.intro (HB5.out.2.1.trans (((Below.refl _ _).alloc HB5.out.2.1.size _).trans (hb6.mono (by omega)))) hp6))
        clear hown' hb6 e0 e1 hp6 f5
        go_wp2_with fail
        go_roundw
        case rel => exact ⟨j + 1, by omega, by go_num, by rw [HK.out.1]; exact H6.out.1, H6.out.2.1, H6.out.2.2⟩
        case measure => simp [intOf]; omega
    · have hjl' : ((j : Int) < (E.length : Int)) = False := by simp; omega
      have hall : kTo E p l j = keysIn E p l := by
        unfold kTo keysIn
        rw [List.take_of_length_le (by simp; omega)]
      rw [hall] at hown
      have HO := Lib.hid (And.intro hown hbw)
      clear hown hbw hxz hall
      go_wp2_with fail
      go_ret
      exact ⟨_, rfl, HO.out.1.mono (by omega), HO.out.2⟩
end Go.Proofs.Ytdhebjeajdohoaa
