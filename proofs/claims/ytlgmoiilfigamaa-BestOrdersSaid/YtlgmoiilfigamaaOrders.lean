/-
  Proved: 'bypathlaw15.BestOrders' returns true for every input and leaves its arguments as they were. No conditions.
-/
import Derived.Test.YtlgmoiilfigamaaWy
import Derived.Test.YtlgmoiilfigamaaPz
import Derived.Test.YtlgmoiilfigamaaMx
namespace Go.Proofs.Ytlgmoiilfigamaa
open Go.ChangeShapes Go.WideShapes Go.ChangeAt Go.RowKit

theorem rot_perm (L : List Rt) (q : Nat) : L.Perm (L.drop q ++ L.take q) := by
  have : (L.take q ++ L.drop q).Perm (L.drop q ++ L.take q) := List.perm_append_comm
  rwa [List.take_append_drop] at this
theorem unlike_succ {L : List Rt} {i : Nat} (hi : i < L.length) (h : Unlike (L.take i)) (hn : ∀ q, q < i → ¬ ((L.getD i default).r = (L.getD q default).r ∧ (L.getD i default).i = (L.getD q default).i)) : Unlike (L.take (i + 1)) := by
  unfold Unlike
  rw [List.take_succ_eq_append_getElem hi, List.pairwise_append]
  refine ⟨h, by simp, fun x hx y hy => ?_⟩
  obtain ⟨q, hq, rfl⟩ := List.getElem_of_mem hx
  simp at hq hy
  subst hy
  have hqi : q < i := by omega
  have := hn q hqi
  rw [show L.getD i default = L[i] by simp [List.getD_eq_getElem?_getD, hi], show L.getD q default = L[q]'(by omega) by simp [List.getD_eq_getElem?_getD, show q < L.length by omega]] at this
  simp only [List.getElem_take]
  exact fun h => this ⟨h.1.symm, h.2.symm⟩

set_option maxRecDepth 100000 in
set_option maxHeartbeats 8000000 in
theorem orders_any (oa : Option Addr) (n c : Nat) (turn : Int) (L : List Rt) (w : World) (ht : turn ≤ 9223372036854775807) (h : Came w oa n c L) (hnc : n ≤ c) (hcm : c ≤ 9223372036854775807) : Calls Try.prog 4 #[.slice oa n c, .int .i64 turn] w fun e w' => e = .returned (.bool true) ∧ Below w.heap.size w w' := by
  have hn := h.low
  have HL := Lib.hid (large_any oa n c L w w.heap.size (Nat.le_refl _) h.sl h.ok)
  cases hlg : largeB L with
  | true =>
    rw [hlg] at HL
    clear hlg h
    go_enter Try.func4, Try.ntmps4
    go_wp2_with fail
    refine (HL.out).mono ?_
    rintro e w1 ⟨rfl, hb⟩
    have B1 := Lib.hid hb
    clear hb
    go_wp2_with fail
    refine (lives_any _).mono ?_
    rintro e w2 ⟨rfl, hb⟩
    have B2 := Lib.hid (B1.out.trans (hb.mono B1.out.size))
    clear hb
    go_wp2_with fail
    go_ret
    exact ⟨rfl, B2.out⟩
  | false =>
    rw [hlg] at HL
    by_cases hn0 : n = 0
    · subst hn0
      clear hlg h
      go_enter Try.func4, Try.ntmps4
      go_wp2_with fail
      refine (HL.out).mono ?_
      rintro e w1 ⟨rfl, hb⟩
      have B1 := Lib.hid hb
      clear hb
      go_wp2_with fail
      refine (lives_any _).mono ?_
      rintro e w2 ⟨rfl, hb⟩
      have B2 := Lib.hid (B1.out.trans (hb.mono B1.out.size))
      clear hb
      go_wp2_with fail
      go_ret
      exact ⟨rfl, B2.out⟩
    · by_cases htn : turn < 0
      · have hnz : ((n : Int) == 0) = false := by rw [beq_eq_false_iff_ne]; omega
        clear hlg h
        go_enter Try.func4, Try.ntmps4
        go_wp2_with fail
        refine (HL.out).mono ?_
        rintro e w1 ⟨rfl, hb⟩
        have B1 := Lib.hid hb
        clear hb
        go_wp2_with fail
        refine (lives_any _).mono ?_
        rintro e w2 ⟨rfl, hb⟩
        have B2 := Lib.hid (B1.out.trans (hb.mono B1.out.size))
        clear hb
        go_wp2_with fail
        go_ret
        exact ⟨rfl, B2.out⟩
      · have hnz : ((n : Int) == 0) = false := by rw [beq_eq_false_iff_ne]; omega
        have hi := ins_of (Nat.le_refl _) h.ok hlg
        have h60 : n ≤ 60 := by rw [h.sl.len]; exact hi.h60
        have hpos : 0 < n := by omega
        have hlen := h.sl.len
        obtain ⟨b, off, rfl, hrow⟩ := h.sl.row hpos
        have HI := Lib.hid (And.intro hi (And.intro h (And.intro hrow hlen)))
        have hbl := hrow.lt
        clear hlg h hi hrow hn0 hlen
        go_enter Try.func4, Try.ntmps4
        go_wp2_with fail
        refine (HL.out).mono ?_
        rintro e w1 ⟨rfl, hb⟩
        have B1 := Lib.hid hb
        clear hb
        go_wp2_with fail
        go_loopw [5, 6] (fun iv _ wr => ∃ i : Nat, i ≤ n ∧ iv = .int .i64 i ∧ Unlike (L.take i) ∧ Below w.heap.size w wr) (fun iv _ _ => n - (intOf iv).toNat)
        case atStart => exact ⟨0, Nat.zero_le _, rfl, by simp [Unlike], B1.out⟩
        case round =>
          obtain ⟨i, hin, rfl, hun, hb⟩ := hrel
          by_cases hlt : i < n
          · have HU := Lib.hid (And.intro hun hb)
            clear hun hb
            go_wp2_with fail
            obtain ⟨w3, rfl⟩ : ∃ w3 : World, w3 = wr := ⟨_, rfl⟩
            go_loopw [6] (fun kv wr => ∃ k : Nat, k ≤ i ∧ kv = .int .i64 k ∧ (∀ q, q < k → ¬ ((L.getD i default).r = (L.getD q default).r ∧ (L.getD i default).i = (L.getD q default).i)) ∧ Below w.heap.size w wr) (fun kv _ => i - (intOf kv).toNat)
            case atStart => exact ⟨0, Nat.zero_le _, rfl, fun q hq => absurd hq (by omega), HU.out.2⟩
            case round =>
              obtain ⟨k, hki, rfl, hno, hb⟩ := hrel
              have hsz := hb.size
              by_cases hlt2 : k < i
              · have hrw := HI.out.2.2.1.below hb
                have hatx := hrw.get i (by rw [← HI.out.2.2.2]; exact hlt)
                have haty := hrw.get k (by rw [← HI.out.2.2.2]; omega)
                obtain ⟨x, hx⟩ : ∃ x, x = L.getD i default := ⟨_, rfl⟩
                obtain ⟨y, hy⟩ : ∃ y, y = L.getD k default := ⟨_, rfl⟩
                rw [← hx] at hatx
                rw [← hy] at haty
                have c0 := hatx 0 (by decide)
                have c1 := hatx 1 (by decide)
                have c2 := hatx 2 (by decide)
                have c3 := hatx 3 (by decide)
                have c4 := hatx 4 (by decide)
                have c5 := hatx 5 (by decide)
                have c6 := hatx 6 (by decide)
                have c7 := hatx 7 (by decide)
                have c8 := hatx 8 (by decide)
                have c9 := hatx 9 (by decide)
                simp only [R40, Rt.cells, Nat.add_zero, List.getElem?_cons_zero, List.getElem?_cons_succ] at c0 c1 c2 c3 c4 c5 c6 c7 c8 c9
                have d0 := haty 0 (by decide)
                have d1 := haty 1 (by decide)
                have d2 := haty 2 (by decide)
                have d3 := haty 3 (by decide)
                have d4 := haty 4 (by decide)
                have d5 := haty 5 (by decide)
                have d6 := haty 6 (by decide)
                have d7 := haty 7 (by decide)
                have d8 := haty 8 (by decide)
                have d9 := haty 9 (by decide)
                simp only [R40, Rt.cells, Nat.add_zero, List.getElem?_cons_zero, List.getElem?_cons_succ] at d0 d1 d2 d3 d4 d5 d6 d7 d8 d9
                have HK := Lib.hid (And.intro hno (And.intro hb (And.intro hx hy)))
                have hkn : (k : Int) < n := by omega
                have hlt' : (i : Int) < n := by omega
                have hk60 : k ≤ 60 := by omega
                clear hno hb hx hy hatx haty hrw c1 c2 c4 c5 c6 c7 c8 c9 d1 d2 d4 d5 d6 d7 d8 d9 hn hnz h60 hpos hbl htn hnc hcm ht
                rcases Bool.eq_false_or_eq_true (x.r == y.r) with hre | hre
                all_goals rcases Bool.eq_false_or_eq_true (x.i == y.i) with hie | hie
                all_goals
                  have HE := Lib.hid (And.intro hre hie)
                  go_wp2_with fail
                  refine wp_region_quiet_tail (fun w' => w' = wr.drew) 27 (by kernel_rfl) (by kernel_rfl) rfl ?_
                  simp only [List.take_succ_cons, List.take_zero, List.drop_succ_cons, List.drop_zero]
                  iterate 27 ((with_reducible refine wpQuiet_step (fun K hK => ?_)); go_simp; with_reducible refine hK _ ?_; clear hK K)
                  with_reducible refine wpQuiet_nil ?_
                  rintro _ rfl
                  clear hre hie c0 c3 d0 d3
                · go_wp2_with fail
                  refine (lives_any _).mono ?_
                  rintro e w2 ⟨rfl, hb⟩
                  have B2 := Lib.hid (HK.out.2.1.drew.trans (hb.mono hsz))
                  clear hb
                  go_wp2_with fail
                  go_ret
                  exact ⟨rfl, B2.out⟩
                · go_wp2_with fail
                  go_roundw
                  case rel =>
                    refine ⟨k + 1, by omega, by go_num, fun q hq => ?_, HK.out.2.1.drew⟩
                    by_cases hqk : q = k
                    · rw [hqk, ← HK.out.2.2.1, ← HK.out.2.2.2]
                      have := HE.out
                      simp at this
                      rintro ⟨h1, h2⟩
                      simp_all
                    · exact HK.out.1 q (by omega)
                  case measure => simp [intOf]; omega
                · go_wp2_with fail
                  go_roundw
                  case rel =>
                    refine ⟨k + 1, by omega, by go_num, fun q hq => ?_, HK.out.2.1.drew⟩
                    by_cases hqk : q = k
                    · rw [hqk, ← HK.out.2.2.1, ← HK.out.2.2.2]
                      have := HE.out
                      simp at this
                      rintro ⟨h1, h2⟩
                      simp_all
                    · exact HK.out.1 q (by omega)
                  case measure => simp [intOf]; omega
                · go_wp2_with fail
                  go_roundw
                  case rel =>
                    refine ⟨k + 1, by omega, by go_num, fun q hq => ?_, HK.out.2.1.drew⟩
                    by_cases hqk : q = k
                    · rw [hqk, ← HK.out.2.2.1, ← HK.out.2.2.2]
                      have := HE.out
                      simp at this
                      rintro ⟨h1, h2⟩
                      simp_all
                    · exact HK.out.1 q (by omega)
                  case measure => simp [intOf]; omega
              · have hf : ¬ ((k : Int) < i) := by omega
                obtain rfl : k = i := by omega
                have HK := Lib.hid (And.intro hno hb)
                clear hno hb
                go_wp2_with fail
                go_roundw
                case rel => exact ⟨k + 1, by omega, by go_num, unlike_succ (by rw [← HI.out.2.2.2]; exact hlt) HU.out.1 HK.out.1, HK.out.2⟩
                case measure => simp [intOf]; omega
          · have hf : ¬ ((i : Int) < n) := by omega
            have hin' : L.take i = L := List.take_of_length_le (by rw [← HI.out.2.2.2]; omega)
            rw [hin'] at hun
            obtain ⟨q, hq⟩ : ∃ q : Nat, turn % (n : Int) = (q : Int) := ⟨(turn % (n : Int)).toNat, by have := Int.emod_nonneg turn (show (n : Int) ≠ 0 by omega); omega⟩
            have hqn : q < n := by have := Int.emod_lt_of_pos turn (show (0 : Int) < (n : Int) by omega); omega
            have HU := Lib.hid (And.intro hun (And.intro hb hq))
            have hsz := hb.size
            clear hun hb hin' hlt
            go_wp2_with fail
            have hq1 : q ≤ c := by omega
            have hq2 : ¬ c = q := by omega
            have hq3 : (q : Int) ≤ n := by omega
            have hq4 : q ≤ n := by omega
            refine wp_region_pure [1, 2, 3, 5, 6, 7] [0, 4, 8, 9] (by kernel_rfl) (by kernel_rfl) (fun _ _ d _ _ h => by cases d <;> exact h) ?_
            simp only [pick, List.getD_cons_zero, List.getD_cons_succ]
            iterate 6 ((with_reducible refine wpPure_step (fun K hK => ?_)); go_simp; with_reducible refine hK _ ?_; clear hK K)
            with_reducible refine wpPure_nil ?_
            go_wp2_with (at_builtin; refine halt ?_)
            refine Halted.go ?_
            have hrw : R40.Row wr.drew b off L := HI.out.2.2.1.below HU.out.2.1.drew
            have hlen := HI.out.2.2.2
            have hs1 : R40.Sl wr.drew (some ⟨b, off + q * 10, none⟩) (n - q) (c - q) (L.drop q) := ⟨by rw [List.length_drop, ← hlen], by unfold maxLen; omega, fun _ => ⟨b, _, rfl, hrw.drop q⟩⟩
            have hs2 : R40.Sl wr.drew (some ⟨b, off, none⟩) q c (L.take q) := ⟨by rw [List.length_take]; omega, by unfold maxLen; omega, fun _ => ⟨b, _, rfl, hrw.take q⟩⟩
            have hb0 : Below wr.drew.heap.size wr.drew (wr.drew.alloc (.cells #[] 40)) := (Below.refl _ _).alloc (Nat.le_refl _) _
            have HA := Lib.hid (And.intro hs1 (And.intro hs2 (And.intro hb0 hlen)))
            clear hs1 hs2 hb0 hrw hlen
            refine Rep.append_list T22 rfl _ _ rfl (base := wr.heap.size) (L := []) (M := L.drop q) rfl (own_empty (w := wr.drew) rfl) rfl (HA.out.1.keep HA.out.2.2.1) (fun h => by cases h) (by unfold maxLen; simp; omega) (by simp; omega) (by simp) ?_
            intro v4 w4 hown4 hb4 _
            have H4 := Lib.hid (And.intro (show R40.Own w4 wr.heap.size v4 ([] ++ L.drop q) from hown4) (show Below wr.drew.heap.size wr.drew w4 from HA.out.2.2.1.trans hb4))
            have hsz4 : wr.heap.size ≤ w4.heap.size := H4.out.2.size
            clear hown4 hb4
            go_wp2_with (at_builtin; refine halt ?_)
            refine Halted.go ?_
            refine Rep.append_list T22 rfl _ _ rfl (base := wr.heap.size) (M := L.take q) rfl H4.out.1 rfl (HA.out.2.1.keep H4.out.2) (fun h => by cases h) (by have := HA.out.2.2.2; unfold maxLen; simp; omega) (by have := HA.out.2.2.2; simp; omega) hsz4 ?_
            intro v5 w5 hown5 hb5 _
            obtain ⟨M, hM⟩ : ∃ M, M = L.drop q ++ L.take q := ⟨_, rfl⟩
            have hown5' : R40.Own w5 wr.heap.size v5 M := by rw [hM]; exact hown5
            obtain ⟨a5, c5, rfl, h51, h52, hsl5, -⟩ := hown5'.sl
            have hperm : L.Perm M := by rw [hM]; exact rot_perm L q
            have hml : M.length = n := by rw [← hperm.length_eq, ← HA.out.2.2.2]
            rw [hml] at hsl5 h51 ⊢
            have hnil5 : a5 = none → c5 = 0 := fun h => by
              subst h
              have := hsl5.row hpos
              obtain ⟨_, _, e, _⟩ := this
              cases e
            have hb35 : Below wr.heap.size wr w5 := undrew (H4.out.2.trans hb5)
            have hbw5 : Below w.heap.size w w5 := HU.out.2.1.trans (hb35.mono hsz)
            have hun := HU.out.1
            have hLne : L ≠ [] := by intro e; have := HA.out.2.2.2; rw [e] at this; simp at this; omega
            have hMne : M ≠ [] := by intro e; rw [e] at hml; simp at hml; omega
            have hbp := best_perm hun hperm hLne
            have hrp := rankOf_perm hun hperm
            have hsub : ∀ x ∈ M, x ∈ L := fun x hx => hperm.mem_iff.2 hx
            have hb1 := (best_head L hLne).1
            have hb2 := (best_head M hMne).1
            rw [← HA.out.2.2.2] at hb1
            rw [hml] at hb2
            have hbL := best_any (some ⟨b, off, none⟩) n c L w5 w.heap.size (HI.out.2.1.sl.keep hbw5) (HI.out.1.below hbw5)
            rw [show (!L.isEmpty) = true by cases L; exact absurd rfl hLne; rfl] at hbL
            have hbM := fun w' (h : Below w5.heap.size w5 w') => best_any a5 n c5 M w' w.heap.size (hsl5.keep h) ((HI.out.1.below (hbw5.trans (h.mono hbw5.size))).sub hsub (by rw [hml]; exact h60))
            rw [show (!M.isEmpty) = true by cases M; exact absurd rfl hMne; rfl] at hbM
            obtain ⟨p1, hp1⟩ : ∃ p1, p1 = bestN L := ⟨_, rfl⟩
            obtain ⟨p2, hp2⟩ : ∃ p2, p2 = bestN M := ⟨_, rfl⟩
            rw [← hp1] at hbL hb1 hbp
            rw [← hp2] at hbM hb2 hbp
            obtain ⟨g, o5, rfl, hrow5⟩ := hsl5.row hpos
            have hgl := hrow5.lt
            have H5 := Lib.hid (And.intro hbw5 (And.intro hsl5 (And.intro hrow5 (And.intro hbp (And.intro hrp (And.intro hsub (And.intro hnil5 hml)))))))
            have HBL := Lib.hid hbL
            have HBM := Lib.hid hbM
            clear hown5 hb5 hown5' hsl5 hrow5 hperm hml hb35 hbw5 hun hLne hMne hbp hrp hsub hbL hbM hM hnil5 hp1 hp2
            go_wp2_with fail
            refine (HBL.out).mono ?_
            rintro e w6 ⟨rfl, hb6⟩
            have H6 := Lib.hid hb6
            clear hb6
            go_wp2_with fail
            refine (HBM.out _ H6.out).mono ?_
            rintro e w7 ⟨rfl, hb7⟩
            have H7 := Lib.hid (H6.out.trans (hb7.mono H6.out.size))
            clear hb7
            have hx1 := (HI.out.2.2.1.below (H5.out.1.trans (H7.out.mono H5.out.1.size))).get p1 (by rw [← HA.out.2.2.2]; exact hb1)
            have hx2 := (H5.out.2.2.1.below H7.out).get p2 (by rw [H5.out.2.2.2.2.2.2.2]; exact hb2)
            rw [← H5.out.2.2.2.1] at hx2
            generalize L.getD p1 default = x at *
            have HX := Lib.hid (And.intro hx1 hx2)
            have hp1n : (p1 : Int) < n := by omega
            have hp2n : (p2 : Int) < n := by omega
            have hbl7 : b < w7.heap.size := Nat.lt_of_lt_of_le hbl (H5.out.1.trans (H7.out.mono H5.out.1.size)).size
            have hgl7 : g < w7.heap.size := Nat.lt_of_lt_of_le hgl H7.out.size
            have HLV := Lib.hid (fun w' => lives_any w')
            clear hx1 hx2
            go_wp2_with fail
            refine wp_region_mixed (fun w' => Below w7.heap.size w7 w') 40 [41, 43] [42, 44, 45, 46, 47] (by kernel_rfl) (by kernel_rfl) (fun _ _ d _ _ h => by cases d <;> exact h) (Below.drew (Below.refl _ _)) ?_
            simp only [List.take_succ_cons, List.take_zero, pick, List.getD_cons_zero, List.getD_cons_succ]
            iterate 41 ((with_reducible refine wpQuiet_step (fun K hK => ?_)); go_simp; first | (with_reducible refine hK _ ?_; clear hK K) | (apply Exists.intro; (with_reducible refine ⟨fun w' hw' => ?_, hK _ ?_⟩); first | (go_at_call 8; (with_reducible refine (HLV.out w').mono ?_); rintro e w2 ⟨rfl, hb⟩; exact ⟨rfl, hw'.trans (hb.mono hw'.size)⟩) | (obtain ⟨hx1, hx2⟩ := HX.out; have hy1 := hx1.keep (hw'.block b hbl7); have hy2 := hx2.keep (hw'.block g hgl7); have c0 := hy1 0 (by decide); have c1 := hy1 1 (by decide); have c2 := hy1 2 (by decide); have c3 := hy1 3 (by decide); simp only [R40, Rt.cells, Nat.add_zero, List.getElem?_cons_zero, List.getElem?_cons_succ] at c0 c1 c2 c3; have d0 := hy2 0 (by decide); have d1 := hy2 1 (by decide); have d2 := hy2 2 (by decide); have d3 := hy2 3 (by decide); simp only [R40, Rt.cells, Nat.add_zero, List.getElem?_cons_zero, List.getElem?_cons_succ] at d0 d1 d2 d3; go_simp; first | exact rfl | exact ⟨rfl, rfl⟩); clear hK K))
            with_reducible refine wpQuiet_nil ?_
            intro wq hq
            iterate 2 ((with_reducible refine wpPure_step (fun K hK => ?_)); go_simp; with_reducible refine hK _ ?_; clear hK K)
            with_reducible refine wpPure_nil ?_
            have HQ := Lib.hid (And.intro hq (H5.out.1.trans ((H7.out.trans (hq.mono H7.out.size)).mono H5.out.1.size)))
            clear hq
            go_wp2_with fail
            refine (rank_any (some ⟨b, off, none⟩) n c L wq w.heap.size (HI.out.2.1.sl.keep HQ.out.2) (fun h => by cases h) (HI.out.1.below HQ.out.2)).mono ?_
            rintro e w8 ⟨v8, rfl, hown8, hb8⟩
            obtain ⟨a8, c8, rfl, -, -, hsl8, -⟩ := hown8.sl
            have hbw8 := HQ.out.2.trans (hb8.mono HQ.out.2.size)
            have hsl58 := H5.out.2.1.keep (H7.out.trans ((HQ.out.1.trans (hb8.mono HQ.out.1.size)).mono H7.out.size))
            have H8 := Lib.hid (And.intro hbw8 (And.intro hsl8 hsl58))
            clear hown8 hb8 hsl8 hbw8 hsl58
            go_wp2_with fail
            refine (rank_any (some ⟨g, o5, none⟩) n c5 M w8 w.heap.size H8.out.2.2 (fun h => by cases h) ((HI.out.1.below H8.out.1).sub H5.out.2.2.2.2.2.1 (by rw [H5.out.2.2.2.2.2.2.2]; exact h60))).mono ?_
            rintro e w9 ⟨v9, rfl, hown9, hb9⟩
            rw [← H5.out.2.2.2.2.1] at hown9
            obtain ⟨a9, c9, rfl, -, -, hsl9, -⟩ := hown9.sl
            have hbw9 := H8.out.1.trans (hb9.mono H8.out.1.size)
            have hok9 : ∀ x ∈ rankOf L, x ∈ L := fun x hx => rank_mem _ _ _ (Nat.le_refl _) hx
            have H9 := Lib.hid (And.intro hbw9 (And.intro (H8.out.2.1.keep hb9) (And.intro hsl9 hok9)))
            clear hown9 hb9 hsl9 hbw9 hok9
            go_wp2_with fail
            refine (sameRoutes_self a8 a9 _ c8 c9 (rankOf L) w9 w.heap.size H9.out.1.size H9.out.2.1 H9.out.2.2.1 (fun x hx => ((HI.out.1.below H9.out.1).ok x (H9.out.2.2.2 x hx)).1)).mono ?_
            rintro e w10 ⟨rfl, hb10⟩
            have H10 := Lib.hid (H9.out.1.trans (hb10.mono H9.out.1.size))
            clear hb10
            go_wp2_with fail
            go_ret
            exact ⟨rfl, H10.out⟩
set_option maxRecDepth 100000 in
theorem orders_lifted (os : Os) (started : os.Started) (H : Type) (enc : TypeId × Value → H) :
    ReturnsInHanded {} Try.checked os 4 .any (Rows.bestOrdersSpec.pre6 enc Try.prog Try.f4 Rows.bestOrdersRow.domain false) (Rows.bestOrdersSpec.post enc Try.prog Try.f4 false true false false) := by
  refine returnsInHanded_of_change (C := Try.checked) own started (by kernel_rfl) Try.func4
    (ChangeSpec.witness6 (enc := enc) (C := Try.checked) false ⟨#[], #[.slice none 0 0, .int .i64 0], []⟩ 8 (by kernel_rfl) (by kernel_rfl) (by kernel_rfl) (by kernel_rfl)) ?_
  intro W base args ds gs before hval0 hW hcnd _
  have hval : ∀ (j : Nat) t v, Try.f4.params[j]? = some t → args[j]? = some v → Value.okWide Try.prog W .any base t v := hval0
  have hW' := hW
  obtain ⟨p, q, hA0, hV, rfl, hfz, hnd⟩ := hW
  have hA : DataW.TrodAll enc Try.prog W 0 (fun _ => true) true Try.f4.params.toList args.toList ds p := hA0
  rw [Try.params4] at hA hval
  obtain ⟨v0, vs0, d0, ds0, p0, q0, hargs, rfl, rfl, h0, r0⟩ := trodAll_cons hA
  obtain ⟨v1, vs1, d1, ds1, p1, q1, rfl, rfl, rfl, h1, r1⟩ := trodAll_cons r0
  obtain ⟨rfl, rfl, rfl⟩ := trodAll_nil r1
  obtain rfl : args = #[v0, v1] := by cases args; simp_all
  obtain ⟨rfl, rfl⟩ := trodVars_none hV
  have lt0 : ∀ x ∈ p0, x.block < W.heap.size := by obtain ⟨m, hm⟩ := h0; exact DataW.trod_lt m _ _ _ hm
  obtain ⟨x0, y0, z0, rfl⟩ := okWide_slice Try.underlying22 (hval 0 22 v0 rfl rfl)
  obtain ⟨s0, e0, ok0⟩ := (reads22).arg h0
  simp only [Value.cells, List.cons.injEq, Value.slice.injEq, and_true] at e0
  obtain ⟨rfl, rfl, rfl⟩ := e0
  obtain ⟨a1, rfl, rfl, rfl, w1⟩ := open_int Try.underlying3 (hval 1 3 v1 rfl rfl) h1
  clear hA0 hval0
  refine (orders_any _ _ _ a1 _ W (wf64 w1).2 (came_of ok0) ok0.nc (by have := ok0.cm; unfold maxLen at this; omega)).mono fun e W' ⟨he, bel⟩ => ?_
  subst he
  exact ⟨_, rfl, _, _, _, [], _, [], hW', trodAll_mk1 (shut_bool Try.underlying4 _), (trodAll_cons_mk (Below.trod laidOut (by kernel_rfl) (of_decide_eq_true (by kernel_rfl)) h0 bel lt0) (trodAll_cons_mk (shut_int Try.underlying3 w1) trodAll_mk0)), rfl, bel.frame _, fun h => by cases h⟩

theorem orders_over : Rows.bestOrdersRow.holds Try.pinned (OpenSpec.ofChange Rows.bestOrdersSpec) :=
  OpenClaim.holds_of_wide 4 Try.f4 rfl rfl rfl rfl rfl rfl rfl ⟨rfl, rfl, rfl, rfl, rfl⟩ rfl rfl rfl rfl rfl (by kernel_rfl) Try.func4 (by kernel_rfl)
    (of_decide_eq_true (by kernel_rfl)) (by unfold Func.isWrapper; rw [if_neg (of_decide_eq_false (by kernel_rfl))]; exact ⟨rfl, rfl⟩)
    (fun os started H enc _ => orders_lifted os started H enc)

theorem bestOrders_holds : Rows.BestOrdersSaid := orders_over
#print axioms bestOrders_holds
end Go.Proofs.Ytlgmoiilfigamaa
