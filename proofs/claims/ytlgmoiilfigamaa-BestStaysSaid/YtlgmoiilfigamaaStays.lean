/-
  Proved: 'bypathlaw15.BestStays' returns true for every input and leaves its arguments as they were. No conditions.
-/
import Derived.Test.YtlgmoiilfigamaaWy
import Derived.Test.YtlgmoiilfigamaaPz
import Derived.Test.YtlgmoiilfigamaaMx
namespace Go.Proofs.Ytlgmoiilfigamaa
open Go.ChangeShapes Go.WideShapes Go.ChangeAt Go.RowKit

/-- the routes begin with AS 7 -/
def sevenB (x : Rt) : Bool := !(decide (x.pn = 0) || (x.path.getD 0 default).set || decide ((x.path.getD 0 default).sn = 0) || !(decide ((x.path.getD 0 default).ns.getD 0 0 = 7)))
theorem seven_first {x : Rt} (hp : x.pn = x.path.length) (_hs : ∀ s ∈ x.path, s.sn = s.ns.length) (h : sevenB x = true) : pfirst x.path = 7 := by
  unfold sevenB at h
  simp only [Bool.not_eq_true', Bool.or_eq_false_iff, decide_eq_false_iff_not, Bool.not_eq_false', decide_eq_true_eq] at h
  obtain ⟨⟨⟨h1, h2⟩, h3⟩, h4⟩ := h
  unfold pfirst
  cases hx : x.path with
  | nil => rw [hx] at hp; exact absurd hp h1
  | cons s r =>
    rw [hx] at h2 h4
    simp only [List.getD_cons_zero] at h2 h4
    dsimp only
    rw [if_neg (by simp [h2])]
    cases hn : s.ns with
    | nil => rw [hn] at h4; simp at h4
    | cons a t => rw [hn] at h4; simpa using h4

set_option maxRecDepth 100000 in
set_option maxHeartbeats 8000000 in
theorem stays_any (oa : Option Addr) (n c : Nat) (gone : Int) (L : List Rt) (w : World) (h : Came w oa n c L) (hnc : n ≤ c) (hcm : c ≤ 9223372036854775807) : Calls Try.prog 5 #[.slice oa n c, .int .i64 gone] w fun e w' => e = .returned (.bool true) ∧ Below w.heap.size w w' := by
  have hn := h.low
  have HL := Lib.hid (large_any oa n c L w w.heap.size (Nat.le_refl _) h.sl h.ok)
  cases hlg : largeB L with
  | true =>
    rw [hlg] at HL
    clear hlg h
    go_enter Try.func5, Try.ntmps5
    go_wp2_with fail
    refine (HL.out).mono ?_
    rintro e w1 ⟨rfl, hb⟩
    have B1 := Lib.hid hb
    clear hb
    go_wp2_with fail
    refine (lives_any _).mono ?_
    rintro e w2 ⟨rfl, hb⟩
    have B2 := Lib.hid (B1.out.trans (hb.mono B1.out.size))
    clear hb
    go_wp2_with fail
    go_ret
    exact ⟨rfl, B2.out⟩
  | false =>
    rw [hlg] at HL
    by_cases hg0 : gone < 0
    · clear hlg h
      go_enter Try.func5, Try.ntmps5
      go_wp2_with fail
      refine (HL.out).mono ?_
      rintro e w1 ⟨rfl, hb⟩
      have B1 := Lib.hid hb
      clear hb
      go_wp2_with fail
      refine (lives_any _).mono ?_
      rintro e w2 ⟨rfl, hb⟩
      have B2 := Lib.hid (B1.out.trans (hb.mono B1.out.size))
      clear hb
      go_wp2_with fail
      go_ret
      exact ⟨rfl, B2.out⟩
    · by_cases hgn : (n : Int) ≤ gone
      · clear hlg h
        go_enter Try.func5, Try.ntmps5
        go_wp2_with fail
        refine (HL.out).mono ?_
        rintro e w1 ⟨rfl, hb⟩
        have B1 := Lib.hid hb
        clear hb
        go_wp2_with fail
        refine (lives_any _).mono ?_
        rintro e w2 ⟨rfl, hb⟩
        have B2 := Lib.hid (B1.out.trans (hb.mono B1.out.size))
        clear hb
        go_wp2_with fail
        go_ret
        exact ⟨rfl, B2.out⟩
      · obtain ⟨q, rfl⟩ : ∃ q : Nat, gone = (q : Int) := ⟨gone.toNat, by omega⟩
        have hqn : q < n := by omega
        have hi := ins_of (Nat.le_refl _) h.ok hlg
        have h60 : n ≤ 60 := by rw [h.sl.len]; exact hi.h60
        have hpos : 0 < n := by omega
        have hlen := h.sl.len
        obtain ⟨b, off, rfl, hrow⟩ := h.sl.row hpos
        have HI := Lib.hid (And.intro hi (And.intro h (And.intro hrow hlen)))
        have hbl := hrow.lt
        clear hlg h hi hrow hlen hg0
        go_enter Try.func5, Try.ntmps5
        go_wp2_with fail
        refine (HL.out).mono ?_
        rintro e w1 ⟨rfl, hb⟩
        have B1 := Lib.hid hb
        clear hb
        go_wp2_with fail
        go_loopw [5] (fun iv wr => ∃ i : Nat, i ≤ n ∧ iv = .int .i64 i ∧ (∀ x ∈ L.take i, pfirst x.path = 7) ∧ Below w.heap.size w wr) (fun iv _ => n - (intOf iv).toNat)
        case atStart => exact ⟨0, Nat.zero_le _, rfl, by simp, B1.out⟩
        case round =>
          obtain ⟨i, hin, rfl, hall, hb⟩ := hrel
          have hsz := hb.size
          by_cases hlt : i < n
          · have hat := (HI.out.2.2.1.below hb).get i (by rw [← HI.out.2.2.2]; exact hlt)
            have hxm : L.getD i default ∈ L := getD_mem (by rw [← HI.out.2.2.2]; exact hlt)
            have hok := (HI.out.2.1.ok _ hxm).below hb
            have hts : L.take (i + 1) = L.take i ++ [L.getD i default] := by
              have h0 : i < L.length := by rw [← HI.out.2.2.2]; exact hlt
              rw [List.take_succ_eq_append_getElem h0]; simp [List.getD_eq_getElem?_getD, h0]
            generalize L.getD i default = x at *
            have c0 := hat 0 (by decide)
            have c1 := hat 1 (by decide)
            have c2 := hat 2 (by decide)
            have c3 := hat 3 (by decide)
            have c4 := hat 4 (by decide)
            have c5 := hat 5 (by decide)
            have c6 := hat 6 (by decide)
            have c7 := hat 7 (by decide)
            have c8 := hat 8 (by decide)
            have c9 := hat 9 (by decide)
            simp only [R40, Rt.cells, Nat.add_zero, List.getElem?_cons_zero, List.getElem?_cons_succ] at c0 c1 c2 c3 c4 c5 c6 c7 c8 c9
            obtain ⟨⟨hp1, hp2, hp3, hp4⟩, -, -, -⟩ := hok
            have hpm : x.pn ≤ 9223372036854775807 := by unfold maxLen at hp2; omega
            have HK := Lib.hid (And.intro hall (And.intro hb (And.intro hts (And.intro hp1 hp4))))
            have hsevn : sevenB x = true → pfirst x.path = 7 := seven_first hp1 (fun s hs => (hp4 s hs).1)
            have HSV := Lib.hid hsevn
            clear hall hb hts hat hsevn c0 c1 c2 c3 c4 c6 c7 c8 c9
            by_cases hpn : x.pn = 0
            · have hpz : ((x.pn : Int) == 0) = true := by rw [hpn]; rfl
              clear hp1 hp2 hp3 hp4 hpn
              go_wp2_with fail
              refine (lives_any _).mono ?_
              rintro e w2 ⟨rfl, hb⟩
              have B2 := Lib.hid (HK.out.2.1.trans (hb.mono hsz))
              clear hb
              go_wp2_with fail
              go_ret
              exact ⟨rfl, B2.out⟩
            · have hpz : ((x.pn : Int) == 0) = false := by rw [beq_eq_false_iff_ne]; omega
              obtain ⟨b2, o2, hpa, hb2, hcell⟩ := hp3 (by omega)
              have hseg := hcell 0 (by omega)
              obtain ⟨hs1, hs2, hs3⟩ := hp4 _ (getD_mem (by rw [← hp1]; omega) : x.path.getD 0 default ∈ x.path)
              have hsvb : sevenB x = !((x.path.getD 0 default).set || decide ((x.path.getD 0 default).sn = 0) || !(decide ((x.path.getD 0 default).ns.getD 0 0 = 7))) := by unfold sevenB; simp [hpn]
              have hppos : 0 < x.pn := by omega
              generalize x.path.getD 0 default = s at *
              obtain ⟨z, hz⟩ : ∃ z, z = s.ns.getD 0 0 := ⟨_, rfl⟩
              have hsm : s.sn ≤ 9223372036854775807 := by unfold maxLen at hs2; omega
              simp only [Nat.zero_mul, Nat.add_zero] at hseg
              obtain ⟨g0, g1⟩ := hseg
              rw [hpa] at c5
              have HZ := Lib.hid (And.intro hsvb (And.intro hs3 hz))
              clear hp1 hp2 hp3 hp4 hpn hcell hs1 hs2 hs3 hsvb hz hpa
              cases hset : s.set with
              | true =>
                rw [hset] at g0
                clear hset
                go_wp2_with fail
                refine (lives_any _).mono ?_
                rintro e w2 ⟨rfl, hb⟩
                have B2 := Lib.hid (HK.out.2.1.trans (hb.mono hsz))
                clear hb
                go_wp2_with fail
                go_ret
                exact ⟨rfl, B2.out⟩
              | false =>
                rw [hset] at g0
                have HST := Lib.hid hset
                clear hset
                by_cases hsn : s.sn = 0
                · have hsz0 : ((s.sn : Int) == 0) = true := by rw [hsn]; rfl
                  clear hsn
                  go_wp2_with fail
                  refine (lives_any _).mono ?_
                  rintro e w2 ⟨rfl, hb⟩
                  have B2 := Lib.hid (HK.out.2.1.trans (hb.mono hsz))
                  clear hb
                  go_wp2_with fail
                  go_ret
                  exact ⟨rfl, B2.out⟩
                · have hsz0 : ((s.sn : Int) == 0) = false := by rw [beq_eq_false_iff_ne]; omega
                  obtain ⟨b3, o3, hsa, hb3, hc3⟩ := HZ.out.2.1 (by omega)
                  have hz0 := hc3 0 (by omega)
                  rw [← HZ.out.2.2, Nat.add_zero] at hz0
                  rw [hsa] at g1
                  have hspos : 0 < s.sn := by omega
                  have HSN := Lib.hid hsn
                  clear hc3 hsa hsn
                  by_cases hz7 : z = 7
                  · have hzb : (z != 7) = false := by simp [hz7]
                    have HZ7 := Lib.hid hz7
                    clear hz7
                    go_wp2_with fail
                    go_roundw
                    case rel =>
                      refine ⟨i + 1, by omega, by go_num, fun y hy => ?_, HK.out.2.1⟩
                      rw [HK.out.2.2.1] at hy
                      rcases List.mem_append.1 hy with hy | hy
                      · exact HK.out.1 y hy
                      · rw [List.mem_singleton.1 hy]
                        refine HSV.out ?_
                        rw [HZ.out.1, HST.out, ← HZ.out.2.2, HZ7.out]
                        simp [HSN.out]
                    case measure => simp [intOf]; omega
                  · have hzb : (z != 7) = true := by simp [hz7]
                    clear hz7
                    go_wp2_with fail
                    refine (lives_any _).mono ?_
                    rintro e w2 ⟨rfl, hb⟩
                    have B2 := Lib.hid (HK.out.2.1.trans (hb.mono hsz))
                    clear hb
                    go_wp2_with fail
                    go_ret
                    exact ⟨rfl, B2.out⟩
          · have hf : ¬ ((i : Int) < n) := by omega
            have hin' : L.take i = L := List.take_of_length_le (by rw [← HI.out.2.2.2]; omega)
            rw [hin'] at hall
            have HU := Lib.hid (And.intro hall hb)
            clear hall hb hin' hlt
            go_wp2_with fail
            have hLne : L ≠ [] := by intro e; have := HI.out.2.2.2; rw [e] at this; simp at this; omega
            have hbb := (best_head L hLne).1
            rw [← HI.out.2.2.2] at hbb
            have hbest := best_any (some ⟨b, off, none⟩) n c L wr w.heap.size (HI.out.2.1.sl.keep HU.out.2) (HI.out.1.below HU.out.2)
            rw [show (!L.isEmpty) = true by cases L; exact absurd rfl hLne; rfl] at hbest
            have hst := fun (hne : bestN L ≠ q) => stays (L := L) (g := q) (fun x hx y hy => by rw [HU.out.1 x hx, HU.out.1 y hy]) (by rw [← HI.out.2.2.2]; exact hqn) hne
            obtain ⟨p1, hp1⟩ : ∃ p1, p1 = bestN L := ⟨_, rfl⟩
            rw [← hp1] at hbest hbb hst
            have HBE := Lib.hid hbest
            have HST := Lib.hid hst
            clear hbest hst hp1 hLne
            refine (HBE.out).mono ?_
            rintro e w2 ⟨rfl, hb⟩
            have H2 := Lib.hid (HU.out.2.trans (hb.mono HU.out.2.size))
            clear hb
            have hp1n : ¬ ((n : Int) ≤ p1) := by omega
            have hp1n2 : (p1 : Int) < n := by omega
            go_wp2_with fail
            refine (lives_any _).mono ?_
            rintro e w3 ⟨rfl, hb⟩
            have H3 := Lib.hid (H2.out.trans (hb.mono H2.out.size))
            clear hb
            by_cases hpq : p1 = q
            · have hpq' : ((p1 : Int) == q) = true := by rw [hpq]; simp
              clear hpq
              go_wp2_with fail
              go_ret
              exact ⟨rfl, H3.out⟩
            · have hpq' : ((p1 : Int) == q) = false := by rw [beq_eq_false_iff_ne]; omega
              obtain ⟨hMne, hbM⟩ := HST.out hpq
              obtain ⟨m, rfl⟩ : ∃ m, n = m + 1 := ⟨n - 1, by omega⟩
              have HPQ := Lib.hid hpq
              clear hpq
              have hi1 : q ≤ c := by omega
              have hi2 : q ≤ m := by omega
              have hi3 : ((q : Int) + 1).toNat = q + 1 := by omega
              have hi4 : (0 : Int) ≤ (q : Int) + 1 := by omega
              have hi5 : (q : Int) ≤ (m : Int) := by omega
              have hiw : IntKind.i64.wrap ((q : Int) + 1) = (q : Int) + 1 := IntWalk.i64_in _ (by omega)
              have hsz := H3.out.size
              go_wp2_with fail
              refine wp_region_pure [1, 2, 3, 5, 6, 7, 8] [0, 4, 9, 10] (by kernel_rfl) (by kernel_rfl) (fun _ _ d _ _ h => by cases d <;> exact h) ?_
              simp only [pick, List.getD_cons_zero, List.getD_cons_succ]
              iterate 7 ((with_reducible refine wpPure_step (fun K hK => ?_)); go_simp; with_reducible refine hK _ ?_; clear hK K)
              with_reducible refine wpPure_nil ?_
              generalize hsa : (if c = q + 1 then (some ⟨b, off, none⟩ : Option Addr) else some ⟨b, off + (q + 1) * 10, none⟩) = sa
              have HSA := Lib.hid hsa
              clear hsa
              go_wp2_with (at_builtin; refine halt ?_)
              refine Halted.go ?_
              have hrow3 : R40.Row w3.drew b off L := HI.out.2.2.1.below H3.out.drew
              have hMk := HI.out.2.2.2
              have hs1 : R40.Sl w3.drew (some ⟨b, off, none⟩) q c (L.take q) := ⟨by rw [List.length_take]; omega, by unfold maxLen; omega, fun _ => ⟨b, off, rfl, hrow3.take q⟩⟩
              have hs2 : R40.Sl w3.drew sa (m - q) (c - (q + 1)) (L.drop (q + 1)) := ⟨by rw [List.length_drop]; omega, by unfold maxLen; omega, fun h0 => ⟨b, off + (q + 1) * 10, by rw [← HSA.out, if_neg (by omega)], hrow3.drop (q + 1)⟩⟩
              have hb0 : Below w3.drew.heap.size w3.drew (w3.drew.alloc (.cells #[] 40)) := (Below.refl _ _).alloc (Nat.le_refl _) _
              have HA := Lib.hid (And.intro hs1 (And.intro hs2 (And.intro hb0 hMk)))
              clear hs1 hs2 hb0 hrow3 hMk
              refine Rep.append_list T22 rfl _ _ rfl (base := w3.heap.size) (L := []) (M := L.take q) rfl (own_empty (w := w3.drew) rfl) rfl (HA.out.1.keep HA.out.2.2.1) (fun h => by cases h) (by unfold maxLen; simp; omega) (by simp; omega) (by simp) ?_
              intro v4 w4 hown4 hb4 _
              have H4 := Lib.hid (And.intro (show R40.Own w4 w3.heap.size v4 ([] ++ L.take q) from hown4) (show Below w3.drew.heap.size w3.drew w4 from HA.out.2.2.1.trans hb4))
              have hsz4 : w3.heap.size ≤ w4.heap.size := H4.out.2.size
              clear hown4 hb4
              go_wp2_with (at_builtin; refine halt ?_)
              refine Halted.go ?_
              refine Rep.append_list T22 rfl _ _ rfl (base := w3.heap.size) (M := L.drop (q + 1)) rfl H4.out.1 rfl (HA.out.2.1.keep H4.out.2) (fun h => by have := HSA.out; rw [h] at this; split at this <;> cases this) (by unfold maxLen; simp; omega) (by simp; omega) hsz4 ?_
              intro v5 w5 hown5 hb5 _
              have hrest' : R40.Own w5 w3.heap.size v5 (L.eraseIdx q) := by rw [List.eraseIdx_eq_take_drop_succ]; exact hown5
              obtain ⟨a5, c5, rfl, h51, h52, hsl5, -⟩ := hrest'.sl
              have hle5 : (L.eraseIdx q).length = m := by rw [List.length_eraseIdx]; have := HA.out.2.2.2; split <;> omega
              rw [hle5] at hsl5 ⊢
              have hbw5 : Below w.heap.size w w5 := H3.out.trans ((undrew (H4.out.2.trans hb5)).mono hsz)
              have hbest := best_any a5 m c5 (L.eraseIdx q) w5 w.heap.size hsl5 ((HI.out.1.below hbw5).sub (fun y hy => List.mem_of_mem_eraseIdx hy) (by rw [hle5]; omega))
              rw [show (!(L.eraseIdx q).isEmpty) = true by cases hh : L.eraseIdx q; exact absurd hh hMne; rfl, hbM] at hbest
              have HBM := Lib.hid hbest
              have H5 := Lib.hid hbw5
              clear hown5 hb5 hrest' hle5 h51 h52 hsl5 hbw5 hbest hbM hMne
              go_wp2_with fail
              refine (HBM.out).mono ?_
              rintro e w6 ⟨rfl, hb6⟩
              have H6 := Lib.hid (H5.out.trans (hb6.mono H5.out.size))
              clear hb6
              by_cases hlt : q < p1
              · have hlt' : (q : Int) < p1 := by omega
                rw [if_pos hlt]
                have hsub : IntKind.i64.wrap ((p1 : Int) - 1) = (p1 : Int) - 1 := IntWalk.i64_in _ (by omega)
                have hcast : ((p1 - 1 : Nat) : Int) = (p1 : Int) - 1 := by omega
                rw [hcast]
                clear hcast
                go_wp2_with fail
                go_ret
                exact ⟨rfl, H6.out⟩
              · have hlt' : ¬ ((q : Int) < p1) := by omega
                rw [if_neg hlt]
                go_wp2_with fail
                go_ret
                exact ⟨rfl, H6.out⟩
set_option maxRecDepth 100000 in
theorem stays_lifted (os : Os) (started : os.Started) (H : Type) (enc : TypeId × Value → H) :
    ReturnsInHanded {} Try.checked os 5 .any (Rows.bestStaysSpec.pre6 enc Try.prog Try.f5 Rows.bestStaysRow.domain false) (Rows.bestStaysSpec.post enc Try.prog Try.f5 false true false false) := by
  refine returnsInHanded_of_change (C := Try.checked) own started (by kernel_rfl) Try.func5
    (ChangeSpec.witness6 (enc := enc) (C := Try.checked) false ⟨#[], #[.slice none 0 0, .int .i64 0], []⟩ 8 (by kernel_rfl) (by kernel_rfl) (by kernel_rfl) (by kernel_rfl)) ?_
  intro W base args ds gs before hval0 hW hcnd _
  have hval : ∀ (j : Nat) t v, Try.f5.params[j]? = some t → args[j]? = some v → Value.okWide Try.prog W .any base t v := hval0
  have hW' := hW
  obtain ⟨p, q, hA0, hV, rfl, hfz, hnd⟩ := hW
  have hA : DataW.TrodAll enc Try.prog W 0 (fun _ => true) true Try.f5.params.toList args.toList ds p := hA0
  rw [Try.params5] at hA hval
  obtain ⟨v0, vs0, d0, ds0, p0, q0, hargs, rfl, rfl, h0, r0⟩ := trodAll_cons hA
  obtain ⟨v1, vs1, d1, ds1, p1, q1, rfl, rfl, rfl, h1, r1⟩ := trodAll_cons r0
  obtain ⟨rfl, rfl, rfl⟩ := trodAll_nil r1
  obtain rfl : args = #[v0, v1] := by cases args; simp_all
  obtain ⟨rfl, rfl⟩ := trodVars_none hV
  have lt0 : ∀ x ∈ p0, x.block < W.heap.size := by obtain ⟨m, hm⟩ := h0; exact DataW.trod_lt m _ _ _ hm
  obtain ⟨x0, y0, z0, rfl⟩ := okWide_slice Try.underlying22 (hval 0 22 v0 rfl rfl)
  obtain ⟨s0, e0, ok0⟩ := (reads22).arg h0
  simp only [Value.cells, List.cons.injEq, Value.slice.injEq, and_true] at e0
  obtain ⟨rfl, rfl, rfl⟩ := e0
  obtain ⟨a1, rfl, rfl, rfl, w1⟩ := open_int Try.underlying3 (hval 1 3 v1 rfl rfl) h1
  clear hA0 hval0
  refine (stays_any _ _ _ a1 _ W (came_of ok0) ok0.nc (by have := ok0.cm; unfold maxLen at this; omega)).mono fun e W' ⟨he, bel⟩ => ?_
  subst he
  exact ⟨_, rfl, _, _, _, [], _, [], hW', trodAll_mk1 (shut_bool Try.underlying4 _), (trodAll_cons_mk (Below.trod laidOut (by kernel_rfl) (of_decide_eq_true (by kernel_rfl)) h0 bel lt0) (trodAll_cons_mk (shut_int Try.underlying3 w1) trodAll_mk0)), rfl, bel.frame _, fun h => by cases h⟩

theorem stays_over : Rows.bestStaysRow.holds Try.pinned (OpenSpec.ofChange Rows.bestStaysSpec) :=
  OpenClaim.holds_of_wide 5 Try.f5 rfl rfl rfl rfl rfl rfl rfl ⟨rfl, rfl, rfl, rfl, rfl⟩ rfl rfl rfl rfl rfl (by kernel_rfl) Try.func5 (by kernel_rfl)
    (of_decide_eq_true (by kernel_rfl)) (by unfold Func.isWrapper; rw [if_neg (of_decide_eq_false (by kernel_rfl))]; exact ⟨rfl, rfl⟩)
    (fun os started H enc _ => stays_lifted os started H enc)

theorem bestStays_holds : Rows.BestStaysSaid := stays_over
#print axioms bestStays_holds
end Go.Proofs.Ytlgmoiilfigamaa
