/-
  Proved: 'bypathlaw13.TrieWithin' returns true for every input and leaves its arguments as they were. No conditions.
-/
import Derived.Test.YtdhebjeajdohoaaOq
import Derived.Test.YtdhebjeajdohoaaBj
namespace Go.Proofs.Ytdhebjeajdohoaa
open Go.ChangeShapes Go.WideShapes Go.ChangeAt Go.RowKit Go.Deep

theorem rq_cells {w : World} {b o : Nat} {x : Nat × Int} (h : RQ.At w b o x) : w.cell? ⟨b, o, none⟩ = some (.int .u32 x.1) ∧ w.cell? ⟨b, o + 1, none⟩ = some (.int .i64 x.2) := ⟨h 0 (by decide), h 1 (by decide)⟩
theorem getD_mem {α : Type} [Inhabited α] {M : List α} {i : Nat} (h : i < M.length) : M.getD i default ∈ M := by
  rw [List.getD_eq_getElem?_getD, List.getElem?_eq_getElem h]; exact List.getElem_mem _
def keysTo (E : List ((Nat × Nat) × Bool)) (p : Nat) (l : Int) (j : Nat) : List (Nat × Nat) := ((E.map fun e : (Nat × Nat) × Bool => e.1).take j).filter (fun q : Nat × Nat => inP p l q.1 q.2)
theorem take_snoc {α : Type} [Inhabited α] (l : List α) (k : Nat) (h : k < l.length) : l.take (k + 1) = l.take k ++ [l.getD k default] := by
  rw [List.take_succ_eq_append_getElem h]; simp [List.getD_eq_getElem?_getD, h]
set_option maxRecDepth 100000 in
set_option maxHeartbeats 8000000 in
theorem within_law (oa : Option Addr) (n c : Nat) (L : List (Nat × Int)) (p : Nat) (l : Int) (w : World) (hs : SlOk RQ (fun _ x => okQ x) w ⟨oa, n, c, L⟩) (hp : p < 4294967296) : Calls Try.prog 7 #[.slice oa n c, pfx p l] w fun e w' => e = .returned (.bool true) ∧ Below w.heap.size w w' := by
  have hb0 := ((Below.refl w.heap.size w).alloc (Nat.le_refl _) (.cells #[.int .u32 p, .int .i64 l] 32))
  have hpb := hnew w (.cells #[.int .u32 p, .int .i64 l] 32)
  have HS := Lib.hid hs
  have HP := Lib.hid hp
  clear hs hp
  unfold pfx
  go_enter Try.func7, Try.ntmps7
  go_wp2_with fail
  refine (newEB _).mono ?_
  rintro e w1 ⟨rfl, N0, ht1, hf1, hb1⟩
  have hx1 := (hb1.block w.heap.size (by simp)).trans hpb
  have hbw1 := hb0.trans (hb1.mono hb0.size)
  have hf1 : ∀ k, foot (w.heap.size + 1 + 1) N0 k → w.heap.size + 1 ≤ k := fun k hk => by have h := hf1 k (by simpa using hk); simpa using h
  have hs1 : w.heap.size + 1 ≤ w1.heap.size := by have h := hb1.size; simpa using h
  have ht1 : TrieEB w1 (w.heap.size + 1 + 1) N0 [] := by simpa using ht1
  simp only [World.size_alloc]
  clear hb0 hb1 hpb
  generalize w.heap.size + 1 + 1 = b at *
  go_wp2_with fail
  refine (lives_any _).mono ?_
  rintro e w2 ⟨rfl, hb2⟩
  have H2 := Lib.hid (And.intro (ht1.below hb2) (And.intro hf1 (And.intro (hbw1.trans (hb2.mono hbw1.size)) (And.intro ((hb2.block w.heap.size (by omega)).trans hx1) (Nat.le_trans hs1 hb2.size)))))
  clear ht1 hf1 hbw1 hb2 hx1
  by_cases hn : 100 < n
  · have hn' : ((100 : Int) < n) = True := by simp; omega
    go_wp2_with fail
    refine (lives_any _).mono ?_
    rintro e w3 ⟨rfl, hb3⟩
    go_wp2_with fail
    go_ret
    exact ⟨rfl, H2.out.2.2.1.trans (hb3.mono H2.out.2.2.1.size)⟩
  · have hn' : ((100 : Int) < n) = False := by simp; omega
    go_wp2_with fail
    go_loopw [6] (fun iv wr => ∃ (i : Nat) (N : Nat → Nat → Option Nat) (E : List ((Nat × Nat) × Bool)), i ≤ n ∧ iv = .int .i64 i ∧ TrieEB wr b N E ∧ E.length ≤ i ∧ Moved w2 wr (foot b N0) (foot b N)) (fun iv _ => n - (intOf iv).toNat)
    case atStart => exact ⟨0, N0, [], Nat.zero_le _, rfl, H2.out.1, Nat.le_refl _, Moved.of_below (Below.refl _ _) _⟩
    case round =>
      obtain ⟨i, N, E, hi, rfl, ht, hE, hmv⟩ := hrel
      by_cases hlt : i < n
      · obtain ⟨bb, oo, rfl, hbb, hat⟩ := HS.out.sl.at hlt
        have hok := HS.out.all (L.getD i default) (getD_mem (by rw [← HS.out.sl.len]; exact hlt))
        have hbb2 : bb < w2.heap.size := Nat.lt_of_lt_of_le hbb H2.out.2.2.1.size
        have hsame : wr.heap[bb]? = w.heap[bb]? := (hmv.same bb hbb2 (fun hf => by have h := H2.out.2.1 bb hf; omega)).trans (H2.out.2.2.1.block bb hbb)
        obtain ⟨c0, c1⟩ := rq_cells (hat.keep hsame)
        simp only [RQ] at c0 c1
        have hset := setEB ht (by omega) (L.getD i default).1 (L.getD i default).2 hok.1 true
        have HR := Lib.hid (And.intro ht (And.intro hE hmv))
        have hlen2 := setL_length E ht.sorted (L.getD i default).1 (L.getD i default).2 true
        clear hat hok hsame ht hE hmv hbb2
        generalize L.getD i default = x at *
        unfold pfx at hset
        have HSet := Lib.hid (And.intro hset hlen2)
        clear hset hlen2
        go_wp2_with fail
        refine (HSet.out.1).mono ?_
        rintro e w3 ⟨rfl, N3, ht3, hm3⟩
        have H3 := Lib.hid (And.intro ht3 (HR.out.2.2.trans hm3))
        clear ht3 hm3 c0 c1
        go_wp2_with fail
        go_roundw
        case rel => exact ⟨i + 1, N3, _, by omega, by go_num, H3.out.1, by have h1 := HR.out.2.1; have h2 := HSet.out.2; omega, H3.out.2⟩
        case measure => simp [intOf]; omega
      · have hf : ((i : Int) < n) = False := by simp; omega
        have hbwr : Below w.heap.size w wr := H2.out.2.2.1.trans (hmv.below H2.out.2.2.1.size (fun k hk => by have h := H2.out.2.1 k hk; omega))
        have hxr : wr.heap[w.heap.size]? = some (.cells #[.int .u32 p, .int .i64 l] 32) := (hmv.same _ (lt_of_blk H2.out.2.2.2.1) (fun hk => by have h := H2.out.2.1 _ hk; omega)).trans H2.out.2.2.2.1
        have hE100 : E.length ≤ 4294967296 := by omega
        have hpre := Lib.hid (prefixesEB ht hE100)
        have HR := Lib.hid (And.intro ht (And.intro hbwr (And.intro hxr hE100)))
        have hnn : n ≤ 100 := by omega
        have hE10 : E.length ≤ 100 := by omega
        clear ht hE hmv hbwr hxr hE100
        go_wp2_with fail
        refine (hpre.out).mono ?_
        rintro e w4 ⟨v4, rfl, hown, hb4⟩
        clear hpre
        obtain ⟨a4, c4, rfl, -, -, hsl, -⟩ := hown.sl
        simp only [List.length_map] at hsl ⊢
        have H4 := Lib.hid (And.intro hsl hb4)
        clear hown hsl hb4
        go_wp2_with fail
        obtain ⟨wy, rfl⟩ : ∃ wy : World, wy = wr := ⟨_, rfl⟩
        go_loopw [8, 9] (fun vv jv wz => ∃ j : Nat, j ≤ E.length ∧ jv = .int .i64 j ∧ RP.Own wz w4.heap.size vv (keysTo E p l j) ∧ Below w4.heap.size w4 wz) (fun _ jv _ => E.length - (intOf jv).toNat)
        case atStart => exact ⟨0, Nat.zero_le _, rfl, Rep.Own.nil _ _, Below.refl _ _⟩
        case round =>
          obtain ⟨j, hj, rfl, hown, hbz⟩ := hrel
          have hb4z := H4.out.2
          by_cases hjl : j < E.length
          · obtain ⟨bb, oo, rfl, hbb, hat⟩ := H4.out.1.at (by simpa using hjl)
            obtain ⟨c0, c1⟩ := rp_cells (hat.keep (hbz.block bb hbb))
            have hxz := (hbz.block w.heap.size (Nat.lt_of_lt_of_le (lt_of_blk HR.out.2.2.1) hb4z.size)).trans ((hb4z.block w.heap.size (lt_of_blk HR.out.2.2.1)).trans HR.out.2.2.1)
            have d0 : wr.cell? ⟨w.heap.size, 0, none⟩ = some (.int .u32 p) := cell_of hxz rfl
            have d1 : wr.cell? ⟨w.heap.size, 1, none⟩ = some (.int .i64 l) := cell_of hxz rfl
            simp only [RP] at c0 c1
            have HW := Lib.hid (rwithin_any p l ((E.map fun e : (Nat × Nat) × Bool => e.1).getD j default).1 ((E.map fun e : (Nat × Nat) × Bool => e.1).getD j default).2 HP.out (by
              have hm := getD_mem (M := E.map fun e : (Nat × Nat) × Bool => e.1) (i := j) (by simpa using hjl)
              obtain ⟨e, he, h1⟩ := List.mem_map.1 hm
              obtain ⟨M, hM1, hM2⟩ := HR.out.1
              rw [← h1]; exact (hM2.key e he).lt))
            have htk : keysTo E p l (j + 1) = keysTo E p l j ++ (if inP p l ((E.map fun e : (Nat × Nat) × Bool => e.1).getD j default).1 ((E.map fun e : (Nat × Nat) × Bool => e.1).getD j default).2 then [(E.map fun e : (Nat × Nat) × Bool => e.1).getD j default] else []) := by
              unfold keysTo
              rw [take_snoc (E.map fun e : (Nat × Nat) × Bool => e.1) j (by simpa using hjl), List.filter_append]
              congr 1
              simp only [List.filter_cons, List.filter_nil]
            have hlf : (keysTo E p l j).length ≤ 100 := by
              unfold keysTo
              exact Nat.le_trans (List.length_filter_le _ _) (by simp; omega)
            generalize (E.map fun e : (Nat × Nat) × Bool => e.1).getD j default = x at *
            have hjl' : ((j : Int) < (E.length : Int)) = True := by simp; omega
            generalize hin : inP p l x.1 x.2 = q at *
            generalize keysTo E p l j = Lj at *
            have HK := Lib.hid (And.intro htk (And.intro hlf (And.intro hown hbz)))
            unfold pfx at HW
            clear hat hxz htk hlf hown hbz hin
            cases q with
            | false =>
              simp only [Bool.false_eq_true, if_false, List.append_nil] at HK
              go_wp2_with fail
              refine wp_region_quiet_tail (fun w' => w' = wr.drew) 5 (by kernel_rfl) (by kernel_rfl) rfl ?_
              simp only [List.take_succ_cons, List.take_zero, List.drop_succ_cons, List.drop_zero]
              iterate 5 ((with_reducible refine wpQuiet_step (fun K hK => ?_)); go_simp; (with_reducible refine hK _ ?_); clear hK K)
              with_reducible refine wpQuiet_nil ?_
              rintro _ rfl
              clear c0 c1 d0 d1
              go_wp2_with (go_at_call 26; refine (HW.out _).mono ?_; rintro e w5 ⟨rfl, hb5⟩)
              go_roundw
              case rel => exact ⟨j + 1, by omega, by go_num, by rw [HK.out.1]; exact HK.out.2.2.1.below (undrew hb5), HK.out.2.2.2.trans ((undrew hb5).mono HK.out.2.2.2.size)⟩
              case measure => simp [intOf]; omega
            | true =>
              simp only [if_true] at HK
              go_wp2_with fail
              refine wp_region_quiet_tail (fun w' => w' = wr.drew) 5 (by kernel_rfl) (by kernel_rfl) rfl ?_
              simp only [List.take_succ_cons, List.take_zero, List.drop_succ_cons, List.drop_zero]
              iterate 5 ((with_reducible refine wpQuiet_step (fun K hK => ?_)); go_simp; (with_reducible refine hK _ ?_); clear hK K)
              with_reducible refine wpQuiet_nil ?_
              rintro _ rfl
              have hbl : bb < wr.heap.size := Nat.lt_of_lt_of_le hbb HK.out.2.2.2.size
              go_wp2_with (first | (go_at_call 26; refine (HW.out _).mono ?_; rintro e w5 ⟨rfl, hb5⟩; have hb5 := undrew hb5; have hg := hb5.block bb hbl; have e0 := (cell_same (o := oo + j * 2) hg).trans c0; have e1 := (cell_same (o := oo + j * 2 + 1) hg).trans c1; have HB5 := Lib.hid (And.intro (HK.out.2.2.1.below hb5) (HK.out.2.2.2.trans (hb5.mono HK.out.2.2.2.size))); clear hb5 hg c0 c1 d0 d1) | (at_builtin; refine halt ?_))
              refine Halted.go ?_
              refine Rep.append_one T41 rfl _ _ rfl rfl (HB5.out.1.alloc _) x w5.heap.size 1 rfl (hnew _ _) rfl (by have := HK.out.2.1; unfold maxLen; omega) (by have := HK.out.2.1; omega) (by have := HB5.out.2.size; simp; omega) ?_
              intro v' w6 hown' hb6 _
              have H6 := Lib.hid (And.intro hown' (HB5.out.2.trans (((Below.refl _ _).alloc HB5.out.2.size _).trans hb6)))
              clear hown' hb6 e0 e1
              go_wp2_with fail
              go_roundw
              case rel => exact ⟨j + 1, by omega, by go_num, by rw [HK.out.1]; exact H6.out.1, H6.out.2⟩
              case measure => simp [intOf]; omega
          · have hjl' : ((j : Int) < (E.length : Int)) = False := by simp; omega
            have hall : keysTo E p l j = keysIn E p l := by
              unfold keysTo keysIn
              rw [List.take_of_length_le (by simp; omega)]
            rw [hall] at hown
            have hbwr := HR.out.2.1.trans ((hb4z.trans (hbz.mono hb4z.size)).mono HR.out.2.1.size)
            have hxz := (hbz.block w.heap.size (Nat.lt_of_lt_of_le (lt_of_blk HR.out.2.2.1) hb4z.size)).trans ((hb4z.block w.heap.size (lt_of_blk HR.out.2.2.1)).trans HR.out.2.2.1)
            have d0 : wr.cell? ⟨w.heap.size, 0, none⟩ = some (.int .u32 p) := cell_of hxz rfl
            have d1 : wr.cell? ⟨w.heap.size, 1, none⟩ = some (.int .i64 l) := cell_of hxz rfl
            have hwin := Lib.hid (withinEB (HR.out.1.below (hb4z.trans (hbz.mono hb4z.size))) HR.out.2.2.2 p l HP.out)
            have HO := Lib.hid (And.intro hown hbwr)
            unfold pfx at hwin
            clear hown hbz hb4z hbwr hxz hall
            go_wp2_with (go_at_call 27; refine (hwin.out).mono ?_; rintro e w7 ⟨v7, rfl, hown7, hb7⟩)
            clear d0 d1 hwin
            obtain ⟨a7, c7, rfl, -, -, hs7, -⟩ := hown7.sl
            obtain ⟨a8, c8, rfl, -, -, hs8, -⟩ := (HO.out.1.below hb7).sl
            have hsame := same_any _ _ _ _ _ _ _ _ _ hs7 hs8
            rw [decide_eq_true rfl] at hsame
            clear hs7 hs8 hown7
            go_wp2_with (go_at_call 15; refine (hsame).mono ?_; rintro e w9 ⟨rfl, hb9⟩)
            go_ret
            exact ⟨rfl, (HO.out.2.trans (hb7.mono HO.out.2.size)).trans (hb9.mono (HO.out.2.trans (hb7.mono HO.out.2.size)).size)⟩
set_option maxRecDepth 100000 in
theorem within_lifted (os : Os) (started : os.Started) (H : Type) (enc : TypeId × Value → H) :
    ReturnsInHanded {} Try.checked os 7 .any (Rows.trieWithinSpec.pre6 enc Try.prog Try.f7 Rows.trieWithinRow.domain false) (Rows.trieWithinSpec.post enc Try.prog Try.f7 false true false false) := by
  refine returnsInHanded_of_change (C := Try.checked) own started (by kernel_rfl) Try.func7
    (ChangeSpec.witness6 (enc := enc) (C := Try.checked) false ⟨#[], #[.slice none 0 0, .agg #[.int .u32 0, .int .i64 0]], []⟩ 8 (by kernel_rfl) (by kernel_rfl) (by kernel_rfl) (by kernel_rfl)) ?_
  intro W base args ds gs before hval0 hW hcnd _
  have hval : ∀ (j : Nat) t v, Try.f7.params[j]? = some t → args[j]? = some v → Value.okWide Try.prog W .any base t v := hval0
  have hW' := hW
  obtain ⟨p, q, hA0, hV, rfl, hfz, hnd⟩ := hW
  have hA : DataW.TrodAll enc Try.prog W 0 (fun _ => true) true Try.f7.params.toList args.toList ds p := hA0
  rw [Try.params7] at hA hval
  obtain ⟨v0, vs0, d0, ds0, p0, q0, hargs, rfl, rfl, h0, r0⟩ := trodAll_cons hA
  obtain ⟨v1, vs1, d1, ds1, p1, q1, rfl, rfl, rfl, h1, r1⟩ := trodAll_cons r0
  obtain ⟨rfl, rfl, rfl⟩ := trodAll_nil r1
  obtain rfl : args = #[v0, v1] := by cases args; simp_all
  obtain ⟨rfl, rfl⟩ := trodVars_none hV
  have lt0 : ∀ x ∈ p0, x.block < W.heap.size := by obtain ⟨m, hm⟩ := h0; exact DataW.trod_lt m _ _ _ hm
  obtain ⟨x0, y0, z0, rfl⟩ := okWide_slice Try.underlying41 (hval 0 41 v0 rfl rfl)
  obtain ⟨s0, e0, ok0⟩ := (reads41).arg h0
  simp only [Value.cells, List.cons.injEq, Value.slice.injEq, and_true] at e0
  obtain ⟨rfl, rfl, rfl⟩ := e0
  have lt1 : ∀ x ∈ p1, x.block < W.heap.size := by obtain ⟨m, hm⟩ := h1; exact DataW.trod_lt m _ _ _ hm
  obtain ⟨x1, rfl, _⟩ := okWide_struct Try.underlying32 (hval 1 32 v1 rfl rfl)
  obtain ⟨s1, e1, ok1⟩ := (reads32).arg h1
  obtain rfl : x1 = (RQ.cells s1).toArray := by simpa [Value.cells] using congrArg List.toArray e1
  clear hA0 hval0
  refine (within_law _ _ _ s0.l s1.1 s1.2 W ok0 ok1.1).mono fun e W' ⟨he, bel⟩ => ?_
  subst he
  exact ⟨_, rfl, _, _, _, [], _, [], hW', trodAll_mk1 (shut_bool Try.underlying4 _), (trodAll_cons_mk (Below.trod laidOut (by kernel_rfl) (of_decide_eq_true (by kernel_rfl)) h0 bel lt0) (trodAll_cons_mk (Below.trod laidOut (by kernel_rfl) (of_decide_eq_true (by kernel_rfl)) h1 bel lt1) trodAll_mk0)), rfl, bel.frame _, fun h => by cases h⟩

theorem within_over : Rows.trieWithinRow.holds Try.pinned (OpenSpec.ofChange Rows.trieWithinSpec) :=
  OpenClaim.holds_of_wide 7 Try.f7 rfl rfl rfl rfl rfl rfl rfl ⟨rfl, rfl, rfl, rfl, rfl⟩ rfl rfl rfl rfl rfl (by kernel_rfl) Try.func7 (by kernel_rfl)
    (of_decide_eq_true (by kernel_rfl)) (by unfold Func.isWrapper; rw [if_neg (of_decide_eq_false (by kernel_rfl))]; exact ⟨rfl, rfl⟩)
    (fun os started H enc _ => within_lifted os started H enc)

theorem trieWithin_holds : Rows.TrieWithinSaid := within_over
#print axioms trieWithin_holds

end Go.Proofs.Ytdhebjeajdohoaa
