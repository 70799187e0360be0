/-
  Proved: 'bypathlaw13.TrieGone' returns true for every input and leaves its arguments as they were. No conditions.
-/
import Derived.Test.YtdhebjeajdohoaaGi
namespace Go.Proofs.Ytdhebjeajdohoaa
open Go.ChangeShapes Go.WideShapes Go.ChangeAt Go.RowKit Go.Deep

theorem rq_cells2 {w : World} {b o : Nat} {x : Nat × Int} (h : RQ.At w b o x) : w.cell? ⟨b, o, none⟩ = some (.int .u32 x.1) ∧ w.cell? ⟨b, o + 1, none⟩ = some (.int .i64 x.2) := ⟨h 0 (by decide), h 1 (by decide)⟩
theorem getD_mem2 {α : Type} [Inhabited α] {M : List α} {i : Nat} (h : i < M.length) : M.getD i default ∈ M := by
  rw [List.getD_eq_getElem?_getD, List.getElem?_eq_getElem h]; exact List.getElem_mem _
set_option maxRecDepth 100000 in
set_option maxHeartbeats 8000000 in
theorem gone_law (oa ob : Option Addr) (n m ca cb : Nat) (L M : List (Nat × Int)) (w : World) (hl : SlOk RQ (fun _ x => okQ x) w ⟨oa, n, ca, L⟩) (hm : SlOk RQ (fun _ x => okQ x) w ⟨ob, m, cb, M⟩) : Calls Try.prog 5 #[.slice oa n ca, .slice ob m cb] w fun e w' => e = .returned (.bool true) ∧ Below w.heap.size w w' := by
  have HA := Lib.hid (And.intro hl hm)
  clear hl hm
  by_cases hnm : 100 < n ∨ 100 < m
  · have hcase : ((100 : Int) < n) = True ∨ (((100 : Int) < n) = False ∧ ((100 : Int) < m) = True) := by
      by_cases h1 : 100 < n
      · exact .inl (by simp; omega)
      · exact .inr ⟨by simp; omega, by simp; omega⟩
    rcases hcase with h1 | ⟨h1, h2⟩
    all_goals
      go_enter Try.func5, Try.ntmps5
      go_wp2_with (go_at_call 9; refine (lives_any _).mono ?_; rintro e w3 ⟨rfl, hb3⟩)
      go_ret
      exact ⟨rfl, hb3⟩
  · have h1 : ((100 : Int) < n) = False := by simp; omega
    have h2 : ((100 : Int) < m) = False := by simp; omega
    have hn100 : n ≤ 100 := by omega
    have hm100 : m ≤ 100 := by omega
    go_enter Try.func5, Try.ntmps5
    go_wp2_with fail
    refine (newEI _).mono ?_
    rintro e w1 ⟨rfl, N0, ht1, hf1, hb1⟩
    have hGI : GI w (w.heap.size + 1) w1.heap.size (w1.alloc (.cells #[.slice none 0 0] 29)) N0 [] [] := by
      have hal := (Below.refl w1.heap.size w1).alloc (Nat.le_refl _) (.cells #[.slice none 0 0] 29)
      exact ⟨ht1.below hal, ⟨_, hnew _ _, Rep.Own.nil _ _, fun g h => by cases h⟩, fun hf => by have := ht1.lt hf; omega, hb1.size, hb1.trans (hal.mono hb1.size), hf1⟩
    generalize w.heap.size + 1 = b at *
    clear ht1 hf1 hb1
    go_wp2_with fail
    have hs2 : (w1.alloc (.cells #[.slice none 0 0] 29)).heap.size = w1.heap.size + 1 := by simp
    refine (lives_any _).mono ?_
    rintro e w2 ⟨rfl, hb2⟩
    have H2 := Lib.hid (hGI.on hb2)
    generalize w1.heap.size = c at *
    clear hGI hb2 hs2
    go_wp2_with fail
    go_loopw [7] (fun iv wr => ∃ (i : Nat) (N : Nat → Nat → Option Nat) (E : List ((Nat × Nat) × Int)), i ≤ n ∧ iv = .int .i64 i ∧ GI w b c wr N E E ∧ E.length ≤ i) (fun iv _ => n - (intOf iv).toNat)
    case atStart => exact ⟨0, N0, [], Nat.zero_le _, rfl, H2.out, Nat.le_refl _⟩
    case round =>
      obtain ⟨i, N, E, hi, rfl, hg, hE⟩ := hrel
      by_cases hlt : i < n
      · obtain ⟨bb, oo, rfl, hbb, hat⟩ := HA.out.1.sl.at hlt
        have hok := HA.out.1.all (L.getD i default) (getD_mem2 (by rw [← HA.out.1.sl.len]; exact hlt))
        obtain ⟨c0, c1⟩ := rq_cells2 (hat.keep (hg.arg hbb))
        simp only [RQ] at c0 c1
        have hset := setEI hg.trie (by omega) (L.getD i default).1 (L.getD i default).2 hok.1 1
        have hlen2 := setL_length E hg.trie.sorted (L.getD i default).1 (L.getD i default).2 (1 : Int)
        have HR := Lib.hid (And.intro hg (And.intro hok hat))
        clear hat hok hg
        generalize L.getD i default = x at *
        unfold pfx at hset
        generalize (if okP x.1 x.2 = true then (0 : Int) else 20) = rv at hset
        have HSet := Lib.hid (And.intro hset hlen2)
        clear hset hlen2
        go_wp2_with fail
        refine (HSet.out.1).mono ?_
        rintro e w3 ⟨rfl, N3, ht3, hm3⟩
        have hg3 := HR.out.1.tmove hm3 ht3
        have hrs := rsetL_any hg3.refT (by omega) x.1 x.2 HR.out.2.1.1 1
        obtain ⟨e0, e1⟩ := rq_cells2 (HR.out.2.2.keep (hg3.arg hbb))
        simp only [RQ] at e0 e1
        unfold pfx at hrs
        have H3 := Lib.hid (And.intro hrs hg3)
        clear ht3 hm3 c0 c1 hg3 hrs
        go_wp2_with fail
        refine (H3.out.1).mono ?_
        rintro e w4 ⟨rfl, hr4⟩
        have hg4 : GI w b c w4 N3 (setL E x.1 x.2 1) (setL E x.1 x.2 1) := by
          rcases hr4 with ⟨-, h5, h6⟩ | ⟨h5, h6⟩
          · exact H3.out.2.rmove h5 h6
          · have h7 := H3.out.2.on h6
            have h8 : setL E x.1 x.2 1 = E := by unfold setL; rw [h5]; rfl
            rw [h8] at h7 ⊢; exact h7
        have H4 := Lib.hid hg4
        clear hg4 hr4 e0 e1
        go_wp2_with fail
        go_roundw
        case rel => exact ⟨i + 1, N3, _, by omega, by go_num, H4.out, by have h2 := HSet.out.2; omega⟩
        case measure => simp [intOf]; omega
      · have hf : ((i : Int) < n) = False := by simp; omega
        have H5 := Lib.hid hg
        have hE10 : E.length ≤ 100 := by omega
        clear hg hE H2
        obtain ⟨wy, rfl⟩ : ∃ wy : World, wy = wr := ⟨_, rfl⟩
        go_wp2_with fail
        go_loopw [8] (fun jv wr => ∃ (j : Nat) (N : Nat → Nat → Option Nat), j ≤ m ∧ jv = .int .i64 j ∧ GI w b c wr N E E) (fun jv _ => m - (intOf jv).toNat)
        case atStart => exact ⟨0, N, Nat.zero_le _, rfl, H5.out⟩
        case round =>
          obtain ⟨j, Nj, hj, rfl, hg⟩ := hrel
          by_cases hjl : j < m
          · have hjm : ((j : Int) < m) = True := by simp; omega
            obtain ⟨bb, oo, rfl, hbb, hat⟩ := HA.out.2.sl.at hjl
            have hok := HA.out.2.all (M.getD j default) (getD_mem2 (by rw [← HA.out.2.sl.len]; exact hjl))
            obtain ⟨c0, c1⟩ := rq_cells2 (hat.keep (hg.arg hbb))
            simp only [RQ] at c0 c1
            have hget := rget_any hg.refT (M.getD j default).1 (M.getD j default).2
            have hfh := fnd_has hg.trie.sorted hg.trie.key (M.getD j default).1 (M.getD j default).2 hok.1
            rw [hfh] at hget
            have HR := Lib.hid (And.intro hg (And.intro hok hat))
            clear hat hok hg hfh
            generalize M.getD j default = x at *
            unfold pfx at hget
            generalize (E.getD (idx E x.1 x.2) default).2 = z at hget
            cases hh : hasI E x.1 x.2 with
            | true =>
              rw [hh] at hget
              have HG := Lib.hid hget
              clear hget hh
              go_wp2_with (go_at_call 20; refine (HG.out).mono ?_; rintro e w6 ⟨rfl, hb6⟩)
              go_roundw
              case rel => exact ⟨j + 1, Nj, by omega, by go_num, HR.out.1.on hb6⟩
              case measure => simp [intOf]; omega
            | false =>
              rw [hh] at hget
              have HG := Lib.hid (And.intro hget hh)
              clear hget hh
              go_wp2_with fail
              refine (HG.out.1).mono ?_
              rintro e w6 ⟨rfl, hb6⟩
              have hg6 := HR.out.1.on hb6
              obtain ⟨e0, e1⟩ := rq_cells2 (HR.out.2.2.keep (hg6.arg hbb))
              simp only [RQ] at e0 e1
              have hset := setEI hg6.trie (by omega) x.1 x.2 HR.out.2.1.1 2
              unfold pfx at hset
              generalize (if okP x.1 x.2 = true then (0 : Int) else 20) = rv at hset
              have H6 := Lib.hid (And.intro hset hg6)
              clear hset hg6 hb6 c0 c1
              go_wp2_with fail
              refine (H6.out.1).mono ?_
              rintro e w7 ⟨rfl, N7, ht7, hm7⟩
              have hg7 := H6.out.2.tmove hm7 ht7
              obtain ⟨d0, d1⟩ := rq_cells2 (HR.out.2.2.keep (hg7.arg hbb))
              simp only [RQ] at d0 d1
              have hlen2 := setL_length E H6.out.2.trie.sorted x.1 x.2 (2 : Int)
              have hdel := delEI hg7.trie (by omega) x.1 x.2 HR.out.2.1.1
              rw [back_same HG.out.2] at hdel
              unfold pfx at hdel
              have H7 := Lib.hid (And.intro hdel hg7)
              clear hdel hg7 ht7 hm7 e0 e1 hlen2
              go_wp2_with fail
              refine (H7.out.1).mono ?_
              rintro e w8 ⟨rfl, N8, ht8, hm8⟩
              have H8 := Lib.hid (H7.out.2.tmove hm8 ht8)
              clear ht8 hm8 d0 d1
              go_wp2_with fail
              go_roundw
              case rel => exact ⟨j + 1, N8, by omega, by go_num, H8.out⟩
              case measure => simp [intOf]; omega
          · have hjm : ((j : Int) < m) = False := by simp; omega
            have hpre := prefixesEI hg.trie (by omega)
            have HG := Lib.hid (And.intro hpre hg)
            clear hpre hg
            go_wp2_with fail
            refine (HG.out.1).mono ?_
            rintro e w9 ⟨v9, rfl, hown9, hb9⟩
            have hg9 := HG.out.2.on hb9
            have hwt := rwithinT_any hg9.refT (fun e he => (hg9.trie.key e he).lt) (by omega) 0 0 (by decide)
            have hk0 : keysIn E 0 0 = E.map (·.1) := by obtain ⟨M9, -, h9⟩ := hg9.trie; exact h9.in00
            rw [hk0] at hwt
            unfold pfx at hwt
            have H9 := Lib.hid (And.intro hwt (And.intro hg9 hown9))
            clear hwt hg9 hown9 hb9 hk0
            go_wp2_with fail
            refine (H9.out.1).mono ?_
            rintro e w10 ⟨v10, rfl, hown10, hb10⟩
            obtain ⟨a9, c9, rfl, -, -, hs9, -⟩ := (H9.out.2.2.below hb10).sl
            obtain ⟨a10, c10, rfl, -, -, hs10, -⟩ := hown10.sl
            have hsame := same_any _ _ _ _ _ _ _ _ _ hs9 hs10
            rw [decide_eq_true rfl] at hsame
            simp only [List.length_map] at hsame ⊢
            have HB := Lib.hid (H9.out.2.1.on hb10).below
            clear hs9 hs10 hown10 hb10
            go_wp2_with (go_at_call 15; refine (hsame).mono ?_; rintro e w11 ⟨rfl, hb11⟩)
            go_ret
            exact ⟨rfl, HB.out.trans (hb11.mono HB.out.size)⟩
set_option maxRecDepth 100000 in
theorem gone_lifted (os : Os) (started : os.Started) (H : Type) (enc : TypeId × Value → H) :
    ReturnsInHanded {} Try.checked os 5 .any (Rows.trieGoneSpec.pre6 enc Try.prog Try.f5 Rows.trieGoneRow.domain false) (Rows.trieGoneSpec.post enc Try.prog Try.f5 false true false false) := by
  refine returnsInHanded_of_change (C := Try.checked) own started (by kernel_rfl) Try.func5
    (ChangeSpec.witness6 (enc := enc) (C := Try.checked) false ⟨#[], #[.slice none 0 0, .slice none 0 0], []⟩ 8 (by kernel_rfl) (by kernel_rfl) (by kernel_rfl) (by kernel_rfl)) ?_
  intro W base args ds gs before hval0 hW hcnd _
  have hval : ∀ (j : Nat) t v, Try.f5.params[j]? = some t → args[j]? = some v → Value.okWide Try.prog W .any base t v := hval0
  have hW' := hW
  obtain ⟨p, q, hA0, hV, rfl, hfz, hnd⟩ := hW
  have hA : DataW.TrodAll enc Try.prog W 0 (fun _ => true) true Try.f5.params.toList args.toList ds p := hA0
  rw [Try.params5] at hA hval
  obtain ⟨v0, vs0, d0, ds0, p0, q0, hargs, rfl, rfl, h0, r0⟩ := trodAll_cons hA
  obtain ⟨v1, vs1, d1, ds1, p1, q1, rfl, rfl, rfl, h1, r1⟩ := trodAll_cons r0
  obtain ⟨rfl, rfl, rfl⟩ := trodAll_nil r1
  obtain rfl : args = #[v0, v1] := by cases args; simp_all
  obtain ⟨rfl, rfl⟩ := trodVars_none hV
  have lt0 : ∀ x ∈ p0, x.block < W.heap.size := by obtain ⟨m, hm⟩ := h0; exact DataW.trod_lt m _ _ _ hm
  obtain ⟨x0, y0, z0, rfl⟩ := okWide_slice Try.underlying41 (hval 0 41 v0 rfl rfl)
  obtain ⟨s0, e0, ok0⟩ := (reads41).arg h0
  simp only [Value.cells, List.cons.injEq, Value.slice.injEq, and_true] at e0
  obtain ⟨rfl, rfl, rfl⟩ := e0
  have lt1 : ∀ x ∈ p1, x.block < W.heap.size := by obtain ⟨m, hm⟩ := h1; exact DataW.trod_lt m _ _ _ hm
  obtain ⟨x1, y1, z1, rfl⟩ := okWide_slice Try.underlying41 (hval 1 41 v1 rfl rfl)
  obtain ⟨s1, e1, ok1⟩ := (reads41).arg h1
  simp only [Value.cells, List.cons.injEq, Value.slice.injEq, and_true] at e1
  obtain ⟨rfl, rfl, rfl⟩ := e1
  clear hA0 hval0
  refine (gone_law _ _ _ _ _ _ s0.l s1.l W ok0 ok1).mono fun e W' ⟨he, bel⟩ => ?_
  subst he
  exact ⟨_, rfl, _, _, _, [], _, [], hW', trodAll_mk1 (shut_bool Try.underlying4 _), (trodAll_cons_mk (Below.trod laidOut (by kernel_rfl) (of_decide_eq_true (by kernel_rfl)) h0 bel lt0) (trodAll_cons_mk (Below.trod laidOut (by kernel_rfl) (of_decide_eq_true (by kernel_rfl)) h1 bel lt1) trodAll_mk0)), rfl, bel.frame _, fun h => by cases h⟩

theorem gone_over : Rows.trieGoneRow.holds Try.pinned (OpenSpec.ofChange Rows.trieGoneSpec) :=
  OpenClaim.holds_of_wide 5 Try.f5 rfl rfl rfl rfl rfl rfl rfl ⟨rfl, rfl, rfl, rfl, rfl⟩ rfl rfl rfl rfl rfl (by kernel_rfl) Try.func5 (by kernel_rfl)
    (of_decide_eq_true (by kernel_rfl)) (by unfold Func.isWrapper; rw [if_neg (of_decide_eq_false (by kernel_rfl))]; exact ⟨rfl, rfl⟩)
    (fun os started H enc _ => gone_lifted os started H enc)

theorem trieGone_holds : Rows.TrieGoneSaid := gone_over
#print axioms trieGone_holds

end Go.Proofs.Ytdhebjeajdohoaa
