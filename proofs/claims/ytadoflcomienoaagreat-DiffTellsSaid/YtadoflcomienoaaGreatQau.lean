/- The reference's Updates. -/
import Derived.Test.YtadoflcomienoaaGreatQas
import Derived.Test.YtadoflcomienoaaGreatQat
import Derived.Test.YtadoflcomienoaaGreatQaq
namespace Go.Proofs.YtadoflcomienoaaGreat
open Go.RowKit

def goV (B : List SyV) (A : List SyV) : List Nl := (A.filter fun s => (Kl.look SyV.k B s.k).isNone).map fun s => s.sy.nl
def newQ (A : List SyV) (s : SyV) : Bool := match Kl.look SyV.k A s.k with
  | none => true
  | some t => !decide (t.a.at = s.a.at)
def newV (A : List SyV) (B : List SyV) : List SyV := B.filter (newQ A)
theorem goV_is {wl il : List SyV} (hi : (il.map SyV.k).Nodup) : goV (sortK SyV.k il) (sortK SyV.k wl) = goingI (wl.map SyV.sy) (il.map SyV.sy) := by
  unfold goV goingI
  rw [← sortK_map (key := SyV.k) SyV.sy (fun _ => rfl), List.filter_map, List.map_map]
  congr 1
  refine List.filter_congr fun s _ => ?_
  show (Kl.look SyV.k (sortK SyV.k il) s.k).isNone = (Kl.look Sy.k (il.map SyV.sy) s.k).isNone
  rw [look_map (key := SyV.k) SyV.sy (fun _ => rfl), ← Kl.look_perm hi (sortK_perm il).symm]
  cases Kl.look SyV.k il s.k <;> rfl
theorem newV_is {wl il : List SyV} (hw : (wl.map SyV.k).Nodup) : (newV (sortK SyV.k wl) (sortK SyV.k il)).map SyV.sy = newsI (wl.map SyV.sy) (il.map SyV.sy) := by
  unfold newV newsI
  rw [← sortK_map (key := SyV.k) SyV.sy (fun _ => rfl), List.filter_map]
  congr 1
  refine List.filter_congr fun s _ => ?_
  show newQ (sortK SyV.k wl) s = !decide (Kl.look Sy.k (wl.map SyV.sy) s.k = some s.sy)
  unfold newQ
  rw [look_map (key := SyV.k) SyV.sy (fun _ => rfl), ← Kl.look_perm hw (sortK_perm wl).symm]
  cases hl : Kl.look SyV.k wl s.k with
  | none => simp
  | some t =>
    have hk := (Kl.look_mem hl).2
    simp only [Option.map_some, Option.some.injEq]
    congr 1
    refine decide_eq_decide.2 ⟨fun h => ?_, fun h => congrArg Sy.a h⟩
    unfold SyV.sy
    rw [hk, h]
theorem goV_take {A B : List SyV} {i : Nat} (hi : i < A.length) {x : SyV} (hx : A.getD i default = x) : goV B (A.take (i + 1)) = goV B (A.take i) ++ if (Kl.look SyV.k B x.k).isNone then [x.sy.nl] else [] := by
  unfold goV
  rw [take_snoc A i hi, hx, List.filter_append, List.map_append]
  congr 1
  rw [List.filter_cons, List.filter_nil]
  cases (Kl.look SyV.k B x.k).isNone <;> rfl
theorem newV_take {A B : List SyV} {i : Nat} (hi : i < B.length) {x : SyV} (hx : B.getD i default = x) : newV A (B.take (i + 1)) = newV A (B.take i) ++ if newQ A x then [x] else [] := by
  unfold newV
  rw [take_snoc B i hi, hx, List.filter_append]
  congr 1
  rw [List.filter_cons, List.filter_nil]
theorem goV_len (B A : List SyV) : (goV B A).length ≤ A.length := by unfold goV; rw [List.length_map]; exact List.length_filter_le _ _
theorem newV_len (A B : List SyV) : (newV A B).length ≤ B.length := List.length_filter_le _ _
theorem chunksI_ge {α : Type} (f : List α → Nat) : ∀ (n : Nat) (l : List α), (chunksI f n l).length ≤ n
  | 0, l => Nat.le_refl _
  | n + 1, [] => Nat.zero_le _
  | n + 1, x :: r => by
    have := chunksI_ge f n ((x :: r).drop (f (x :: r)))
    show (chunksI f n ((x :: r).drop (f (x :: r)))).length + 1 ≤ n + 1
    omega
theorem goneI_len (L : List Nl) : (goneI szN L).length ≤ L.length := by
  unfold goneI
  rw [List.length_map]
  exact chunksI_ge _ _ _
theorem comeI_lenA {sz : Nl → Nat} {asz : At → Nat} : ∀ (n : Nat) (L : List Sy), (comeI sz asz n L).length ≤ L.length
  | 0, L => Nat.zero_le _
  | n + 1, [] => Nat.zero_le _
  | n + 1, s :: r => by
    have h1 := comeI_lenA (sz := sz) (asz := asz) n ((s :: r).filter fun t => !decide (t.a = s.a))
    have h2 : ((s :: r).filter fun t => decide (t.a = s.a)).length + ((s :: r).filter fun t => !decide (t.a = s.a)).length = (s :: r).length := by
      generalize s :: r = L
      induction L with
      | nil => rfl
      | cons x q ih =>
        rw [List.filter_cons, List.filter_cons]
        cases h : decide (x.a = s.a)
        · simp only [Bool.not_false, if_true, Bool.false_eq_true, if_false, List.length_cons]; omega
        · simp only [Bool.not_true, if_true, Bool.false_eq_true, if_false, List.length_cons]; omega
    unfold comeI
    rw [List.length_append, List.length_map]
    have h3 := chunksI_ge (fitI sz (4073 - asz s.a) 1024) ((s :: r).filter fun t => decide (t.a = s.a)).length (((s :: r).filter fun t => decide (t.a = s.a)).map Sy.nl)
    omega
theorem comeI_len (four : Bool) (L : List SyV) (_h : ∀ s ∈ L, okS four s = true) : (comeI szN (asz four) L.length (L.map SyV.sy)).length ≤ L.length := by
  have := comeI_lenA (sz := szN) (asz := asz four) L.length (L.map SyV.sy)
  rwa [List.length_map] at this
set_option maxRecDepth 100000 in
set_option maxHeartbeats 16000000 in
theorem rupdatesY_any {w : World} {wa ia : Option Addr} {wn wc jn jc : Nat} {wl il : List SyV} {four : Bool} (hw : SlOk RSy SyOk w ⟨wa, wn, wc, wl⟩) (hi : SlOk RSy SyOk w ⟨ia, jn, jc, il⟩) (hkw : ∀ s ∈ wl, okS four s = true) (hki : ∀ s ∈ il, okS four s = true) (hdw : (wl.map SyV.k).Nodup) (hdi : (il.map SyV.k).Nodup) (hm1 : wn ≤ 16384) (hm2 : jn ≤ 16384) : Calls Tryz.prog 16 #[.slice wa wn wc, .slice ia jn jc, .bool four] w fun e w' => ∃ v M, e = .returned v ∧ OwnP RUp UpOk w' w.heap.size v M ∧ M.map UpV.up = upsI szN (asz four) (wl.map SyV.sy) (il.map SyV.sy) ∧ Below w.heap.size w w' := by
  have H0 := Lib.hid (And.intro hw (And.intro hi (And.intro hkw (And.intro hki (And.intro hdw (And.intro hdi (And.intro hm1 hm2)))))))
  have HS1 := Lib.hid (rsortY_any hw.sl hm1)
  clear hw hi hkw hki hdw hdi hm1 hm2
  go_enter Tryz.func16, Tryz.ntmps16
  go_wp2_with fail
  refine (HS1.out).mono ?_
  rintro e W1 ⟨v1, rfl, ho1, hb1⟩
  have HS2 := Lib.hid (rsortY_any (H0.out.2.1.sl.keep hb1) H0.out.2.2.2.2.2.2.2)
  obtain ⟨⟨aa, na, ac, al⟩, rfl, hA1, hA2, -, -⟩ := Own_slok (ok := SyOk) ho1 (fun x hx => (H0.out.1.keepY hb1).all x ((sortK_perm wl).mem_iff.1 hx))
  dsimp only at hA1
  subst hA1
  have F1 := Lib.hid (And.intro hb1 hA2)
  clear ho1 hb1 hA2 HS1
  go_wp2_with fail
  refine (HS2.out).mono ?_
  rintro e W2 ⟨v2, rfl, ho2, hb2⟩
  obtain ⟨⟨ba, nb, bc, bl⟩, rfl, hB1, hB2, -, -⟩ := Own_slok (ok := SyOk) ho2 (fun x hx => (H0.out.2.1.keepY (bcall F1.out.1 (Nat.le_refl _) hb2)).all x ((sortK_perm il).mem_iff.1 hx))
  dsimp only at hB1
  subst hB1
  have F := Lib.hid (And.intro (bcall F1.out.1 (Nat.le_refl _) hb2) (And.intro (F1.out.2.keepY hb2) hB2))
  have hna : na = (sortK SyV.k wl).length := F1.out.2.sl.len
  have hnb : nb = (sortK SyV.k il).length := hB2.sl.len
  have hna2 : na ≤ 16384 := by
    have h1 : wn = wl.length := H0.out.1.sl.len
    have h2 := H0.out.2.2.2.2.2.2.1
    rw [hna, sortK_length]; omega
  have hnb2 : nb ≤ 16384 := by
    have h1 : jn = il.length := H0.out.2.1.sl.len
    have h2 := H0.out.2.2.2.2.2.2.2
    rw [hnb, sortK_length]; omega
  have HN := Lib.hid (And.intro hna (And.intro hnb (And.intro hna2 hnb2)))
  obtain ⟨A, hAe⟩ : ∃ A, sortK SyV.k wl = A := ⟨_, rfl⟩
  obtain ⟨B, hBe⟩ : ∃ B, sortK SyV.k il = B := ⟨_, rfl⟩
  rw [hAe, hBe] at F
  rw [hAe, hBe] at HN
  have HE := Lib.hid (And.intro hAe hBe)
  clear ho2 hb2 hB2 HS2 F1 hna hnb hAe hBe
  go_wp2_with fail
  go_loopw [9, 10] (fun gv iv wr => ∃ i : Nat, i ≤ na ∧ iv = .int .i64 i ∧ RNl.Own wr W2.heap.size gv (goV B (A.take i)) ∧ Below W2.heap.size W2 wr) (fun _ iv _ => na - (intOf iv).toNat)
  case atStart => exact ⟨0, Nat.zero_le _, rfl, Rep.Own.nil _ _, Below.refl _ _⟩
  case round =>
    obtain ⟨i, hi, rfl, hown, hb⟩ := hrel
    obtain ⟨w4, rfl⟩ : ∃ w4 : World, w4 = wr := ⟨_, rfl⟩
    obtain ⟨oc, cc, rfl, -, -⟩ := hown.sl0
    by_cases hlt : i < na
    · have hil : ((i : Int) < (na : Int)) = True := by simp; omega
      have hi0 : ((0 : Int) ≤ (i : Int)) = True := by simp
      have hw3 := wrapS hlt (show na ≤ maxLen by unfold maxLen; omega)
      have hlL : i < A.length := by rw [← HN.out.1]; exact hlt
      have hsl := F.out.2.1.keepY hb
      obtain ⟨b, o, ea, hbb, hat⟩ := hsl.sl.at hlt
      dsimp only at ea
      subst ea
      obtain ⟨x, hx⟩ : ∃ x, A.getD i default = x := ⟨_, rfl⟩
      dsimp only at hat
      rw [hx] at hat
      have HC := Lib.hid (rfind_any (F.out.2.2.keepY hb).sl x.k)
      have hlen : (goV B (A.take i)).length ≤ 16384 := by
        have h1 := goV_len B (A.take i)
        rw [List.length_take] at h1
        have := HN.out.2.2.1
        have := HN.out.1
        omega
      have hgt := goV_take (B := B) hlL hx
      have c0 := hat 0 (by decide)
      have c1 := hat 1 (by decide)
      have c2 := hat 2 (by decide)
      have c3 := hat 3 (by decide)
      have c4 := hat 4 (by decide)
      have c5 := hat 5 (by decide)
      have c6 := hat 6 (by decide)
      have c7 := hat 7 (by decide)
      simp only [RSy, Nat.add_zero, List.getElem?_cons_zero, List.getElem?_cons_succ] at c0 c1 c2 c3 c4 c5 c6 c7
      have G := Lib.hid (And.intro hown (And.intro hb (And.intro hlen hgt)))
      obtain ⟨n1, hn1⟩ : ∃ n1, (goV B (A.take i)).length = n1 := ⟨_, rfl⟩
      rw [hn1]
      have HN1 := Lib.hid hn1
      clear hown hb hlen hgt hat hsl hbb hn1 hlL hx
      go_wp2_with fail
      refine (HC.out).mono ?_
      rintro e W5 ⟨⟨r, rfl, hr⟩, hb5⟩
      have HB5 := Lib.hid hb5
      rcases hr with ⟨rfl, hno⟩ | ⟨j, rfl, hj, hyes⟩
      · have hgt := G.out.2.2.2
        rw [hno] at hgt
        simp only [Option.isNone_none, if_true] at hgt
        have HGT := Lib.hid hgt
        have c0' : W5.cell? ⟨b, o + i * 8, none⟩ = some (.int .u32 (x.k.1 : Int)) := (hb5.cell (World.block_lt_of_cell? _ _ c0)).trans c0
        have c1' : W5.cell? ⟨b, o + i * 8 + 1, none⟩ = some (.int .i64 x.k.2) := (hb5.cell (World.block_lt_of_cell? _ _ c1)).trans c1
        clear hgt hno hb5 HC c0 c1 c2 c3 c4 c5 c6 c7
        go_wp2_with (at_builtin; refine halt ?_)
        refine Halted.go ?_
        clear c0' c1'
        have hal := (Below.refl W5.heap.size W5).alloc (Nat.le_refl _) (.cells #[.int .i64 0, .int .u32 (x.k.1 : Int), .int .i64 x.k.2] 60)
        have hbA : Below w4.heap.size w4 (W5.alloc (.cells #[.int .i64 0, .int .u32 (x.k.1 : Int), .int .i64 x.k.2] 60)) := bcall HB5.out (Nat.le_refl _) hal
        have hwN := G.out.1.below hbA
        rw [HN1.out] at hwN
        refine Rep.append_list TNl rfl _ _ rfl rfl hwN rfl (Rep.sl_one (R := RNl) (y := x.sy.nl) (hnew _ _)) (fun h => by cases h) (by have := G.out.2.2.1; unfold maxLen; omega) (by have := G.out.2.2.1; omega) (Nat.le_trans G.out.2.1.size hbA.size) ?_
        intro v9 V9 hown9 hb9 _
        obtain ⟨a9, c9, rfl, -, -⟩ := hown9.sl0
        rw [← HGT.out] at hown9 ⊢
        have HO := Lib.hid (And.intro hown9 ((bcall G.out.2.1 (Nat.le_refl _) hbA).trans hb9))
        generalize (goV B (A.take (i + 1))).length = n9 at *
        clear hwN hown9 hb9 hbA hal
        go_wp2_with fail
        exact ⟨⟨i + 1, hlt, by first | rw [hw3] | rw [Int.natCast_succ], HO.out⟩, by first | (rw [hw3]; exact mSucc hlt) | (rw [← Int.natCast_succ]; exact mSucc hlt)⟩
      · have hgt := G.out.2.2.2
        rw [hyes] at hgt
        simp only [Option.isNone_some, Bool.false_eq_true, if_false, List.append_nil] at hgt
        have HGT := Lib.hid hgt
        have hj0 : ((j : Int) < 0) = False := by simp
        clear hgt hyes hb5 HC c0 c1 c2 c3 c4 c5 c6 c7 hj
        go_wp2_with fail
        have hfin := G.out.1.below HB5.out
        rw [HN1.out, ← HGT.out] at hfin
        exact ⟨⟨i + 1, hlt, by first | rw [hw3] | rw [Int.natCast_succ], hfin, bcall G.out.2.1 (Nat.le_refl _) HB5.out⟩, by first | (rw [hw3]; exact mSucc hlt) | (rw [← Int.natCast_succ]; exact mSucc hlt)⟩
    · obtain rfl : i = na := by omega
      have hil : ((i : Int) < (i : Int)) = False := by simp
      have hown2 := hown
      rw [HN.out.1, List.take_length] at hown2
      have hle : (A.take i).length = A.length := by rw [HN.out.1, List.take_length]
      have F2 := Lib.hid (And.intro (bcall F.out.1 (Nat.le_refl _) hb) (And.intro (F.out.2.1.keepY hb) (And.intro (F.out.2.2.keepY hb) hown2)))
      have hge : (goV B (A.take i)).length = (goV B A).length := by rw [HN.out.1, List.take_length]
      rw [hge]
      have HB2 := Lib.hid hb
      generalize (goV B A).length = ng at *
      clear hown hown2 hb hle hge
      go_wp2_with fail
      go_loopw [11, 12] (fun nv iv wr => ∃ k : Nat, k ≤ nb ∧ iv = .int .i64 k ∧ RSy.Own wr w4.heap.size nv (newV A (B.take k)) ∧ Below w4.heap.size w4 wr) (fun _ iv _ => nb - (intOf iv).toNat)
      case atStart => exact ⟨0, Nat.zero_le _, rfl, Rep.Own.nil _ _, Below.refl _ _⟩
      case round =>
        obtain ⟨k, hk, rfl, hown, hb⟩ := hrel
        obtain ⟨w5, rfl⟩ : ∃ w5 : World, w5 = wr := ⟨_, rfl⟩
        obtain ⟨nc, kc, rfl, -, -⟩ := hown.sl0
        by_cases hlt : k < nb
        · have hil : ((k : Int) < (nb : Int)) = True := by simp; omega
          have hi0 : ((0 : Int) ≤ (k : Int)) = True := by simp
          have hw3 := wrapS hlt (show nb ≤ maxLen by unfold maxLen; omega)
          have hlL : k < B.length := by rw [← HN.out.2.1]; exact hlt
          have hsl := F2.out.2.2.1.keepY hb
          have hsA := F2.out.2.1.keepY hb
          obtain ⟨b, o, ea, hbb, hat⟩ := hsl.sl.at hlt
          dsimp only at ea
          subst ea
          obtain ⟨x, hx⟩ : ∃ x, B.getD k default = x := ⟨_, rfl⟩
          dsimp only at hat
          rw [hx] at hat
          have hokx : SyOk w5 x := hsl.all x (by dsimp only; rw [← hx]; exact getD_mem hlL)
          have HC := Lib.hid (rfind_any hsA.sl x.k)
          have hlen : (newV A (B.take k)).length ≤ 16384 := by
            have h1 := newV_len A (B.take k)
            rw [List.length_take] at h1
            have := HN.out.2.2.2
            have := HN.out.2.1
            omega
          have hgt := newV_take (A := A) hlL hx
          have HAT := Lib.hid (And.intro hat hbb)
          have c0 := hat 0 (by decide)
          have c1 := hat 1 (by decide)
          have c2 := hat 2 (by decide)
          have c3 := hat 3 (by decide)
          have c4 := hat 4 (by decide)
          have c5 := hat 5 (by decide)
          have c6 := hat 6 (by decide)
          have c7 := hat 7 (by decide)
          simp only [RSy, Nat.add_zero, List.getElem?_cons_zero, List.getElem?_cons_succ] at c0 c1 c2 c3 c4 c5 c6 c7
          have G := Lib.hid (And.intro hown (And.intro hb (And.intro hlen (And.intro hgt (And.intro hsA hokx)))))
          obtain ⟨n1, hn1⟩ : ∃ n1, (newV A (B.take k)).length = n1 := ⟨_, rfl⟩
          rw [hn1]
          have HN1 := Lib.hid hn1
          clear hown hb hlen hgt hat hsl hsA hokx hbb hn1 hlL hx
          go_wp2_with fail
          refine (HC.out).mono ?_
          rintro e W5 ⟨⟨r, rfl, hr⟩, hb5⟩
          have hd := (Below.refl W5.heap.size W5).drew
          have hb5d : Below w5.heap.size w5 W5.drew := bcall hb5 (Nat.le_refl _) hd
          have HX := Lib.hid (show ElS RSy w5 b (o + k * 8) x W5.drew from (ElS.begin HAT.out.1 HAT.out.2).keep hb5d)
          clear c0 c1 c2 c3 c4 c5 c6 c7 HC
          rcases hr with ⟨rfl, hno⟩ | ⟨j, rfl, hj, hyes⟩
          · have hgt := G.out.2.2.2.1
            rw [show newQ A x = true from by unfold newQ; rw [hno], if_pos rfl] at hgt
            have HGT := Lib.hid hgt
            have HB5 := Lib.hid hb5d
            clear hgt hno hb5 hd hb5d
            go_wp2_with fail
            refine wp_region_heldP (ElS RSy w5 b (o + k * 8) x) (by kernel_rfl) ?_
            generalize W5.drew = V at *
            refine held_reads [0, 1, 2, 3, 4, 5, 6, 7, 8, 9, 10, 11, 12, 13, 14, 15] (g := 0) rfl (by kernel_rfl) HX.out (fun _ _ d _ _ h => by cases d <;> exact h) ?_
            simp only [pick, List.getD_cons_zero, List.getD_cons_succ]
            ((with_reducible refine wpRead_step (fun K hK => ?_)); go_simp; first | ((with_reducible refine hK _ ?_); clear hK K) | (apply Exists.intro; (with_reducible refine ⟨fun w' hw' => ?_, hK _ ?_⟩); (first | exact rfl | exact ⟨rfl, rfl⟩); clear hK K))
            ((with_reducible refine wpRead_step (fun K hK => ?_)); go_simp; first | ((with_reducible refine hK _ ?_); clear hK K) | (apply Exists.intro; (with_reducible refine ⟨fun w' hw' => ?_, hK _ ?_⟩); (first | exact rfl | exact ⟨rfl, rfl⟩); clear hK K))
            ((with_reducible refine wpRead_step (fun K hK => ?_)); go_simp; first | ((with_reducible refine hK _ ?_); clear hK K) | (apply Exists.intro; (with_reducible refine ⟨fun w' hw' => ?_, hK _ ?_⟩); (first | exact rfl | exact ⟨rfl, rfl⟩); clear hK K))
            ((with_reducible refine wpRead_step (fun K hK => ?_)); go_simp; first | ((with_reducible refine hK _ ?_); clear hK K) | (apply Exists.intro; (with_reducible refine ⟨fun w' hw' => ?_, hK _ ?_⟩); (first | exact rfl | exact ⟨rfl, rfl⟩); clear hK K))
            ((with_reducible refine wpRead_step (fun K hK => ?_)); go_simp; first | ((with_reducible refine hK _ ?_); clear hK K) | (apply Exists.intro; (with_reducible refine ⟨fun w' hw' => ?_, hK _ ?_⟩); (first | exact rfl | exact ⟨rfl, rfl⟩); clear hK K))
            ((with_reducible refine wpRead_step (fun K hK => ?_)); go_simp; first | ((with_reducible refine hK _ ?_); clear hK K) | (apply Exists.intro; (with_reducible refine ⟨fun w' hw' => ?_, hK _ ?_⟩); (first | exact rfl | exact ⟨rfl, rfl⟩); clear hK K))
            ((with_reducible refine wpRead_step (fun K hK => ?_)); go_simp; first | ((with_reducible refine hK _ ?_); clear hK K) | (apply Exists.intro; (with_reducible refine ⟨fun w' hw' => ?_, hK _ ?_⟩); (first | exact rfl | exact ⟨rfl, rfl⟩); clear hK K))
            ((with_reducible refine wpRead_step (fun K hK => ?_)); go_simp; first | ((with_reducible refine hK _ ?_); clear hK K) | (apply Exists.intro; (with_reducible refine ⟨fun w' hw' => ?_, hK _ ?_⟩); (first | exact rfl | exact ⟨rfl, rfl⟩); clear hK K))
            ((with_reducible refine wpRead_step (fun K hK => ?_)); go_simp; first | ((with_reducible refine hK _ ?_); clear hK K) | (apply Exists.intro; (with_reducible refine ⟨fun w' hw' => ?_, hK _ ?_⟩); (first | exact rfl | exact ⟨rfl, rfl⟩); clear hK K))
            ((with_reducible refine wpRead_step (fun K hK => ?_)); go_simp; first | ((with_reducible refine hK _ ?_); clear hK K) | (apply Exists.intro; (with_reducible refine ⟨fun w' hw' => ?_, hK _ ?_⟩); (first | exact rfl | exact ⟨rfl, rfl⟩); clear hK K))
            ((with_reducible refine wpRead_step (fun K hK => ?_)); go_simp; first | ((with_reducible refine hK _ ?_); clear hK K) | (apply Exists.intro; (with_reducible refine ⟨fun w' hw' => ?_, hK _ ?_⟩); (first | exact rfl | exact ⟨rfl, rfl⟩); clear hK K))
            ((with_reducible refine wpRead_step (fun K hK => ?_)); go_simp; first | ((with_reducible refine hK _ ?_); clear hK K) | (apply Exists.intro; (with_reducible refine ⟨fun w' hw' => ?_, hK _ ?_⟩); (first | exact rfl | exact ⟨rfl, rfl⟩); clear hK K))
            ((with_reducible refine wpRead_step (fun K hK => ?_)); go_simp; first | ((with_reducible refine hK _ ?_); clear hK K) | (apply Exists.intro; (with_reducible refine ⟨fun w' hw' => ?_, hK _ ?_⟩); (first | exact rfl | exact ⟨rfl, rfl⟩); clear hK K))
            ((with_reducible refine wpRead_step (fun K hK => ?_)); go_simp; first | ((with_reducible refine hK _ ?_); clear hK K) | (apply Exists.intro; (with_reducible refine ⟨fun w' hw' => ?_, hK _ ?_⟩); (first | exact rfl | exact ⟨rfl, rfl⟩); clear hK K))
            ((with_reducible refine wpRead_step (fun K hK => ?_)); go_simp; first | ((with_reducible refine hK _ ?_); clear hK K) | (apply Exists.intro; (with_reducible refine ⟨fun w' hw' => ?_, hK _ ?_⟩); (first | exact rfl | exact ⟨rfl, rfl⟩); clear hK K))
            ((with_reducible refine wpRead_step (fun K hK => ?_)); go_simp; first | ((with_reducible refine hK _ ?_); clear hK K) | (apply Exists.intro; (with_reducible refine ⟨fun w' hw' => ?_, hK _ ?_⟩); (first | exact rfl | exact ⟨rfl, rfl⟩); clear hK K))
            with_reducible refine wpRead_nil ?_
            refine wpAnyH_done (by kernel_rfl) ?_ _
            have hat := HX.out.at'
            have c0 := hat 0 (by decide)
            have c1 := hat 1 (by decide)
            have c2 := hat 2 (by decide)
            have c3 := hat 3 (by decide)
            have c4 := hat 4 (by decide)
            have c5 := hat 5 (by decide)
            have c6 := hat 6 (by decide)
            have c7 := hat 7 (by decide)
            simp only [RSy, Nat.add_zero, List.getElem?_cons_zero, List.getElem?_cons_succ] at c0 c1 c2 c3 c4 c5 c6 c7
            clear hat
            go_wp2_with (at_builtin; refine halt ?_)
            refine Halted.go ?_
            clear c0 c1 c2 c3 c4 c5 c6 c7
            have hal := (Below.refl V.heap.size V).alloc (Nat.le_refl _) (.cells #[.int .u32 (x.k.1 : Int), .int .i64 x.k.2, .int .i64 x.a.o, .slice x.a.p.a x.a.p.n x.a.p.c, .int .u32 x.a.nx, .int .i64 x.a.md, .int .i64 x.a.pf, .slice x.a.c.a x.a.c.n x.a.c.c] 88)
            have hbA : Below w5.heap.size w5 (V.alloc (.cells #[.int .u32 (x.k.1 : Int), .int .i64 x.k.2, .int .i64 x.a.o, .slice x.a.p.a x.a.p.n x.a.p.c, .int .u32 x.a.nx, .int .i64 x.a.md, .int .i64 x.a.pf, .slice x.a.c.a x.a.c.n x.a.c.c] 88)) := bcall HB5.out (Nat.le_refl _) hal
            have hwN := G.out.1.below hbA
            rw [HN1.out] at hwN
            refine Rep.append_list TSy rfl _ _ rfl rfl hwN rfl (Rep.sl_one (R := RSy) (y := x) (hnew _ _)) (fun h => by cases h) (by have := G.out.2.2.1; unfold maxLen; omega) (by have := G.out.2.2.1; omega) (Nat.le_trans G.out.2.1.size hbA.size) ?_
            intro v9 V9 hown9 hb9 _
            obtain ⟨a9, c9, rfl, -, -⟩ := hown9.sl0
            rw [← HGT.out] at hown9 ⊢
            have HO := Lib.hid (And.intro hown9 ((bcall G.out.2.1 (Nat.le_refl _) hbA).trans hb9))
            generalize (newV A (B.take (k + 1))).length = n9 at *
            clear hwN hown9 hb9 hbA hal
            go_wp2_with fail
            exact ⟨⟨k + 1, hlt, by first | rw [hw3] | rw [Int.natCast_succ], HO.out⟩, by first | (rw [hw3]; exact mSucc hlt) | (rw [← Int.natCast_succ]; exact mSucc hlt)⟩
          · obtain ⟨z, hz⟩ : ∃ z, A.getD j default = z := ⟨_, rfl⟩
            rw [hz] at hyes
            have hjn : j < i := by rw [HN.out.1]; exact hj
            have hjt : ((j : Int) < (i : Int)) = True := by simp; omega
            have hjt2 : ((j : Int) < 0) = False := by simp
            have hj0 : ((0 : Int) ≤ (j : Int)) = True := by simp
            obtain ⟨g, og, eg, hgg, hatg⟩ := (G.out.2.2.2.2.1.keepY hb5d).sl.at hjn
            dsimp only at eg
            subst eg
            dsimp only at hatg
            rw [hz] at hatg
            have hokz : SyOk W5.drew z := (G.out.2.2.2.2.1.keepY hb5d).all z (by dsimp only; rw [← hz]; exact getD_mem hj)
            have hgg5 : g < w5.heap.size := by
              obtain ⟨g', og', eg', hgg', -⟩ := G.out.2.2.2.2.1.sl.at hjn
              injection eg' with eg'
              injection eg' with e1 _ _
              rw [e1]; exact hgg'
            have K := Lib.hid (show El2 RSy w5 g (og + j * 8) z b (o + k * 8) x W5.drew from ⟨⟨hatg, hgg5, hb5d⟩, HX.out⟩)
            have HC := Lib.hid (rasame_any hokz.a (G.out.2.2.2.2.2.keep hb5d).a)
            obtain ⟨bo, hbo⟩ : ∃ b, decide (z.a.at = x.a.at) = b := ⟨_, rfl⟩
            rw [hbo] at HC
            have hgt := G.out.2.2.2.1
            rw [show newQ A x = !bo from by unfold newQ; rw [hyes]; dsimp only; rw [hbo]] at hgt
            have HGT := Lib.hid hgt
            have HB5 := Lib.hid hb5d
            unfold AtV.v at HC
            clear hgt hyes hb5 hd hb5d hatg hokz hbo HX hz hgg hgg5 hj hjn
            go_wp2_with fail
            refine wp_region_heldP (El2 RSy w5 g (og + j * 8) z b (o + k * 8) x) (by kernel_rfl) ?_
            generalize W5.drew = V at *
            refine held_reads [0, 1, 2, 3, 4, 5, 6, 7, 8, 9, 10, 11, 12] (g := 3) rfl (by kernel_rfl) K.out (fun _ _ d _ _ h => by cases d <;> exact h) ?_
            simp only [pick, List.getD_cons_zero, List.getD_cons_succ]
            ((with_reducible refine wpRead_step (fun K hK => ?_)); go_simp; first | ((with_reducible refine hK _ ?_); clear hK K) | (apply Exists.intro; (with_reducible refine ⟨fun w' hw' => ?_, hK _ ?_⟩); (first | exact rfl | exact ⟨rfl, rfl⟩); clear hK K))
            ((with_reducible refine wpRead_step (fun K hK => ?_)); go_simp; first | ((with_reducible refine hK _ ?_); clear hK K) | (apply Exists.intro; (with_reducible refine ⟨fun w' hw' => ?_, hK _ ?_⟩); (first | exact rfl | exact ⟨rfl, rfl⟩); clear hK K))
            ((with_reducible refine wpRead_step (fun K hK => ?_)); go_simp; first | ((with_reducible refine hK _ ?_); clear hK K) | (apply Exists.intro; (with_reducible refine ⟨fun w' hw' => ?_, hK _ ?_⟩); (first | exact rfl | exact ⟨rfl, rfl⟩); clear hK K))
            ((with_reducible refine wpRead_step (fun K hK => ?_)); go_simp; first | ((with_reducible refine hK _ ?_); clear hK K) | (apply Exists.intro; (with_reducible refine ⟨fun w' hw' => ?_, hK _ ?_⟩); (first | exact rfl | exact ⟨rfl, rfl⟩); clear hK K))
            ((with_reducible refine wpRead_step (fun K hK => ?_)); go_simp; first | ((with_reducible refine hK _ ?_); clear hK K) | (apply Exists.intro; (with_reducible refine ⟨fun w' hw' => ?_, hK _ ?_⟩); (first | exact rfl | exact ⟨rfl, rfl⟩); clear hK K))
            ((with_reducible refine wpRead_step (fun K hK => ?_)); go_simp; first | ((with_reducible refine hK _ ?_); clear hK K) | (apply Exists.intro; (with_reducible refine ⟨fun w' hw' => ?_, hK _ ?_⟩); (first | exact rfl | exact ⟨rfl, rfl⟩); clear hK K))
            ((with_reducible refine wpRead_step (fun K hK => ?_)); go_simp; first | ((with_reducible refine hK _ ?_); clear hK K) | (apply Exists.intro; (with_reducible refine ⟨fun w' hw' => ?_, hK _ ?_⟩); (first | exact rfl | exact ⟨rfl, rfl⟩); clear hK K))
            with_reducible refine wpRead_yes ?_ ?_
            rotate_left
            rfl
            intro K hK
            refine read_load 40 _ rfl g ((og + j * 8) + 2) #[.int .i64 z.a.o, .slice z.a.p.a z.a.p.n z.a.p.c, .int .u32 z.a.nx, .int .i64 z.a.md, .int .i64 z.a.pf, .slice z.a.c.a z.a.c.n z.a.c.c] rfl (fun w' hw' => hw'.l.at'.yA) Tryz.underlying40 rfl (by kernel_rfl) (hK _ ?_)
            clear hK K
            ((with_reducible refine wpRead_step (fun K hK => ?_)); go_simp; first | ((with_reducible refine hK _ ?_); clear hK K) | (apply Exists.intro; (with_reducible refine ⟨fun w' hw' => ?_, hK _ ?_⟩); (first | exact rfl | exact ⟨rfl, rfl⟩); clear hK K))
            ((with_reducible refine wpRead_step (fun K hK => ?_)); go_simp; first | ((with_reducible refine hK _ ?_); clear hK K) | (apply Exists.intro; (with_reducible refine ⟨fun w' hw' => ?_, hK _ ?_⟩); (first | exact rfl | exact ⟨rfl, rfl⟩); clear hK K))
            ((with_reducible refine wpRead_step (fun K hK => ?_)); go_simp; first | ((with_reducible refine hK _ ?_); clear hK K) | (apply Exists.intro; (with_reducible refine ⟨fun w' hw' => ?_, hK _ ?_⟩); (first | exact rfl | exact ⟨rfl, rfl⟩); clear hK K))
            ((with_reducible refine wpRead_step (fun K hK => ?_)); go_simp; first | ((with_reducible refine hK _ ?_); clear hK K) | (apply Exists.intro; (with_reducible refine ⟨fun w' hw' => ?_, hK _ ?_⟩); (first | exact rfl | exact ⟨rfl, rfl⟩); clear hK K))
            with_reducible refine wpRead_yes ?_ ?_
            rotate_left
            rfl
            intro K hK
            refine read_load 40 _ rfl b ((o + k * 8) + 2) #[.int .i64 x.a.o, .slice x.a.p.a x.a.p.n x.a.p.c, .int .u32 x.a.nx, .int .i64 x.a.md, .int .i64 x.a.pf, .slice x.a.c.a x.a.c.n x.a.c.c] rfl (fun w' hw' => hw'.r.at'.yA) Tryz.underlying40 rfl (by kernel_rfl) (hK _ ?_)
            clear hK K
            with_reducible refine wpRead_nil ?_
            refine held_one 13 (by kernel_rfl) ?_
            simp only [pick, List.getD_cons_zero, List.getD_cons_succ]
            go_wp2_with fail
            refine (HC.out).mono ?_
            rintro e V2 ⟨rfl, hb⟩
            have K3 := Lib.hid (K.out.keep hb)
            have HB6 := Lib.hid (bcall HB5.out (Nat.le_refl _) hb)
            clear hb HC K HB5
            go_wp2_with fail
            refine ⟨K3.out, ?_⟩
            have HX := Lib.hid K3.out.r
            cases bo with
            | true =>
              refine held_reads [14, 15] (g := 0) rfl (by kernel_rfl) K3.out (fun _ _ d _ _ h => by cases d <;> exact h) ?_
              simp only [pick, List.getD_cons_zero, List.getD_cons_succ]
              ((with_reducible refine wpRead_step (fun K hK => ?_)); go_simp; first | ((with_reducible refine hK _ ?_); clear hK K) | (apply Exists.intro; (with_reducible refine ⟨fun w' hw' => ?_, hK _ ?_⟩); (first | exact rfl | exact ⟨rfl, rfl⟩); clear hK K))
              ((with_reducible refine wpRead_step (fun K hK => ?_)); go_simp; first | ((with_reducible refine hK _ ?_); clear hK K) | (apply Exists.intro; (with_reducible refine ⟨fun w' hw' => ?_, hK _ ?_⟩); (first | exact rfl | exact ⟨rfl, rfl⟩); clear hK K))
              with_reducible refine wpRead_nil ?_
              refine wpAnyH_done (by kernel_rfl) ?_ _
              have hgt := HGT.out
              simp only [Bool.not_true, Bool.false_eq_true, if_false, List.append_nil] at hgt
              have hfin := G.out.1.below HB6.out
              rw [HN1.out, ← hgt] at hfin
              have HFIN := Lib.hid hfin
              clear hgt hfin
              go_wp2_with fail
              exact ⟨⟨k + 1, hlt, by first | rw [hw3] | rw [Int.natCast_succ], HFIN.out, bcall G.out.2.1 (Nat.le_refl _) HB6.out⟩, by first | (rw [hw3]; exact mSucc hlt) | (rw [← Int.natCast_succ]; exact mSucc hlt)⟩
            | false =>
              refine held_reads [14, 15] (g := 0) rfl (by kernel_rfl) K3.out (fun _ _ d _ _ h => by cases d <;> exact h) ?_
              simp only [pick, List.getD_cons_zero, List.getD_cons_succ]
              ((with_reducible refine wpRead_step (fun K hK => ?_)); go_simp; first | ((with_reducible refine hK _ ?_); clear hK K) | (apply Exists.intro; (with_reducible refine ⟨fun w' hw' => ?_, hK _ ?_⟩); (first | exact rfl | exact ⟨rfl, rfl⟩); clear hK K))
              ((with_reducible refine wpRead_step (fun K hK => ?_)); go_simp; first | ((with_reducible refine hK _ ?_); clear hK K) | (apply Exists.intro; (with_reducible refine ⟨fun w' hw' => ?_, hK _ ?_⟩); (first | exact rfl | exact ⟨rfl, rfl⟩); clear hK K))
              with_reducible refine wpRead_nil ?_
              refine wpAnyH_done (by kernel_rfl) ?_ _
              have hgt := HGT.out
              simp only [Bool.not_false, if_true] at hgt
              have HGT2 := Lib.hid hgt
              clear hgt
              have hat := HX.out.at'
              have c0 := hat 0 (by decide)
              have c1 := hat 1 (by decide)
              have c2 := hat 2 (by decide)
              have c3 := hat 3 (by decide)
              have c4 := hat 4 (by decide)
              have c5 := hat 5 (by decide)
              have c6 := hat 6 (by decide)
              have c7 := hat 7 (by decide)
              simp only [RSy, Nat.add_zero, List.getElem?_cons_zero, List.getElem?_cons_succ] at c0 c1 c2 c3 c4 c5 c6 c7
              clear hat
              go_wp2_with (at_builtin; refine halt ?_)
              refine Halted.go ?_
              clear c0 c1 c2 c3 c4 c5 c6 c7
              have hal := (Below.refl V2.heap.size V2).alloc (Nat.le_refl _) (.cells #[.int .u32 (x.k.1 : Int), .int .i64 x.k.2, .int .i64 x.a.o, .slice x.a.p.a x.a.p.n x.a.p.c, .int .u32 x.a.nx, .int .i64 x.a.md, .int .i64 x.a.pf, .slice x.a.c.a x.a.c.n x.a.c.c] 88)
              have hbA : Below w5.heap.size w5 (V2.alloc (.cells #[.int .u32 (x.k.1 : Int), .int .i64 x.k.2, .int .i64 x.a.o, .slice x.a.p.a x.a.p.n x.a.p.c, .int .u32 x.a.nx, .int .i64 x.a.md, .int .i64 x.a.pf, .slice x.a.c.a x.a.c.n x.a.c.c] 88)) := bcall HB6.out (Nat.le_refl _) hal
              have hwN := G.out.1.below hbA
              rw [HN1.out] at hwN
              refine Rep.append_list TSy rfl _ _ rfl rfl hwN rfl (Rep.sl_one (R := RSy) (y := x) (hnew _ _)) (fun h => by cases h) (by have := G.out.2.2.1; unfold maxLen; omega) (by have := G.out.2.2.1; omega) (Nat.le_trans G.out.2.1.size hbA.size) ?_
              intro v9 V9 hown9 hb9 _
              obtain ⟨a9, c9, rfl, -, -⟩ := hown9.sl0
              rw [← HGT2.out] at hown9 ⊢
              have HO := Lib.hid (And.intro hown9 ((bcall G.out.2.1 (Nat.le_refl _) hbA).trans hb9))
              generalize (newV A (B.take (k + 1))).length = n9 at *
              clear hwN hown9 hb9 hbA hal
              go_wp2_with fail
              exact ⟨⟨k + 1, hlt, by first | rw [hw3] | rw [Int.natCast_succ], HO.out⟩, by first | (rw [hw3]; exact mSucc hlt) | (rw [← Int.natCast_succ]; exact mSucc hlt)⟩
        · obtain rfl : k = nb := by omega
          have hil : ((k : Int) < (k : Int)) = False := by simp
          have hown2 := hown
          rw [HN.out.2.1, List.take_length] at hown2
          have hge : (newV A (B.take k)).length = (newV A B).length := by rw [HN.out.2.1, List.take_length]
          rw [hge]
          obtain ⟨⟨ga, gn, gc, gl⟩, e1, hg1, hg2, -, -⟩ := Own_slok (ok := NlOk) F2.out.2.2.2 (fun n hn => by
            obtain ⟨t, ht, rfl⟩ := List.mem_map.1 hn
            have := (F2.out.2.1.all t (List.mem_filter.1 ht).1).k
            exact ⟨this.1, by show I64 0; unfold I64; decide, this.2⟩)
          obtain ⟨⟨na2, nn, nc2, nl⟩, e2, hn1, hn2, -, -⟩ := Own_slok (ok := SyOk) hown2 (fun t ht => (F2.out.2.2.1.keepY hb).all t (List.mem_filter.1 ht).1)
          dsimp only at e1 e2 hg1 hn1
          subst hg1
          subst hn1
          have hgl : (goV B A).length = ng := by have := F2.out.2.2.2.sl; obtain ⟨a1, c1, e3, -⟩ := this; injection e3 with _ e4 _; exact e4.symm
          rw [e1, e2]
          have hokA : ∀ s ∈ A, okS four s = true := fun s hs => H0.out.2.2.1 s (by rw [← HE.out.1] at hs; exact (sortK_perm wl).mem_iff.1 hs)
          have hokB : ∀ s ∈ B, okS four s = true := fun s hs => H0.out.2.2.2.1 s (by rw [← HE.out.2] at hs; exact (sortK_perm il).mem_iff.1 hs)
          have hlowB : ∀ s ∈ B, LowA w.heap.size s.a := fun s hs => (H0.out.2.1.all s (by rw [← HE.out.2] at hs; exact (sortK_perm il).mem_iff.1 hs)).a.low
          have hgn : gn ≤ 4611686 := by
            have h1 : gn = (goV B A).length := hg2.sl.len
            have h2 := goV_len B A
            have h3 := HN.out.2.2.1
            have h4 := HN.out.1
            omega
          have hnn : nn ≤ 4611686 := by
            have h1 : nn = (newV A B).length := hn2.sl.len
            have h2 := newV_len A B
            have h3 := HN.out.2.2.2
            have h4 := HN.out.2.1
            omega
          have HG := Lib.hid (rgone_any (hg2.keepN hb) (fun n hn => by
            obtain ⟨t, ht, rfl⟩ := List.mem_map.1 hn
            exact okN_of (hokA t (List.mem_filter.1 ht).1)) hgn four)
          have HQ := Lib.hid (And.intro hn2 (And.intro (fun s (hs : s ∈ newV A B) => hlowB s (List.mem_filter.1 hs).1) (And.intro (fun s (hs : s ∈ newV A B) => hokB s (List.mem_filter.1 hs).1) (And.intro hnn (And.intro (bcall F2.out.1 (Nat.le_refl _) hb) hgn)))))
          clear hown hown2 hge hb e1 e2 hg2 hn2 hgl hokA hokB hlowB hgn hnn
          go_wp2_with fail
          refine (HG.out).mono ?_
          rintro e W6 ⟨v6, M1, rfl, ho6, hm6, hb6⟩
          obtain ⟨o6, k6, rfl, -, -⟩ := ho6.own.sl0
          have HC := Lib.hid (rcome_any (HQ.out.1.keepY hb6) HQ.out.2.1 HQ.out.2.2.1 HQ.out.2.2.2.1)
          have F6 := Lib.hid (And.intro ho6 (And.intro hm6 hb6))
          obtain ⟨m6, hm6e⟩ : ∃ m6, M1.length = m6 := ⟨_, rfl⟩
          rw [hm6e] at F6 ⊢
          have HM6 := Lib.hid hm6e
          clear ho6 hm6 hb6 HG hm6e
          go_wp2_with fail
          refine (HC.out).mono ?_
          rintro e W7 ⟨v7, M2, rfl, ho7, hm7, hap, hb7⟩
          obtain ⟨⟨o7, k7, c7, l7⟩, rfl, hl7, hs7, -, -⟩ := ho7.slok
          dsimp only at hl7
          subst hl7
          have F7 := Lib.hid (And.intro ho7 (And.intro hm7 (And.intro hap (And.intro hb7 hs7))))
          clear ho7 hm7 hap hb7 hs7 HC
          go_wp2_with (at_builtin; refine halt ?_)
          refine Halted.go ?_
          have hl1 : M1.length ≤ 16384 := by
            have h1 := congrArg List.length F6.out.2.1
            rw [List.length_map] at h1
            have h2 := goneI_len (goV B A)
            have h3 := goV_len B A
            have h4 := HN.out.2.2.1
            have h5 := HN.out.1
            omega
          have hl2 : l7.length ≤ 16384 := by
            have h1 := congrArg List.length F7.out.2.1
            rw [List.length_map] at h1
            have h2 := comeI_len four (newV A B) HQ.out.2.2.1
            have h3 := newV_len A B
            have h4 := HN.out.2.2.2
            have h5 := HN.out.2.1
            omega
          have hk7 : k7 = l7.length := F7.out.2.2.2.2.sl.len
          refine Rep.append_listP TUp rfl _ _ rfl rfl (F6.out.1.below F7.out.2.2.2.1) rfl F7.out.2.2.2.2.sl F7.out.2.2.2.2.nil (fun y hy => (F7.out.2.2.1 y hy).firm (fun g hg => ?_) (F7.out.2.2.2.2.all y hy)) (by unfold maxLen; omega) (by omega) (Nat.le_trans F6.out.2.2.size F7.out.2.2.2.1.size) ?_
          · have := World.ownsRow.lt F6.out.1.own g hg
            exact ⟨Nat.le_trans HQ.out.2.2.2.2.1.size this.1, this.2⟩
          intro v8 W8 hown8 hb8
          have hb68 : Below w.heap.size w W8 := (bcall (bcall HQ.out.2.2.2.2.1 (Nat.le_refl _) F6.out.2.2) (Nat.le_refl _) F7.out.2.2.2.1).trans (hb8.mono HQ.out.2.2.2.2.1.size)
          have HFin := Lib.hid (And.intro (hown8.mono HQ.out.2.2.2.2.1.size) (And.intro (show (M1 ++ l7).map UpV.up = upsI szN (asz four) (wl.map SyV.sy) (il.map SyV.sy) from by
            have hD1 := H0.out.2.2.2.2.1
            have hD2 := H0.out.2.2.2.2.2.1
            have hg := goV_is (wl := wl) (il := il) hD2
            have hn := newV_is (wl := wl) (il := il) hD1
            rw [HE.out.1, HE.out.2] at hg hn
            rw [List.map_append, F6.out.2.1, F7.out.2.1]
            unfold upsI
            rw [← hg, ← hn, List.length_map]) hb68))
          obtain ⟨o8, k8, rfl, -, -⟩ := hown8.own.sl0
          obtain ⟨m8, hm8⟩ : ∃ m8, (M1 ++ l7).length = m8 := ⟨_, rfl⟩
          rw [hm8] at HFin ⊢
          clear hown8 hb8 hb68 hl1 hl2 hk7 hm8
          go_wp2_with fail
          go_ret
          exact ⟨_, rfl, _, HFin.out⟩
end Go.Proofs.YtadoflcomienoaaGreat
/- Updates, as the program tells. -/
namespace Go.Proofs.YtadoflcomienoaaGreat
open Go.RowKit

theorem goV_is' (wl il : List SyV) : goV il (sortK SyV.k wl) = goingI (wl.map SyV.sy) (il.map SyV.sy) := by
  unfold goV goingI
  rw [← sortK_map (key := SyV.k) SyV.sy (fun _ => rfl), List.filter_map, List.map_map]
  congr 1
  refine List.filter_congr fun s _ => ?_
  show (Kl.look SyV.k il s.k).isNone = (Kl.look Sy.k (il.map SyV.sy) s.k).isNone
  rw [look_map (key := SyV.k) SyV.sy (fun _ => rfl)]
  cases Kl.look SyV.k il s.k <;> rfl
theorem newV_is' (wl il : List SyV) : (newV wl (sortK SyV.k il)).map SyV.sy = newsI (wl.map SyV.sy) (il.map SyV.sy) := by
  unfold newV newsI
  rw [← sortK_map (key := SyV.k) SyV.sy (fun _ => rfl), List.filter_map]
  congr 1
  refine List.filter_congr fun s _ => ?_
  show newQ wl s = !decide (Kl.look Sy.k (wl.map SyV.sy) s.k = some s.sy)
  unfold newQ
  rw [look_map (key := SyV.k) SyV.sy (fun _ => rfl)]
  cases hl : Kl.look SyV.k wl s.k with
  | none => simp
  | some t =>
    have hk := (Kl.look_mem hl).2
    simp only [Option.map_some, Option.some.injEq]
    congr 1
    refine decide_eq_decide.2 ⟨fun h => ?_, fun h => congrArg Sy.a h⟩
    unfold SyV.sy
    rw [hk, h]
theorem hasY_no {L : List SyV} {k : PK} (h : hasY L k = false) : Kl.look SyV.k L k = none := by
  unfold hasY at h
  cases hq : Kl.look SyV.k L k with
  | none => rfl
  | some y => rw [hq] at h; cases h
theorem hasY_yes {L : List SyV} {k : PK} (h : hasY L k = true) : ∃ t, Kl.look SyV.k L k = some t ∧ getA L k = t.a ∧ t ∈ L := by
  unfold hasY at h
  cases hq : Kl.look SyV.k L k with
  | none => rw [hq] at h; cases h
  | some y => exact ⟨y, rfl, by unfold getA; rw [hq]; rfl, (Kl.look_mem hq).1⟩
theorem getA_ok {w : World} {L : List SyV} (h : ∀ x ∈ L, SyOk w x) (k : PK) : AtOk w (getA L k) := by
  unfold getA
  cases hq : Kl.look SyV.k L k with
  | none => exact atZ_ok w
  | some y => exact (h y (Kl.look_mem hq).1).a
theorem okY_iff {four : Bool} {sl : List SyV} : okY four (sl.map SyV.sy) = true ↔ (∀ s ∈ sl, okS four s = true) ∧ (sl.map SyV.k).Nodup := by
  rw [okY_is, Bool.and_eq_true, List.all_eq_true, decide_eq_true_eq]
set_option maxRecDepth 100000 in
set_option maxHeartbeats 8000000 in
theorem dupdates_bad {w : World} {wa ia : Option Addr} {wn wc jn jc : Nat} {wl il : List SyV} {four : Bool} (hw : SlOk RSy SyOk w ⟨wa, wn, wc, wl⟩) (hi : SlOk RSy SyOk w ⟨ia, jn, jc, il⟩) (hbad : (okY four (wl.map SyV.sy) && okY four (il.map SyV.sy)) = false) : Calls Tryz.prog 12 #[.slice wa wn wc, .slice ia jn jc, .bool four] w fun e w' => e = .returned (.tuple #[.slice none 0 0, .int .i64 1]) ∧ Below w.heap.size w w' := by
  have HC := Lib.hid (dcheckY_any hw four)
  have H0 := Lib.hid hi
  obtain ⟨b1, hb1⟩ : ∃ b, okY four (wl.map SyV.sy) = b := ⟨_, rfl⟩
  rw [hb1] at HC hbad
  clear hw hi hb1
  cases b1 with
  | false =>
    have e1 : (errI false 1 : Int) = 1 := rfl
    go_enter Tryz.func12, Tryz.ntmps12
    go_wp2_with fail
    refine (HC.out).mono ?_
    rintro e w1 ⟨rfl, hb⟩
    have F1 := Lib.hid hb
    clear hb HC
    go_wp2_with fail
    go_ret2
    exact ⟨rfl, F1.out⟩
  | true =>
    have e1 : (errI true 1 : Int) = 0 := rfl
    have e2 : (errI false 1 : Int) = 1 := rfl
    rw [Bool.true_and] at hbad
    have HB := Lib.hid hbad
    clear hbad
    go_enter Tryz.func12, Tryz.ntmps12
    go_wp2_with fail
    refine (HC.out).mono ?_
    rintro e w1 ⟨rfl, hb⟩
    have HC2 := Lib.hid (dcheckY_any (H0.out.keepY hb) four)
    rw [HB.out] at HC2
    have F1 := Lib.hid hb
    clear hb HC
    go_wp2_with fail
    refine (HC2.out).mono ?_
    rintro e w2 ⟨rfl, hb⟩
    have F2 := Lib.hid (bcall F1.out (Nat.le_refl _) hb)
    clear hb HC2 F1
    go_wp2_with fail
    go_ret2
    exact ⟨rfl, F2.out⟩
set_option maxRecDepth 100000 in
set_option maxHeartbeats 16000000 in
theorem dupdates_any {w : World} {wa ia : Option Addr} {wn wc jn jc : Nat} {wl il : List SyV} {four : Bool} (hw : SlOk RSy SyOk w ⟨wa, wn, wc, wl⟩) (hi : SlOk RSy SyOk w ⟨ia, jn, jc, il⟩) (hkw : okY four (wl.map SyV.sy) = true) (hki : okY four (il.map SyV.sy) = true) (hm1 : wn ≤ 16384) (hm2 : jn ≤ 16384) : Calls Tryz.prog 12 #[.slice wa wn wc, .slice ia jn jc, .bool four] w fun e w' => ∃ v M, e = .returned (.tuple #[v, .int .i64 0]) ∧ OwnP RUp UpOk w' w.heap.size v M ∧ M.map UpV.up = upsI szN (asz four) (wl.map SyV.sy) (il.map SyV.sy) ∧ Below w.heap.size w w' := by
  have HC := Lib.hid (dcheckY_any hw four)
  rw [hkw] at HC
  have e1 : (errI true 1 : Int) = 0 := rfl
  have H0 := Lib.hid (And.intro hw (And.intro hi (And.intro (okY_iff.1 hkw) (And.intro (okY_iff.1 hki) (And.intro hm1 (And.intro hm2 hki))))))
  clear hw hi hkw hki hm1 hm2
  go_enter Tryz.func12, Tryz.ntmps12
  go_wp2_with fail
  refine (HC.out).mono ?_
  rintro e w1 ⟨rfl, hb⟩
  have HC2 := Lib.hid (dcheckY_any (H0.out.2.1.keepY hb) four)
  rw [H0.out.2.2.2.2.2.2] at HC2
  have F1 := Lib.hid hb
  clear hb HC
  go_wp2_with fail
  refine (HC2.out).mono ?_
  rintro e w2 ⟨rfl, hb⟩
  have hb2 := bcall F1.out (Nat.le_refl _) hb
  have HO := Lib.hid (of_any (H0.out.1.keepY hb2))
  have F2 := Lib.hid hb2
  clear hb hb2 HC2 F1
  go_wp2_with fail
  refine (HO.out).mono ?_
  rintro e w3 ⟨ba, rfl, hma, -, hb⟩
  have hb3 := bcall F2.out (Nat.le_refl _) hb
  rw [firstsK_self H0.out.2.2.1.2] at hma
  have HO2 := Lib.hid (of_any (H0.out.2.1.keepY hb3))
  have F3 := Lib.hid (And.intro hb3 hma)
  clear hb hb3 hma HO F2
  go_wp2_with fail
  refine (HO2.out).mono ?_
  rintro e w4 ⟨bb, rfl, hmb, -, hb⟩
  have hb4 := bcall F3.out.1 (Nat.le_refl _) hb
  rw [firstsK_self H0.out.2.2.2.1.2] at hmb
  have hma := F3.out.2.keep hb
  have hln : wl.length ≤ 16384 := by have h1 : wn = wl.length := H0.out.1.sl.len; have := H0.out.2.2.2.2.1; omega
  have hln2 : il.length ≤ 16384 := by have h1 : jn = il.length := H0.out.2.1.sl.len; have := H0.out.2.2.2.2.2.1; omega
  have HN := Lib.hid (And.intro hln hln2)
  have HL := Lib.hid (list_any hma (by omega))
  have F4 := Lib.hid (And.intro hb4 (And.intro hma hmb))
  clear hb hb4 hma hmb HO2 F3 hln hln2
  go_wp2_with fail
  refine (HL.out).mono ?_
  rintro e w5 ⟨v5, rfl, ho5, hb⟩
  obtain ⟨⟨aa, na, ac, al⟩, rfl, hA1, hA2, -, -⟩ := Own_slok (ok := SyOk) ho5 (fun x hx => (H0.out.1.keepY (bcall F4.out.1 (Nat.le_refl _) hb)).all x ((sortK_perm wl).mem_iff.1 hx))
  dsimp only at hA1
  have hna : na = al.length := hA2.sl.len
  have hna2 : na ≤ 16384 := by rw [hna, hA1, sortK_length]; exact HN.out.1
  have F := Lib.hid (And.intro (bcall F4.out.1 (Nat.le_refl _) hb) (And.intro (F4.out.2.1.keep hb) (And.intro (F4.out.2.2.keep hb) (And.intro hA2 (And.intro hA1 hna)))))
  clear ho5 hb hA1 hA2 hna HL F4
  go_wp2_with fail
  go_loopw [10, 37] (fun gv iv wr => ∃ i : Nat, i ≤ na ∧ iv = .int .i64 i ∧ RNl.Own wr w5.heap.size gv (goV il (al.take i)) ∧ Below w5.heap.size w5 wr) (fun _ iv _ => na - (intOf iv).toNat)
  case atStart => exact ⟨0, Nat.zero_le _, rfl, Rep.Own.nil _ _, Below.refl _ _⟩
  case round =>
    obtain ⟨i, hi, rfl, hown, hb⟩ := hrel
    obtain ⟨W4, rfl⟩ : ∃ W4 : World, W4 = wr := ⟨_, rfl⟩
    obtain ⟨oc, cc, rfl, -, -⟩ := hown.sl0
    by_cases hlt : i < na
    · have hil : ((i : Int) < (na : Int)) = True := by simp; omega
      have hw3 := wrapS hlt (show na ≤ maxLen by unfold maxLen; omega)
      have hlL : i < al.length := by rw [← F.out.2.2.2.2.2]; exact hlt
      have hsl := F.out.2.2.2.1.keepY hb
      obtain ⟨b, o, ea, hbb, hat⟩ := hsl.sl.at hlt
      dsimp only at ea
      subst ea
      obtain ⟨x, hx⟩ : ∃ x, al.getD i default = x := ⟨_, rfl⟩
      dsimp only at hat
      rw [hx] at hat
      have hokx : SyOk W4 x := hsl.all x (by dsimp only; rw [← hx]; exact getD_mem hlL)
      have hlen : (goV il (al.take i)).length ≤ 16384 := by
        have h1 := goV_len il (al.take i)
        rw [List.length_take] at h1
        omega
      have hgt := goV_take (B := il) hlL hx
      have c0 := hat 0 (by decide)
      have c1 := hat 1 (by decide)
      have c2 := hat 2 (by decide)
      have c3 := hat 3 (by decide)
      have c4 := hat 4 (by decide)
      have c5 := hat 5 (by decide)
      have c6 := hat 6 (by decide)
      have c7 := hat 7 (by decide)
      simp only [RSy, Nat.add_zero, List.getElem?_cons_zero, List.getElem?_cons_succ] at c0 c1 c2 c3 c4 c5 c6 c7
      have G := Lib.hid (And.intro hown (And.intro hb (And.intro hlen (And.intro hgt (And.intro hlt (PN_ok hokx))))))
      obtain ⟨n1, hn1⟩ : ∃ n1, (goV il (al.take i)).length = n1 := ⟨_, rfl⟩
      rw [hn1]
      have HN1 := Lib.hid hn1
      clear hown hb hlen hgt hat hsl hbb hn1 hlL hx hokx hi
      go_wp2_with (with_reducible refine halt_store 88 (x := .tmp 12) rfl ?_)
      refine Halted.go ?_
      have hal := (Below.refl W4.heap.size W4).alloc (Nat.le_refl _) (.cells #[.int .u32 0, .int .i64 0, .int .i64 0, .slice none 0 0, .int .u32 0, .int .i64 0, .int .i64 0, .slice none 0 0] 88)
      refine store_whole rfl 88 _ _ rfl W4.heap.size #[.int .u32 (x.k.1 : Int), .int .i64 x.k.2, .int .i64 x.a.o, .slice x.a.p.a x.a.p.n x.a.p.c, .int .u32 x.a.nx, .int .i64 x.a.md, .int .i64 x.a.pf, .slice x.a.c.a x.a.c.n x.a.c.c] rfl rfl (hnew _ _) rfl (by kernel_rfl) (by simp [Value.oneCell']) ?_
      intro W1 hwz hsz
      have hzb : Below W4.heap.size W4 W1 := Below.trans hal (hsz.below (Nat.le_refl _))
      have H1 := Lib.hid (And.intro hzb (show BxY W4.heap.size x W1 from hwz))
      have hlk := ((F.out.2.2.1.keep G.out.2.1).keep H1.out.1).lookup (k := x.k) G.out.2.2.2.2.2 W1 rfl
      clear hwz hsz hal hzb c0 c1 c2 c3 c4 c5 c6 c7
      obtain ⟨c0, c1, c2, c3, c4, c5, c6, c7⟩ := H1.out.2.cells
      obtain ⟨hs, hhs⟩ : ∃ b, hasY il x.k = b := ⟨_, rfl⟩
      obtain ⟨ga9, hga⟩ : ∃ g, getA il x.k = g := ⟨_, rfl⟩
      rw [hhs, hga] at hlk
      have HS := Lib.hid hhs
      have HGA := Lib.hid hga
      clear hhs hga
      go_wp2_with (with_reducible refine halt_store 40 (x := .tmp 13) rfl ?_)
      refine Halted.go ?_
      have hal := (Below.refl W1.heap.size W1).alloc (Nat.le_refl _) (.cells #[.int .i64 0, .slice none 0 0, .int .u32 0, .int .i64 0, .int .i64 0, .slice none 0 0] 40)
      refine store_whole rfl 40 _ _ rfl W1.heap.size #[.int .i64 ga9.o, .slice ga9.p.a ga9.p.n ga9.p.c, .int .u32 ga9.nx, .int .i64 ga9.md, .int .i64 ga9.pf, .slice ga9.c.a ga9.c.n ga9.c.c] rfl rfl (hnew _ _) rfl (by kernel_rfl) (by simp [Value.oneCell']) ?_
      intro W2 hwz hsz
      have hzb : Below W1.heap.size W1 W2 := Below.trans hal (hsz.below (Nat.le_refl _))
      have H2 := Lib.hid (And.intro (bcall H1.out.1 (Nat.le_refl _) hzb) (And.intro (H1.out.2.keep hzb) (show BxA W1.heap.size ga9 W2 from hwz)))
      clear hwz hsz hal hzb hlk c0 c1 c2 c3 c4 c5 c6 c7
      obtain ⟨c0, c1, c2, c3, c4, c5, c6, c7⟩ := H2.out.2.1.cells
      cases hs with
      | true =>
        have hgt := G.out.2.2.2.1
        rw [show (Kl.look SyV.k il x.k).isNone = false from by obtain ⟨t, h1, -⟩ := hasY_yes HS.out; rw [h1]; rfl] at hgt
        simp only [Bool.false_eq_true, if_false, List.append_nil] at hgt
        have hfin := G.out.1.below H2.out.1
        rw [HN1.out, ← hgt] at hfin
        have HF := Lib.hid hfin
        have hlt := G.out.2.2.2.2.1
        clear hgt hfin
        go_wp2_with fail
        exact ⟨⟨i + 1, hlt, by first | rw [hw3] | rw [Int.natCast_succ], HF.out, bcall G.out.2.1 (Nat.le_refl _) H2.out.1⟩, by first | (rw [hw3]; exact mSucc hlt) | (rw [← Int.natCast_succ]; exact mSucc hlt)⟩
      | false =>
        have hgt := G.out.2.2.2.1
        rw [hasY_no HS.out] at hgt
        simp only [Option.isNone_none, if_true] at hgt
        have HGT := Lib.hid hgt
        have hlt := G.out.2.2.2.2.1
        clear hgt
        go_wp2_with (at_builtin; refine halt ?_)
        refine Halted.go ?_
        clear c0 c1 c2 c3 c4 c5 c6 c7
        have hal := (Below.refl W2.heap.size W2).alloc (Nat.le_refl _) (.cells #[.int .i64 0, .int .u32 (x.k.1 : Int), .int .i64 x.k.2] 60)
        have hbA : Below W4.heap.size W4 (W2.alloc (.cells #[.int .i64 0, .int .u32 (x.k.1 : Int), .int .i64 x.k.2] 60)) := bcall H2.out.1 (Nat.le_refl _) hal
        have hwN := G.out.1.below hbA
        rw [HN1.out] at hwN
        refine Rep.append_list TNl rfl _ _ rfl rfl hwN rfl (Rep.sl_one (R := RNl) (y := x.sy.nl) (hnew _ _)) (fun h => by cases h) (by have := G.out.2.2.1; unfold maxLen; omega) (by have := G.out.2.2.1; omega) (Nat.le_trans G.out.2.1.size hbA.size) ?_
        intro v9 V9 hown9 hb9 _
        obtain ⟨a9, c9, rfl, -, -⟩ := hown9.sl0
        rw [← HGT.out] at hown9 ⊢
        have HO := Lib.hid (And.intro hown9 ((bcall G.out.2.1 (Nat.le_refl _) hbA).trans hb9))
        generalize (goV il (al.take (i + 1))).length = n9 at *
        clear hwN hown9 hb9 hbA hal
        go_wp2_with fail
        exact ⟨⟨i + 1, hlt, by first | rw [hw3] | rw [Int.natCast_succ], HO.out⟩, by first | (rw [hw3]; exact mSucc hlt) | (rw [← Int.natCast_succ]; exact mSucc hlt)⟩
    · obtain rfl : i = na := by omega
      have hil : ((i : Int) < (i : Int)) = False := by simp
      have hown2 := hown
      rw [F.out.2.2.2.2.2, List.take_length] at hown2
      have hge : (goV il (al.take i)).length = (goV il al).length := by rw [F.out.2.2.2.2.2, List.take_length]
      rw [hge]
      have HL2 := Lib.hid (list_any (F.out.2.2.1.keep hb) (by have := HN.out.2; omega))
      obtain ⟨⟨ga, gn, gc, gl⟩, e5, hg1, hg2, hg3, -⟩ := Own_slok (ok := NlOk) hown2 (fun n hn => by
        obtain ⟨t, ht, rfl⟩ := List.mem_map.1 hn
        have := (F.out.2.2.2.1.all t (List.mem_filter.1 ht).1).k
        exact ⟨this.1, by show I64 0; unfold I64; decide, this.2⟩)
      dsimp only at e5 hg1
      rw [e5]
      have F5 := Lib.hid (And.intro (bcall F.out.1 (Nat.le_refl _) hb) (And.intro (F.out.2.1.keep hb) (And.intro hg2 hg1)))
      clear hown hown2 hb hge e5 hg1 hg2 hg3 hi
      go_wp2_with fail
      refine (HL2.out).mono ?_
      rintro e w6 ⟨v6, rfl, ho6, hb⟩
      obtain ⟨⟨ba2, nb, bc, bl⟩, rfl, hB1, hB2, -, -⟩ := Own_slok (ok := SyOk) ho6 (fun x hx => (H0.out.2.1.keepY (bcall F5.out.1 (Nat.le_refl _) hb)).all x ((sortK_perm il).mem_iff.1 hx))
      dsimp only at hB1
      have hnb : nb = bl.length := hB2.sl.len
      have hnb2 : nb ≤ 16384 := by rw [hnb, hB1, sortK_length]; exact HN.out.2
      have F6 := Lib.hid (And.intro (bcall F5.out.1 (Nat.le_refl _) hb) (And.intro (F5.out.2.1.keep hb) (And.intro (F5.out.2.2.1.keepN hb) (And.intro hB2 (And.intro hB1 hnb)))))
      clear ho6 hb hB1 hB2 hnb HL2
      go_wp2_with fail
      go_loopw [15, 60] (fun nv iv wr => ∃ k : Nat, k ≤ nb ∧ iv = .int .i64 k ∧ RSy.Own wr w6.heap.size nv (newV wl (bl.take k)) ∧ Below w6.heap.size w6 wr) (fun _ iv _ => nb - (intOf iv).toNat)
      case atStart => exact ⟨0, Nat.zero_le _, rfl, Rep.Own.nil _ _, Below.refl _ _⟩
      case round =>
        obtain ⟨k, hk, rfl, hown, hb⟩ := hrel
        obtain ⟨W5, rfl⟩ : ∃ W5 : World, W5 = wr := ⟨_, rfl⟩
        obtain ⟨nc, kc, rfl, -, -⟩ := hown.sl0
        by_cases hlt : k < nb
        · have hil : ((k : Int) < (nb : Int)) = True := by simp; omega
          have hw3 := wrapS hlt (show nb ≤ maxLen by unfold maxLen; omega)
          have hlL : k < bl.length := by rw [← F6.out.2.2.2.2.2]; exact hlt
          have hsl := F6.out.2.2.2.1.keepY hb
          obtain ⟨b, o, ea, hbb, hat⟩ := hsl.sl.at hlt
          dsimp only at ea
          subst ea
          obtain ⟨x, hx⟩ : ∃ x, bl.getD k default = x := ⟨_, rfl⟩
          dsimp only at hat
          rw [hx] at hat
          have hokx : SyOk W5 x := hsl.all x (by dsimp only; rw [← hx]; exact getD_mem hlL)
          have hlen : (newV wl (bl.take k)).length ≤ 16384 := by
            have h1 := newV_len wl (bl.take k)
            rw [List.length_take] at h1
            omega
          have hgt := newV_take (A := wl) hlL hx
          have c0 := hat 0 (by decide)
          have c1 := hat 1 (by decide)
          have c2 := hat 2 (by decide)
          have c3 := hat 3 (by decide)
          have c4 := hat 4 (by decide)
          have c5 := hat 5 (by decide)
          have c6 := hat 6 (by decide)
          have c7 := hat 7 (by decide)
          simp only [RSy, Nat.add_zero, List.getElem?_cons_zero, List.getElem?_cons_succ] at c0 c1 c2 c3 c4 c5 c6 c7
          have G := Lib.hid (And.intro hown (And.intro hb (And.intro hlen (And.intro hgt (And.intro hlt (PN_ok hokx))))))
          have HOK := Lib.hid hokx
          obtain ⟨n1, hn1⟩ : ∃ n1, (newV wl (bl.take k)).length = n1 := ⟨_, rfl⟩
          rw [hn1]
          have HN1 := Lib.hid hn1
          clear hown hb hlen hgt hat hsl hbb hn1 hlL hx hokx hk
          go_wp2_with (with_reducible refine halt_store 88 (x := .tmp 17) rfl ?_)
          refine Halted.go ?_
          have hal := (Below.refl W5.heap.size W5).alloc (Nat.le_refl _) (.cells #[.int .u32 0, .int .i64 0, .int .i64 0, .slice none 0 0, .int .u32 0, .int .i64 0, .int .i64 0, .slice none 0 0] 88)
          refine store_whole rfl 88 _ _ rfl W5.heap.size #[.int .u32 (x.k.1 : Int), .int .i64 x.k.2, .int .i64 x.a.o, .slice x.a.p.a x.a.p.n x.a.p.c, .int .u32 x.a.nx, .int .i64 x.a.md, .int .i64 x.a.pf, .slice x.a.c.a x.a.c.n x.a.c.c] rfl rfl (hnew _ _) rfl (by kernel_rfl) (by simp [Value.oneCell']) ?_
          intro W1 hwz hsz
          have hzb : Below W5.heap.size W5 W1 := Below.trans hal (hsz.below (Nat.le_refl _))
          have H1 := Lib.hid (And.intro hzb (show BxY W5.heap.size x W1 from hwz))
          have hlk := ((F6.out.2.1.keep G.out.2.1).keep H1.out.1).lookup (k := x.k) G.out.2.2.2.2.2 W1 rfl
          clear hwz hsz hal hzb c0 c1 c2 c3 c4 c5 c6 c7
          obtain ⟨c0, c1, c2, c3, c4, c5, c6, c7⟩ := H1.out.2.cells
          obtain ⟨hs, hhs⟩ : ∃ b, hasY wl x.k = b := ⟨_, rfl⟩
          obtain ⟨ga9, hga⟩ : ∃ g, getA wl x.k = g := ⟨_, rfl⟩
          rw [hhs, hga] at hlk
          have HS := Lib.hid hhs
          have HGA := Lib.hid hga
          clear hhs hga
          go_wp2_with (with_reducible refine halt_store 40 (x := .tmp 18) rfl ?_)
          refine Halted.go ?_
          have hal := (Below.refl W1.heap.size W1).alloc (Nat.le_refl _) (.cells #[.int .i64 0, .slice none 0 0, .int .u32 0, .int .i64 0, .int .i64 0, .slice none 0 0] 40)
          refine store_whole rfl 40 _ _ rfl W1.heap.size #[.int .i64 ga9.o, .slice ga9.p.a ga9.p.n ga9.p.c, .int .u32 ga9.nx, .int .i64 ga9.md, .int .i64 ga9.pf, .slice ga9.c.a ga9.c.n ga9.c.c] rfl rfl (hnew _ _) rfl (by kernel_rfl) (by simp [Value.oneCell']) ?_
          intro W2 hwz hsz
          have hzb : Below W1.heap.size W1 W2 := Below.trans hal (hsz.below (Nat.le_refl _))
          have H2 := Lib.hid (And.intro (bcall H1.out.1 (Nat.le_refl _) hzb) (And.intro (H1.out.2.keep hzb) (show BxA W1.heap.size ga9 W2 from hwz)))
          clear hwz hsz hal hzb hlk c0 c1 c2 c3 c4 c5 c6 c7
          obtain ⟨c0, c1, c2, c3, c4, c5, c6, c7⟩ := H2.out.2.1.cells
          cases hs with
          | false =>
            have hgt := G.out.2.2.2.1
            rw [show newQ wl x = true from by unfold newQ; rw [hasY_no HS.out], if_pos rfl] at hgt
            have HGT := Lib.hid hgt
            have hlt := G.out.2.2.2.2.1
            have HWB := Lib.hid H2.out.1
            clear hgt
            go_wp2_with (at_builtin; refine halt ?_)
            refine Halted.go ?_
            clear c0 c1 c2 c3 c4 c5 c6 c7
            have hal := (Below.refl W2.heap.size W2).alloc (Nat.le_refl _) (.cells #[.int .u32 (x.k.1 : Int), .int .i64 x.k.2, .int .i64 x.a.o, .slice x.a.p.a x.a.p.n x.a.p.c, .int .u32 x.a.nx, .int .i64 x.a.md, .int .i64 x.a.pf, .slice x.a.c.a x.a.c.n x.a.c.c] 88)
            have hbA : Below W5.heap.size W5 (W2.alloc (.cells #[.int .u32 (x.k.1 : Int), .int .i64 x.k.2, .int .i64 x.a.o, .slice x.a.p.a x.a.p.n x.a.p.c, .int .u32 x.a.nx, .int .i64 x.a.md, .int .i64 x.a.pf, .slice x.a.c.a x.a.c.n x.a.c.c] 88)) := bcall HWB.out (Nat.le_refl _) hal
            have hwN := G.out.1.below hbA
            rw [HN1.out] at hwN
            refine Rep.append_list TSy rfl _ _ rfl rfl hwN rfl (Rep.sl_one (R := RSy) (y := x) (hnew _ _)) (fun h => by cases h) (by have := G.out.2.2.1; unfold maxLen; omega) (by have := G.out.2.2.1; omega) (Nat.le_trans G.out.2.1.size hbA.size) ?_
            intro v9 V9 hown9 hb9 _
            obtain ⟨a9, c9, rfl, -, -⟩ := hown9.sl0
            rw [← HGT.out] at hown9 ⊢
            have HO := Lib.hid (And.intro hown9 ((bcall G.out.2.1 (Nat.le_refl _) hbA).trans hb9))
            generalize (newV wl (bl.take (k + 1))).length = n9 at *
            clear hwN hown9 hb9 hbA hal
            go_wp2_with fail
            exact ⟨⟨k + 1, hlt, by first | rw [hw3] | rw [Int.natCast_succ], HO.out⟩, by first | (rw [hw3]; exact mSucc hlt) | (rw [← Int.natCast_succ]; exact mSucc hlt)⟩
          | true =>
            have hga : AtOk W2 ga9 := by rw [← HGA.out]; exact getA_ok (fun y hy => (H0.out.1.keepY (bcall F6.out.1 (Nat.le_refl _) (bcall G.out.2.1 (Nat.le_refl _) H2.out.1))).all y hy) x.k
            have HC := Lib.hid (asame_any hga (HOK.out.a.keep H2.out.1))
            obtain ⟨bo, hbo⟩ : ∃ b, decide (ga9.at = x.a.at) = b := ⟨_, rfl⟩
            rw [hbo] at HC
            have hgt := G.out.2.2.2.1
            rw [show newQ wl x = !bo from by
              obtain ⟨t, h1, h2, -⟩ := hasY_yes HS.out
              unfold newQ
              rw [h1]
              dsimp only
              rw [← h2, HGA.out, hbo]] at hgt
            have HGT := Lib.hid hgt
            have hlt := G.out.2.2.2.2.1
            obtain ⟨d0, d1, d2, d3, d4, d5⟩ := H2.out.2.2.cells
            unfold AtV.v at HC
            clear hgt hga hbo
            go_wp2_with fail
            refine (HC.out).mono ?_
            rintro e W3 ⟨rfl, hb⟩
            have HWB := Lib.hid (bcall H2.out.1 (Nat.le_refl _) hb)
            have HBX := Lib.hid (H2.out.2.1.keep hb)
            clear hb HC c0 c1 c2 c3 c4 c5 c6 c7 d0 d1 d2 d3 d4 d5
            cases bo with
            | true =>
              have hgt := HGT.out
              simp only [Bool.not_true, Bool.false_eq_true, if_false, List.append_nil] at hgt
              have hfin := G.out.1.below HWB.out
              rw [HN1.out, ← hgt] at hfin
              have HFIN := Lib.hid hfin
              clear hgt hfin
              go_wp2_with fail
              exact ⟨⟨k + 1, hlt, by first | rw [hw3] | rw [Int.natCast_succ], HFIN.out, bcall G.out.2.1 (Nat.le_refl _) HWB.out⟩, by first | (rw [hw3]; exact mSucc hlt) | (rw [← Int.natCast_succ]; exact mSucc hlt)⟩
            | false =>
              have hgt := HGT.out
              simp only [Bool.not_false, if_true] at hgt
              have HGT2 := Lib.hid hgt
              obtain ⟨c0, c1, c2, c3, c4, c5, c6, c7⟩ := HBX.out.cells
              clear hgt
              go_wp2_with (at_builtin; refine halt ?_)
              refine Halted.go ?_
              clear c0 c1 c2 c3 c4 c5 c6 c7
              have hal := (Below.refl W3.heap.size W3).alloc (Nat.le_refl _) (.cells #[.int .u32 (x.k.1 : Int), .int .i64 x.k.2, .int .i64 x.a.o, .slice x.a.p.a x.a.p.n x.a.p.c, .int .u32 x.a.nx, .int .i64 x.a.md, .int .i64 x.a.pf, .slice x.a.c.a x.a.c.n x.a.c.c] 88)
              have hbA : Below W5.heap.size W5 (W3.alloc (.cells #[.int .u32 (x.k.1 : Int), .int .i64 x.k.2, .int .i64 x.a.o, .slice x.a.p.a x.a.p.n x.a.p.c, .int .u32 x.a.nx, .int .i64 x.a.md, .int .i64 x.a.pf, .slice x.a.c.a x.a.c.n x.a.c.c] 88)) := bcall HWB.out (Nat.le_refl _) hal
              have hwN := G.out.1.below hbA
              rw [HN1.out] at hwN
              refine Rep.append_list TSy rfl _ _ rfl rfl hwN rfl (Rep.sl_one (R := RSy) (y := x) (hnew _ _)) (fun h => by cases h) (by have := G.out.2.2.1; unfold maxLen; omega) (by have := G.out.2.2.1; omega) (Nat.le_trans G.out.2.1.size hbA.size) ?_
              intro v9 V9 hown9 hb9 _
              obtain ⟨a9, c9, rfl, -, -⟩ := hown9.sl0
              rw [← HGT2.out] at hown9 ⊢
              have HO := Lib.hid (And.intro hown9 ((bcall G.out.2.1 (Nat.le_refl _) hbA).trans hb9))
              generalize (newV wl (bl.take (k + 1))).length = n9 at *
              clear hwN hown9 hb9 hbA hal
              go_wp2_with fail
              exact ⟨⟨k + 1, hlt, by first | rw [hw3] | rw [Int.natCast_succ], HO.out⟩, by first | (rw [hw3]; exact mSucc hlt) | (rw [← Int.natCast_succ]; exact mSucc hlt)⟩
        · obtain rfl : k = nb := by omega
          have hil : ((k : Int) < (k : Int)) = False := by simp
          have hown2 := hown
          rw [F6.out.2.2.2.2.2, List.take_length] at hown2
          have hge : (newV wl (bl.take k)).length = (newV wl bl).length := by rw [F6.out.2.2.2.2.2, List.take_length]
          rw [hge]
          obtain ⟨⟨na2, nn, nc2, nl⟩, e2, hn1, hn2, -, -⟩ := Own_slok (ok := SyOk) hown2 (fun t ht => (F6.out.2.2.2.1.keepY hb).all t (List.mem_filter.1 ht).1)
          dsimp only at e2 hn1
          rw [e2]
          have hg1 := F5.out.2.2.2
          have hmemA : ∀ s ∈ al, s ∈ wl := fun s hs => (sortK_perm wl).mem_iff.1 (by rw [← F.out.2.2.2.2.1]; exact hs)
          have hmemB : ∀ s ∈ bl, s ∈ il := fun s hs => (sortK_perm il).mem_iff.1 (by rw [← F6.out.2.2.2.2.1]; exact hs)
          have hokA : ∀ s ∈ al, okS four s = true := fun s hs => H0.out.2.2.1.1 s (hmemA s hs)
          have hokB : ∀ s ∈ bl, okS four s = true := fun s hs => H0.out.2.2.2.1.1 s (hmemB s hs)
          have hlowB : ∀ s ∈ bl, LowA w.heap.size s.a := fun s hs => (H0.out.2.1.all s (hmemB s hs)).a.low
          have hgl : gl.length ≤ al.length := by rw [hg1]; exact goV_len il al
          have hnl : nl.length ≤ bl.length := by rw [hn1]; exact newV_len wl bl
          have hgn : gn ≤ 16384 := by
            have h1 : gn = gl.length := F5.out.2.2.1.sl.len
            have h4 := F.out.2.2.2.2.2
            omega
          have hnn : nn ≤ 16384 := by
            have h1 : nn = nl.length := hn2.sl.len
            have h4 := F6.out.2.2.2.2.2
            omega
          have HG := Lib.hid (dgone_any (F6.out.2.2.1.keepN hb) (fun n hn => by
            rw [hg1] at hn
            obtain ⟨t, ht, rfl⟩ := List.mem_map.1 hn
            exact okN_of (hokA t (List.mem_filter.1 ht).1)) (by omega) four)
          have HQ := Lib.hid (And.intro hn2 (And.intro (fun s (hs : s ∈ nl) => hlowB s (List.mem_filter.1 (by rw [hn1] at hs; exact hs)).1) (And.intro (fun s (hs : s ∈ nl) => hokB s (List.mem_filter.1 (by rw [hn1] at hs; exact hs)).1) (And.intro hnn (And.intro (bcall F6.out.1 (Nat.le_refl _) hb) (And.intro hgn (And.intro hn1 (And.intro (show gl.length ≤ 16384 from by have h4 := F.out.2.2.2.2.2; omega) (show nl.length ≤ 16384 from by have h4 := F6.out.2.2.2.2.2; omega)))))))))
          clear hown hown2 hge hb e2 hn2 hokA hokB hlowB hgn hnn hg1 hn1 hmemA hmemB hgl hnl hk hlt
          go_wp2_with fail
          refine (HG.out).mono ?_
          rintro e W6 ⟨v6, M1, rfl, ho6, hm6, hb6⟩
          obtain ⟨o6, k6, rfl, -, -⟩ := ho6.own.sl0
          have HC := Lib.hid (dcome_any (HQ.out.1.keepY hb6) HQ.out.2.1 HQ.out.2.2.1 (by have := HQ.out.2.2.2.1; omega))
          have F7 := Lib.hid (And.intro ho6 (And.intro hm6 hb6))
          obtain ⟨m6, hm6e⟩ : ∃ m6, M1.length = m6 := ⟨_, rfl⟩
          rw [hm6e] at F7 ⊢
          have HM6 := Lib.hid hm6e
          clear ho6 hm6 hb6 HG hm6e
          go_wp2_with fail
          refine (HC.out).mono ?_
          rintro e W7 ⟨v7, M2, rfl, ho7, hm7, hap, hb7⟩
          obtain ⟨⟨o7, k7, c7, l7⟩, rfl, hl7, hs7, -, -⟩ := ho7.slok
          dsimp only at hl7
          subst hl7
          have F8 := Lib.hid (And.intro hm7 (And.intro hap (And.intro hb7 hs7)))
          clear ho7 hm7 hap hb7 hs7 HC
          go_wp2_with (at_builtin; refine halt ?_)
          refine Halted.go ?_
          have hl1 : M1.length ≤ 16384 := by
            have h1 := congrArg List.length F7.out.2.1
            rw [List.length_map] at h1
            have h2 := goneI_len gl
            have h3 := HQ.out.2.2.2.2.2.2.2.1
            omega
          have hl2 : l7.length ≤ 16384 := by
            have h1 := congrArg List.length F8.out.1
            rw [List.length_map] at h1
            have h2 := comeI_len four nl HQ.out.2.2.1
            have h3 := HQ.out.2.2.2.2.2.2.2.2
            omega
          have hk7 : k7 = l7.length := F8.out.2.2.2.sl.len
          have hbs := HQ.out.2.2.2.2.1
          refine Rep.append_listP TUp rfl _ _ rfl rfl (F7.out.1.below F8.out.2.2.1) rfl F8.out.2.2.2.sl F8.out.2.2.2.nil (fun y hy => (F8.out.2.1 y hy).firm (fun g hg => ?_) (F8.out.2.2.2.all y hy)) (by unfold maxLen; omega) (by omega) (Nat.le_trans F7.out.2.2.size F8.out.2.2.1.size) ?_
          · have := World.ownsRow.lt F7.out.1.own g hg
            exact ⟨Nat.le_trans hbs.size this.1, this.2⟩
          intro v8 W8 hown8 hb8
          have hb68 : Below w.heap.size w W8 := (bcall (bcall hbs (Nat.le_refl _) F7.out.2.2) (Nat.le_refl _) F8.out.2.2.1).trans (hb8.mono hbs.size)
          have HFin := Lib.hid (And.intro (hown8.mono hbs.size) (And.intro (show (M1 ++ l7).map UpV.up = upsI szN (asz four) (wl.map SyV.sy) (il.map SyV.sy) from by
            have hg := goV_is' wl il
            have hn := newV_is' wl il
            rw [← F.out.2.2.2.2.1, ← F5.out.2.2.2] at hg
            rw [← F6.out.2.2.2.2.1, ← HQ.out.2.2.2.2.2.2.1] at hn
            rw [List.map_append, F7.out.2.1, F8.out.1]
            unfold upsI
            rw [← hg, ← hn, List.length_map]) hb68))
          obtain ⟨o8, k8, rfl, -, -⟩ := hown8.own.sl0
          obtain ⟨m8, hm8⟩ : ∃ m8, (M1 ++ l7).length = m8 := ⟨_, rfl⟩
          rw [hm8] at HFin ⊢
          clear hown8 hb8 hb68 hl1 hl2 hk7 hm8 hbs
          go_wp2_with fail
          go_ret2
          first | exact ⟨_, _, rfl, HFin.out⟩ | exact ⟨_, rfl, _, HFin.out⟩
end Go.Proofs.YtadoflcomienoaaGreat
