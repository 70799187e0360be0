/- The reference: others. -/
import Derived.Test.YtadoflcomienoaaGreatZba
import Derived.Test.YtadoflcomienoaaGreatZaw
import Derived.Test.YtadoflcomienoaaGreatZao
namespace Go.Proofs.YtadoflcomienoaaGreat.Rr
open Go.RowKit

def nl0 (k : PK) : Nl := ⟨0, k.1, k.2⟩
def rtsL (L : List RtV) (k : PK) : List Rt := (L.filter fun x => decide (x.k = k)).map RtV.rt
def difB (L M : List RtV) (k : PK) : Bool := !decide (rtsL L k = rtsL M k)
structure ChgL (L M : List RtV) (out : List PK) : Prop where
  ord : Kl.Ordered ltK out
  is : ∀ k, k ∈ out ↔ rtsL L k ≠ rtsL M k
theorem take_map_succ {α β : Type} [Inhabited α] (f : α → β) (l : List α) (i : Nat) (h : i < l.length) : (l.take (i + 1)).map f = (l.take i).map f ++ [f (l.getD i default)] := by
  rw [List.take_succ_eq_append_getElem h, List.map_append, List.getD_eq_getElem?_getD, List.getElem?_eq_getElem h]
  rfl
theorem chgL_of {L M : List RtV} {A B : List PK} (hA : PfxL L A) (hB : PfxL M B) : ChgL L M (((sortN (A.map nl0 ++ B.map nl0)).filter fun n => difB L M n.key).map Nl.key) := by
  obtain ⟨h1, h2, -⟩ := sortN_spec (A.map nl0 ++ B.map nl0)
  have hid : ∀ n ∈ sortN (A.map nl0 ++ B.map nl0), n.id = 0 := fun n hn => by
    rw [h2, List.mem_append, List.mem_map, List.mem_map] at hn
    rcases hn with ⟨k, -, rfl⟩ | ⟨k, -, rfl⟩ <;> rfl
  constructor
  · unfold Kl.Ordered
    rw [List.pairwise_map]
    refine List.Pairwise.imp_of_mem (fun {x y} hx hy hxy => ?_) (List.Pairwise.sublist List.filter_sublist h1)
    have h3 := hid x (List.mem_filter.1 hx).1
    have h4 := hid y (List.mem_filter.1 hy).1
    rw [ltN_iff] at hxy
    rw [ltK_iff]
    unfold Nl.key
    dsimp only
    omega
  · intro k
    have hdif : difB L M k = true ↔ rtsL L k ≠ rtsL M k := by unfold difB; simp
    rw [← hdif, List.mem_map]
    constructor
    · rintro ⟨n, hn, rfl⟩; exact (List.mem_filter.1 hn).2
    · intro hd
      have hk : k ∈ A ∨ k ∈ B := by
        refine Classical.byContradiction fun hno => ?_
        rw [not_or, hA.is, hB.is] at hno
        refine hdif.1 hd ?_
        unfold rtsL
        rw [List.filter_eq_nil_iff.2 fun x hx => by rw [decide_eq_true_eq]; exact fun e => hno.1 ⟨x, hx, e⟩, List.filter_eq_nil_iff.2 fun x hx => by rw [decide_eq_true_eq]; exact fun e => hno.2 ⟨x, hx, e⟩]
      refine ⟨nl0 k, List.mem_filter.2 ⟨?_, hd⟩, rfl⟩
      rw [h2, List.mem_append, List.mem_map, List.mem_map]
      exact hk.imp (fun h => ⟨k, h, rfl⟩) fun h => ⟨k, h, rfl⟩
theorem RefOk.chg {L M : List RtV} {S S' : List Rt} {out : List PK} (h : RefOk L S') (hS : ROk S') (h' : RefOk M S) (hS' : ROk S) (hc : ChgL L M out) : Chg S S' out := by
  refine ⟨hc.ord, fun k => ?_⟩
  rw [hc.is, show rtsL L k = _ from h.routes hS k, show rtsL M k = _ from h'.routes hS' k]
  exact ne_comm
theorem at_rangeN {W : World} {b o : Nat} {z : Nl} (h : RNl.At W b o z) : W.rangeAt b (o + 1) (#[.int .u32 (z.a : Int), .int .i64 z.ln] : Array Value).toList := by
  intro j v hv
  have hj : j < 2 := (List.getElem?_eq_some_iff.1 hv).1
  have h1 := h (1 + j) (show 1 + j < 3 by omega)
  rw [← Nat.add_assoc] at h1
  refine h1.trans ?_
  rw [← hv]
  match j, hj with
  | 0, _ => rfl
  | 1, _ => rfl
theorem nl_keep {W W' : World} {b o : Nat} {z : Nl} (h : RNl.At W b o z) (hb : Below W.heap.size W W') : RNl.At W' b o z := fun j hj =>
  (hb.cell (World.block_lt_of_cell? _ _ (by rw [h j hj, List.getElem?_eq_getElem (by rw [RNl.len]; exact hj)]))).trans (h j hj)
set_option maxRecDepth 100000 in
set_option maxHeartbeats 16000000 in
theorem xothers_any {w : World} {q q2 : Nat} {asn room rf as2 ro2 rf2 : Int} {s s2 : SlV RtV} (H : RefX w q asn room rf s) (H2 : RefX w q2 as2 ro2 rf2 s2) (ho : Ord s.l) (ho2 : Ord s2.l) (hn : s.n ≤ 8000 ∧ s2.n ≤ 8000) : Calls Tryz.prog 116 #[.pointer (some ⟨q, 0, none⟩), .pointer (some ⟨q2, 0, none⟩)] w fun e w' => ∃ v out, e = .returned v ∧ RPk.Own w' w.heap.size v out ∧ ChgL s.l s2.l out ∧ Below w.heap.size w w' := by
  have HP1 := Lib.hid (xprefixes_any H ho (by omega))
  have H1 := Lib.hid (And.intro H (And.intro H2 (And.intro ho (And.intro ho2 hn))))
  clear H H2 ho ho2 hn
  go_enter Tryz.func116, Tryz.ntmps116
  go_wp2_with fail
  refine (HP1.out).mono ?_
  rintro e W1 ⟨v, A, rfl, hownA, hpA, hb⟩
  obtain ⟨⟨pa, pn, pc, pl⟩, rfl, hpl, hp1, -, -⟩ := Own_slok (ok := okT) hownA (fun _ _ => trivial)
  dsimp only at hpl
  subst hpl
  have HP2 := Lib.hid (xprefixes_any (H1.out.2.1.keep hb) H1.out.2.2.2.1 (by have := H1.out.2.2.2.2; omega))
  have G1 := Lib.hid (And.intro hb (And.intro hp1 hpA))
  clear hownA hpA hb hp1 HP1
  go_wp2_with fail
  refine (HP2.out).mono ?_
  rintro e W2 ⟨v, B, rfl, hownB, hpB, hb⟩
  obtain ⟨⟨ua, un, uc, ul⟩, rfl, hul, hu1, -, -⟩ := Own_slok (ok := okT) hownB (fun _ _ => trivial)
  dsimp only at hul
  subst hul
  have G2 := Lib.hid (And.intro (bcall G1.out.1 (Nat.le_refl _) hb) (And.intro (G1.out.2.1.keep hb fun _ _ _ => trivial) (And.intro hu1 (And.intro G1.out.2.2 hpB))))
  have HAB := Lib.hid (show pl.length ≤ 8000 ∧ ul.length ≤ 8000 by
    have h1 := G1.out.2.2.len
    have h2 := hpB.len
    have h3 : s.n = s.l.length := H1.out.1.sl.sl.len
    have h4 : s2.n = s2.l.length := H1.out.2.1.sl.sl.len
    have h5 := H1.out.2.2.2.2
    omega)
  clear hownB hpB hb hu1 HP2 G1
  go_wp2_with fail
  go_loopw [5, 8] (fun ov iv wr => ∃ i : Nat, i ≤ pn ∧ iv = .int .i64 i ∧ RNl.Own wr W2.heap.size ov ((pl.take i).map nl0) ∧ Below W2.heap.size W2 wr) (fun _ iv _ => pn - (intOf iv).toNat)
  case atStart => exact ⟨0, Nat.zero_le _, rfl, Rep.Own.nil _ _, Below.refl _ _⟩
  case round =>
    obtain ⟨i, hi, rfl, hown, hb⟩ := hrel
    obtain ⟨w2, rfl⟩ : ∃ w2 : World, w2 = wr := ⟨_, rfl⟩
    obtain ⟨oo, oc, rfl, -, -⟩ := hown.sl0
    by_cases hlt : i < pn
    · have hil : ((i : Int) < (pn : Int)) = True := by simp; omega
      have hi0 : ((0 : Int) ≤ (i : Int)) = True := by simp
      have hw3 := wrapS hlt G2.out.2.1.sl.max
      have hiL : i < pl.length := by have := G2.out.2.1.sl.len; dsimp only at this; omega
      obtain ⟨b0, o0, ea, hbb, hat⟩ := (G2.out.2.1.keep hb fun _ _ _ => trivial).sl.at hlt
      dsimp only at ea hat
      subst ea
      have htk := take_map_succ nl0 pl i hiL
      have d0 := hat 0 (by decide)
      have d1 := hat 1 (by decide)
      simp only [RPk, Nat.add_zero, List.getElem?_cons_zero, List.getElem?_cons_succ] at d0 d1
      generalize pl.getD i default = k at *
      obtain ⟨L0, hL0⟩ : ∃ L0, (pl.take i).map nl0 = L0 := ⟨_, rfl⟩
      have hl0 : L0.length ≤ 16000 := by
        rw [← hL0]
        simp only [List.length_map, List.length_take]
        have h1 := HAB.out
        omega
      have htk2 : (pl.take (i + 1)).map nl0 = L0 ++ [nl0 k] := by rw [htk, ← hL0] <;> simp
      rw [hL0] at hown ⊢
      obtain ⟨l0, hln⟩ : ∃ z, L0.length = z := ⟨_, rfl⟩
      rw [hln] at hown hl0 ⊢
      have G := Lib.hid (And.intro hown (And.intro hb (And.intro htk2 (And.intro hln hl0))))
      clear hown hb htk htk2 hL0 hl0 hln hat hbb hiL
      go_wp2_with (at_builtin; refine halt ?_)
      refine Halted.go ?_
      clear d0 d1
      have hal := (Below.refl w2.heap.size w2).alloc (Nat.le_refl _) (.cells #[.int .i64 0, .int .u32 (k.1 : Int), .int .i64 k.2] 60)
      have hl := G.out.2.2.2.1
      have hl2 := G.out.2.2.2.2
      refine Rep.append_list TNl rfl _ _ rfl rfl (G.out.1.below hal) rfl (Rep.sl_one (R := RNl) (y := nl0 k) (hnew _ _)) (fun h => by cases h) (by rw [hl]; unfold maxLen; omega) (by rw [hl]; omega) (Nat.le_trans G.out.2.1.size hal.size) ?_
      intro v9 w9 hown9 hb9 _
      obtain ⟨o9, c9, rfl, -, -⟩ := hown9.sl0
      obtain ⟨l9, hl9⟩ : ∃ z, (L0 ++ [nl0 k]).length = z := ⟨_, rfl⟩
      rw [hl9] at hown9 ⊢
      have HK := Lib.hid (And.intro hown9 (And.intro ((bcall G.out.2.1 (Nat.le_refl _) hal).trans hb9) hl9))
      clear hown9 hb9 hal hl9 hl hl2
      go_wp2_with fail
      refine ⟨⟨i + 1, hlt, by first | rw [hw3] | rw [Int.natCast_succ], ?_, HK.out.2.1⟩, by first | (rw [hw3]; exact mSucc hlt) | (rw [← Int.natCast_succ]; exact mSucc hlt)⟩
      rw [G.out.2.2.1]
      have h1 := HK.out.1
      rw [← HK.out.2.2] at h1 ⊢
      exact h1
    · obtain rfl : pn = i := by omega
      have hil : ((pn : Int) < (pn : Int)) = False := by simp
      have htk : pl.take pn = pl := List.take_of_length_le (by have := G2.out.2.1.sl.len; dsimp only at this; omega)
      rw [htk] at hown ⊢
      obtain ⟨L1, hL1⟩ : ∃ L, pl.map nl0 = L := ⟨_, rfl⟩
      rw [hL1] at hown ⊢
      obtain ⟨n1, hn1⟩ : ∃ z, L1.length = z := ⟨_, rfl⟩
      rw [hn1] at hown ⊢
      have K1 := Lib.hid (And.intro hown (And.intro hb (And.intro hL1 hn1)))
      clear hown hb htk hi hL1 hn1
      go_wp2_with fail
      go_loopw [5, 9] (fun ov iv wr => ∃ i : Nat, i ≤ un ∧ iv = .int .i64 i ∧ RNl.Own wr W2.heap.size ov (pl.map nl0 ++ (ul.take i).map nl0) ∧ Below W2.heap.size W2 wr) (fun _ iv _ => un - (intOf iv).toNat)
      case atStart => exact ⟨0, Nat.zero_le _, rfl, by rw [List.take_zero, List.map_nil, List.append_nil, K1.out.2.2.1]; have h1 := K1.out.1; rw [← K1.out.2.2.2] at h1 ⊢; exact h1, K1.out.2.1⟩
      case round =>
        obtain ⟨i, hi, rfl, hown, hb⟩ := hrel
        obtain ⟨w2, rfl⟩ : ∃ w2 : World, w2 = wr := ⟨_, rfl⟩
        obtain ⟨oo, oc, rfl, -, -⟩ := hown.sl0
        by_cases hlt : i < un
        · have hil : ((i : Int) < (un : Int)) = True := by simp; omega
          have hi0 : ((0 : Int) ≤ (i : Int)) = True := by simp
          have hw3 := wrapS hlt G2.out.2.2.1.sl.max
          have hiL : i < ul.length := by have := G2.out.2.2.1.sl.len; dsimp only at this; omega
          obtain ⟨b0, o0, ea, hbb, hat⟩ := (G2.out.2.2.1.keep hb fun _ _ _ => trivial).sl.at hlt
          dsimp only at ea hat
          subst ea
          have htk := take_map_succ nl0 ul i hiL
          have d0 := hat 0 (by decide)
          have d1 := hat 1 (by decide)
          simp only [RPk, Nat.add_zero, List.getElem?_cons_zero, List.getElem?_cons_succ] at d0 d1
          generalize ul.getD i default = k at *
          obtain ⟨L0, hL0⟩ : ∃ L0, pl.map nl0 ++ (ul.take i).map nl0 = L0 := ⟨_, rfl⟩
          have hl0 : L0.length ≤ 16000 := by
            rw [← hL0]
            simp only [List.length_append, List.length_map, List.length_take]
            have h1 := HAB.out
            omega
          have htk2 : pl.map nl0 ++ (ul.take (i + 1)).map nl0 = L0 ++ [nl0 k] := by rw [htk, ← hL0] <;> simp
          rw [hL0] at hown ⊢
          obtain ⟨l0, hln⟩ : ∃ z, L0.length = z := ⟨_, rfl⟩
          rw [hln] at hown hl0 ⊢
          have G := Lib.hid (And.intro hown (And.intro hb (And.intro htk2 (And.intro hln hl0))))
          clear hown hb htk htk2 hL0 hl0 hln hat hbb hiL
          go_wp2_with (at_builtin; refine halt ?_)
          refine Halted.go ?_
          clear d0 d1
          have hal := (Below.refl w2.heap.size w2).alloc (Nat.le_refl _) (.cells #[.int .i64 0, .int .u32 (k.1 : Int), .int .i64 k.2] 60)
          have hl := G.out.2.2.2.1
          have hl2 := G.out.2.2.2.2
          refine Rep.append_list TNl rfl _ _ rfl rfl (G.out.1.below hal) rfl (Rep.sl_one (R := RNl) (y := nl0 k) (hnew _ _)) (fun h => by cases h) (by rw [hl]; unfold maxLen; omega) (by rw [hl]; omega) (Nat.le_trans G.out.2.1.size hal.size) ?_
          intro v9 w9 hown9 hb9 _
          obtain ⟨o9, c9, rfl, -, -⟩ := hown9.sl0
          obtain ⟨l9, hl9⟩ : ∃ z, (L0 ++ [nl0 k]).length = z := ⟨_, rfl⟩
          rw [hl9] at hown9 ⊢
          have HK := Lib.hid (And.intro hown9 (And.intro ((bcall G.out.2.1 (Nat.le_refl _) hal).trans hb9) hl9))
          clear hown9 hb9 hal hl9 hl hl2
          go_wp2_with fail
          refine ⟨⟨i + 1, hlt, by first | rw [hw3] | rw [Int.natCast_succ], ?_, HK.out.2.1⟩, by first | (rw [hw3]; exact mSucc hlt) | (rw [← Int.natCast_succ]; exact mSucc hlt)⟩
          rw [G.out.2.2.1]
          have h1 := HK.out.1
          rw [← HK.out.2.2] at h1 ⊢
          exact h1
        · obtain rfl : un = i := by omega
          have hil : ((un : Int) < (un : Int)) = False := by simp
          have htk : ul.take un = ul := List.take_of_length_le (by have := G2.out.2.2.1.sl.len; dsimp only at this; omega)
          rw [htk] at hown ⊢
          obtain ⟨L2, hL2⟩ : ∃ L, pl.map nl0 ++ ul.map nl0 = L := ⟨_, rfl⟩
          rw [hL2] at hown ⊢
          obtain ⟨n2, hn2⟩ : ∃ z, L2.length = z := ⟨_, rfl⟩
          rw [hn2] at hown ⊢
          have K2 := Lib.hid (And.intro hown (And.intro hb (And.intro hL2 hn2)))
          clear hown hb htk hi hL2 hn2
          go_wp2_with fail
          obtain ⟨s9, e9, hl9, hs9, -, -⟩ := Own_slok (ok := NlOk) K2.out.1 (fun z hz => by
            rw [← K2.out.2.2.1, List.mem_append, List.mem_map, List.mem_map] at hz
            rcases hz with ⟨k, hk, rfl⟩ | ⟨k, hk, rfl⟩
            · obtain ⟨y, hy, rfl⟩ := (G2.out.2.2.2.1.is k).1 hk
              have h1 := (H1.out.1.sl.all y hy).k
              exact ⟨h1.a, by show I64 0; unfold I64; decide, by have h2 := okP_iff.1 h1.p; show I64 y.k.2; unfold I64; omega⟩
            · obtain ⟨y, hy, rfl⟩ := (G2.out.2.2.2.2.is k).1 hk
              have h1 := (H1.out.2.1.sl.all y hy).k
              exact ⟨h1.a, by show I64 0; unfold I64; decide, by have h2 := okP_iff.1 h1.p; show I64 y.k.2; unfold I64; omega⟩)
          injection e9 with e1 e2 e3
          obtain ⟨sa9, sn9, sc9, sl9⟩ := s9
          dsimp only at e1 e2 e3 hl9 hs9
          subst e1 e2 e3 hl9
          have hlen9 : sl9.length ≤ 16000 := by
            rw [← K2.out.2.2.1]
            simp only [List.length_append, List.length_map]
            have := HAB.out
            omega
          have HST := Lib.hid (rsort_any hs9.nls (by exact hs9.sl.len) (by show n2 ≤ 16384; have h1 : n2 = sl9.length := hs9.sl.len; omega))
          have J := Lib.hid (And.intro (G2.out.1.trans (K2.out.2.1.mono G2.out.1.size)) (And.intro K2.out.2.2.1 hlen9))
          clear hs9 hlen9 K2
          go_wp2_with fail
          refine (HST.out).mono ?_
          rintro e W5 ⟨v, rfl, hownS, hb⟩
          obtain ⟨⟨ma, mn, mc, ml⟩, rfl, hml, hm1, -, -⟩ := Own_slok (ok := okT) hownS (fun _ _ => trivial)
          dsimp only at hml
          have hspec := (sortN_spec sl9).2.2
          rw [← hml] at hspec
          have J0 := Lib.hid (And.intro (bcall J.out.1 (Nat.le_refl _) hb) (And.intro hm1 (And.intro hml (show ml.length ≤ 16000 from Nat.le_trans hspec J.out.2.2))))
          clear hownS hb hm1 hml hspec HST
          go_wp2_with fail
          go_loopw [10, 11] (fun ov iv wr => ∃ i : Nat, i ≤ mn ∧ iv = .int .i64 i ∧ RPk.Own wr W5.heap.size ov (((ml.take i).filter fun n => difB s.l s2.l n.key).map Nl.key) ∧ Below W5.heap.size W5 wr) (fun _ iv _ => mn - (intOf iv).toNat)
          case atStart => exact ⟨0, Nat.zero_le _, rfl, Rep.Own.nil _ _, Below.refl _ _⟩
          case round =>
            obtain ⟨i, hi, rfl, hown, hb⟩ := hrel
            obtain ⟨w2, rfl⟩ : ∃ w2 : World, w2 = wr := ⟨_, rfl⟩
            obtain ⟨oo, oc, rfl, -, -⟩ := hown.sl0
            by_cases hlt : i < mn
            · have hil : ((i : Int) < (mn : Int)) = True := by simp; omega
              have hi0 : ((0 : Int) ≤ (i : Int)) = True := by simp
              have hw3 := wrapS hlt J0.out.2.1.sl.max
              have hiL : i < ml.length := by have := J0.out.2.1.sl.len; dsimp only at this; omega
              have hd := (Below.refl w2.heap.size w2).drew
              have hbd := bcall hb (Nat.le_refl _) hd
              obtain ⟨b0, o0, ea, hbb, hat⟩ := (J0.out.2.1.keep hbd fun _ _ _ => trivial).sl.at hlt
              dsimp only at ea hat
              subst ea
              have hts : ((ml.take (i + 1)).filter fun n => difB s.l s2.l n.key).map Nl.key = ((ml.take i).filter fun n => difB s.l s2.l n.key).map Nl.key ++ (if difB s.l s2.l (ml.getD i default).key then [(ml.getD i default).key] else []) := by
                rw [List.take_succ_eq_append_getElem hiL, List.filter_append, List.map_append, List.getD_eq_getElem?_getD, List.getElem?_eq_getElem hiL, Option.getD_some]
                congr 1
                rw [List.filter_cons]
                split <;> simp
              obtain ⟨x, hx⟩ : ∃ x, ml.getD i default = x := ⟨_, rfl⟩
              rw [hx] at hat hts
              obtain ⟨L0, hL0⟩ : ∃ L0, ((ml.take i).filter fun n => difB s.l s2.l n.key).map Nl.key = L0 := ⟨_, rfl⟩
              have hl0 : L0.length ≤ 16000 := by
                rw [← hL0, List.length_map]
                refine Nat.le_trans (List.length_filter_le _ _) ?_
                rw [List.length_take]
                have := J0.out.2.2.2
                omega
              rw [hL0] at hown hts ⊢
              obtain ⟨l0, hln⟩ : ∃ z, L0.length = z := ⟨_, rfl⟩
              rw [hln] at hown hl0 ⊢
              have HS := Lib.hid (show RNl.At w2.drew b0 (o0 + i * 3) x from hat)
              obtain ⟨db, hdb⟩ : ∃ db, difB s.l s2.l x.key = db := ⟨_, rfl⟩
              rw [hdb] at hts
              have HDB := Lib.hid (show decide (rtsL s.l (x.a, x.ln) = rtsL s2.l (x.a, x.ln)) = !db by rw [← hdb]; unfold difB Nl.key; simp)
              have HR1 := xroutes_any (H1.out.1.keep (bcall J0.out.1 (Nat.le_refl _) hbd)) (by have := H1.out.2.2.2.2; omega) x.key
              unfold pfx Nl.key at HR1
              dsimp only at HR1
              have HR1 := Lib.hid HR1
              have G := Lib.hid (And.intro (hown.below hd) (And.intro hbd (And.intro hts (And.intro hln hl0))))
              clear hown hb hts hx hL0 hl0 hln hat hbb hiL hbd hd hdb
              go_wp2_with fail
              refine wp_region_heldP (fun W => RNl.At W b0 (o0 + i * 3) x) (by kernel_rfl) ?_
              generalize w2.drew = w3 at *
              refine held_reads [0, 1, 2, 3, 4, 5, 7, 8, 9, 10, 11, 12] (g := 4) rfl (by kernel_rfl) HS.out (fun _ _ d _ _ h => by cases d <;> exact h) ?_
              simp only [pick, List.getD_cons_zero, List.getD_cons_succ]
              iterate 5 ((with_reducible refine wpRead_step (fun K hK => ?_)); go_simp; first | (rw [if_neg (by decide)]; (with_reducible refine hK _ ?_); clear hK K) | ((with_reducible refine hK _ ?_); clear hK K) | (apply Exists.intro; (with_reducible refine ⟨fun w' hw' => ?_, hK _ ?_⟩); ((go_simp; first | exact rfl | exact ⟨rfl, rfl⟩)); clear hK K))
              with_reducible refine wpRead_yes ?_ ?_
              rotate_left
              rfl
              intro K hK
              refine read_load 58 _ rfl b0 (o0 + i * 3 + 1) #[.int .u32 (x.a : Int), .int .i64 x.ln] rfl (fun w' hw' => at_rangeN hw') Tryz.underlying58 rfl (by kernel_rfl) (hK _ ?_)
              clear hK K
              iterate 5 ((with_reducible refine wpRead_step (fun K hK => ?_)); go_simp; first | (rw [if_neg (by decide)]; (with_reducible refine hK _ ?_); clear hK K) | ((with_reducible refine hK _ ?_); clear hK K) | (apply Exists.intro; (with_reducible refine ⟨fun w' hw' => ?_, hK _ ?_⟩); ((go_simp; first | exact rfl | exact ⟨rfl, rfl⟩)); clear hK K))
              with_reducible refine wpRead_yes ?_ ?_
              rotate_left
              rfl
              intro K hK
              refine read_load 58 _ rfl b0 (o0 + i * 3 + 1) #[.int .u32 (x.a : Int), .int .i64 x.ln] rfl (fun w' hw' => at_rangeN hw') Tryz.underlying58 rfl (by kernel_rfl) (hK _ ?_)
              clear hK K
              with_reducible refine wpRead_nil ?_
              refine held_one 6 (by kernel_rfl) ?_
              simp only [pick, List.getD_cons_zero, List.getD_cons_succ]
              go_wp2_with fail
              refine (HR1.out).mono ?_
              rintro e w4 ⟨v, rfl, hown1, hb⟩
              obtain ⟨⟨sa, sn, sc, sl⟩, rfl, hsl1, hs1, -, -⟩ := Own_slok (ok := RtOk) hown1 (fun z hz => (H1.out.1.sl.all z (List.mem_filter.1 hz).1).keep ((bcall J0.out.1 (Nat.le_refl _) (bcall G.out.2.1 (Nat.le_refl _) hb))))
              dsimp only at hsl1
              subst hsl1
              have HR2 := xroutes_any (H1.out.2.1.keep (bcall J0.out.1 (Nat.le_refl _) (bcall G.out.2.1 (Nat.le_refl _) hb))) (by have := H1.out.2.2.2.2.2; omega) x.key
              unfold pfx Nl.key at HR2
              dsimp only at HR2
              have HR2 := Lib.hid HR2
              have G4 := Lib.hid (And.intro (G.out.1.below hb) (And.intro (bcall G.out.2.1 (Nat.le_refl _) hb) hs1))
              have HS4 := Lib.hid (nl_keep HS.out hb)
              clear hs1 hown1 hb HR1 HS
              go_wp2_with fail
              refine ⟨HS4.out, ?_⟩
              refine held_one 13 (by kernel_rfl) ?_
              simp only [pick, List.getD_cons_zero, List.getD_cons_succ]
              go_wp2_with fail
              refine (HR2.out).mono ?_
              rintro e w5 ⟨v, rfl, hown1, hb⟩
              obtain ⟨⟨ta, tn, tc, tl⟩, rfl, hsl1, hs1, -, -⟩ := Own_slok (ok := RtOk) hown1 (fun z hz => (H1.out.2.1.sl.all z (List.mem_filter.1 hz).1).keep (bcall J0.out.1 (Nat.le_refl _) (bcall G4.out.2.1 (Nat.le_refl _) hb)))
              dsimp only at hsl1
              subst hsl1
              have HSS := srsame_any (G4.out.2.2.keep hb fun _ _ h => h.keep hb) hs1
              have HSB := HDB.out
              rw [show decide (((s.l.filter fun y => decide (y.k = (x.a, x.ln))).map RtV.rt) = ((s2.l.filter fun y => decide (y.k = (x.a, x.ln))).map RtV.rt)) = !db from HSB] at HSS
              have HSS := Lib.hid HSS
              have G5 := Lib.hid (And.intro (G4.out.1.below hb) (bcall G4.out.2.1 (Nat.le_refl _) hb))
              have HS5 := Lib.hid (nl_keep HS4.out hb)
              clear hs1 hown1 hb HR2 HS4 G4 HSB
              go_wp2_with fail
              refine ⟨HS5.out, ?_⟩
              refine held_one 14 (by kernel_rfl) ?_
              simp only [pick, List.getD_cons_zero, List.getD_cons_succ]
              go_wp2_with fail
              refine (HSS.out).mono ?_
              rintro e w6 ⟨rfl, hb⟩
              have G6 := Lib.hid (And.intro (G5.out.1.below hb) (bcall G5.out.2 (Nat.le_refl _) hb))
              have HS6 := Lib.hid (nl_keep HS5.out hb)
              clear hb HSS HS5 G5
              go_wp2_with fail
              refine ⟨HS6.out, ?_⟩
              cases db with
              | true =>
                refine held_reads [15] (g := 0) rfl (by kernel_rfl) HS6.out (fun _ _ d _ _ h => by cases d <;> exact h) ?_
                simp only [pick, List.getD_cons_zero, List.getD_cons_succ]
                ((with_reducible refine wpRead_step (fun K hK => ?_)); go_simp; first | ((with_reducible refine hK _ ?_); clear hK K) | (apply Exists.intro; (with_reducible refine ⟨fun w' hw' => ?_, hK _ ?_⟩); (first | exact rfl | exact ⟨rfl, rfl⟩); clear hK K))
                with_reducible refine wpRead_nil ?_
                refine wpAnyH_done (by kernel_rfl) ?_ _
                have d1 := HS6.out 1 (by decide)
                have d2 := HS6.out 2 (by decide)
                simp only [RNl, List.getElem?_cons_zero, List.getElem?_cons_succ] at d1 d2
                go_wp2_with (at_builtin; refine halt ?_)
                refine Halted.go ?_
                clear d1 d2
                have hal := (Below.refl w6.heap.size w6).alloc (Nat.le_refl _) (.cells #[.int .u32 (x.key.1 : Int), .int .i64 x.key.2] 58)
                have hl := G.out.2.2.2.1
                have hl2 := G.out.2.2.2.2
                refine Rep.append_list TPk rfl _ _ rfl rfl (G6.out.1.below hal) rfl (Rep.sl_one (R := RPk) (y := x.key) (hnew _ _)) (fun h => by cases h) (by rw [hl]; unfold maxLen; omega) (by rw [hl]; omega) (Nat.le_trans G6.out.2.size hal.size) ?_
                intro v9 w9 hown9 hb9 _
                obtain ⟨o9, c9, rfl, -, -⟩ := hown9.sl0
                obtain ⟨l9, hl9⟩ : ∃ z, (L0 ++ [x.key]).length = z := ⟨_, rfl⟩
                rw [hl9] at hown9 ⊢
                have HK := Lib.hid (And.intro hown9 (And.intro ((bcall G6.out.2 (Nat.le_refl _) hal).trans hb9) hl9))
                clear hown9 hb9 hal hl9 hl hl2
                go_wp2_with fail
                refine ⟨⟨i + 1, hlt, by first | rw [hw3] | rw [Int.natCast_succ], ?_, HK.out.2.1⟩, by first | (rw [hw3]; exact mSucc hlt) | (rw [← Int.natCast_succ]; exact mSucc hlt)⟩
                rw [G.out.2.2.1]
                simp only [↓reduceIte]
                have h1 := HK.out.1
                rw [← HK.out.2.2] at h1 ⊢
                exact h1
              | false =>
                refine held_reads [15] (g := 0) rfl (by kernel_rfl) HS6.out (fun _ _ d _ _ h => by cases d <;> exact h) ?_
                simp only [pick, List.getD_cons_zero, List.getD_cons_succ]
                ((with_reducible refine wpRead_step (fun K hK => ?_)); go_simp; first | ((with_reducible refine hK _ ?_); clear hK K) | (apply Exists.intro; (with_reducible refine ⟨fun w' hw' => ?_, hK _ ?_⟩); (first | exact rfl | exact ⟨rfl, rfl⟩); clear hK K))
                with_reducible refine wpRead_nil ?_
                refine wpAnyH_done (by kernel_rfl) ?_ _
                go_wp2_with fail
                refine ⟨⟨i + 1, hlt, by first | rw [hw3] | rw [Int.natCast_succ], ?_, G6.out.2⟩, by first | (rw [hw3]; exact mSucc hlt) | (rw [← Int.natCast_succ]; exact mSucc hlt)⟩
                rw [G.out.2.2.1, if_neg (by simp), List.append_nil, ← G.out.2.2.2.1]
                have h1 := G6.out.1
                rw [← G.out.2.2.2.1] at h1
                exact h1
            · obtain rfl : mn = i := by omega
              have hil : ((mn : Int) < (mn : Int)) = False := by simp
              have htk : ml.take mn = ml := List.take_of_length_le (by have := J0.out.2.1.sl.len; dsimp only at this; omega)
              rw [htk] at hown ⊢
              have HB := Lib.hid (And.intro (hown.mono J0.out.1.size) (bcall J0.out.1 (Nat.le_refl _) hb))
              clear hown hb htk
              go_wp2_with fail
              go_ret
              refine ⟨_, _, rfl, HB.out.1, ?_, HB.out.2⟩
              rw [J0.out.2.2.1, ← J.out.2.1]
              exact chgL_of G2.out.2.2.2.1 G2.out.2.2.2.2
end Go.Proofs.YtadoflcomienoaaGreat.Rr
/- The reference: Flush. -/
namespace Go.Proofs.YtadoflcomienoaaGreat.Rr
open Go.RowKit

theorem at_rangeRt {W : World} {b o : Nat} {z : RtV} (h : RRt.At W b o z) : W.rangeAt b o (#[.int .i64 z.r, .int .u32 (z.k.1 : Int), .int .i64 z.k.2, .int .i64 z.i, .int .i64 z.a.o, .slice z.a.p.a z.a.p.n z.a.p.c, .int .u32 z.a.nx, .int .i64 z.a.md, .int .i64 z.a.pf, .slice z.a.c.a z.a.c.n z.a.c.c] : Array Value).toList := by
  intro j v hv
  have hj : j < 10 := (List.getElem?_eq_some_iff.1 hv).1
  exact (h j hj).trans hv
def notRx (r : Int) (x : RtV) : Bool := decide (x.r ≠ r)
theorem rt_lt {W : World} {b o : Nat} {z : RtV} (h : RRt.At W b o z) : b < W.heap.size :=
  by
    have h1 := h 0 (by decide)
    rw [List.getElem?_eq_getElem (by rw [RRt.len]; decide)] at h1
    exact World.block_lt_of_cell? _ _ h1
theorem But.thenB {w0 w w' : World} {q : Nat} (h : But w0 w [q]) (hb : Below w0.heap.size w w') : But w0 w' [q] :=
  ⟨hb.os.trans h.os, hb.tape.trans h.tape, hb.output.trans h.output, Nat.le_trans h.size hb.size, fun k hk hn => (hb.block k hk).trans (h.block k hk hn)⟩
/-- where the reference's table and what it was stand, and one of its routes -/
structure FlS (q q6 b0 o0 : Nat) (asn room rf : Int) (v : Value) (s : SlV RtV) (y : RtV) (W : World) : Prop where
  a : W.heap[q]? = some (.cells #[v, .int .i64 asn, .int .i64 room, .int .i64 rf] 122)
  b : W.heap[q6]? = some (.cells #[.slice s.a s.n s.c, .int .i64 0, .int .i64 0, .int .i64 0] 122)
  e : RRt.At W b0 o0 y
theorem FlS.below {q q6 b0 o0 : Nat} {asn room rf : Int} {v : Value} {s : SlV RtV} {y : RtV} {W W' : World} {B : Nat} (h : FlS q q6 b0 o0 asn room rf v s y W) (hb : Below B W W') (hB : q < B ∧ q6 < B ∧ b0 < B) : FlS q q6 b0 o0 asn room rf v s y W' :=
  ⟨(hb.block _ hB.1).trans h.a, (hb.block _ hB.2.1).trans h.b, h.e.keep (hb.block _ hB.2.2)⟩
def FlushQ (F : Nat → Prop) (w : World) (q : Nat) (asn room rf : Int) (s : SlV RtV) (r : Int) (v : Value) (w' : World) : Prop := ∃ out s', RPk.Own w' w.heap.size v out ∧ ChgL s'.l s.l out ∧ RefF F w' q asn room rf s' ∧ s'.l = s.l.filter (notRx r) ∧ But w w' [q]
set_option maxRecDepth 100000 in
set_option maxHeartbeats 8000000 in
theorem xflush_any {F : Nat → Prop} {w : World} {q : Nat} {asn room rf : Int} {s : SlV RtV} (H : RefF F w q asn room rf s) (ho : Ord s.l) (hn : s.n ≤ 8000) (r : Int) : Calls Tryz.prog 69 #[.pointer (some ⟨q, 0, none⟩), .int .i64 r] w fun e w' => ∃ v, e = .returned v ∧ FlushQ F w q asn room rf s r v w' := by
  have hal := (Below.refl w.heap.size w).alloc (Nat.le_refl _) (.cells #[.slice s.a s.n s.c, .int .i64 0, .int .i64 0, .int .i64 0] 122)
  have h6 : (w.alloc (.cells #[.slice s.a s.n s.c, .int .i64 0, .int .i64 0, .int .i64 0] 122)).heap[w.heap.size]? = some (.cells #[.slice s.a s.n s.c, .int .i64 0, .int .i64 0, .int .i64 0] 122) := hnew _ _
  have hq := (hal.block _ (lt_of_blk H.blk)).trans H.blk
  have c0 : w.cell? ⟨q, 0, none⟩ = some (.slice s.a s.n s.c) := cell_of H.blk rfl
  have d0 : (w.alloc (.cells #[.slice s.a s.n s.c, .int .i64 0, .int .i64 0, .int .i64 0] 122)).cell? ⟨q, 0, none⟩ = some (.slice s.a s.n s.c) := cell_of hq rfl
  have d1 : (w.alloc (.cells #[.slice s.a s.n s.c, .int .i64 0, .int .i64 0, .int .i64 0] 122)).frozen? ⟨q, 0, none⟩ = false := free_of hq
  have hqn : q ≠ w.heap.size := fun e => by have := lt_of_blk H.blk; omega
  have hbq := (But.refl (w.alloc (.cells #[.slice s.a s.n s.c, .int .i64 0, .int .i64 0, .int .i64 0] 122)) [q]).setCell (a := ⟨q, 0, none⟩) (.inr (by simp)) (.slice none 0 0)
  have H0 := Lib.hid (And.intro H (And.intro ho (And.intro (lt_of_blk H.blk) hn)))
  have HW := Lib.hid (show But w ((w.alloc (.cells #[.slice s.a s.n s.c, .int .i64 0, .int .i64 0, .int .i64 0] 122)).setCell ⟨q, 0, none⟩ (.slice none 0 0)) [q] ∧ ((w.alloc (.cells #[.slice s.a s.n s.c, .int .i64 0, .int .i64 0, .int .i64 0] 122)).setCell ⟨q, 0, none⟩ (.slice none 0 0)).heap[q]? = some (.cells #[.slice none 0 0, .int .i64 asn, .int .i64 room, .int .i64 rf] 122) ∧ ((w.alloc (.cells #[.slice s.a s.n s.c, .int .i64 0, .int .i64 0, .int .i64 0] 122)).setCell ⟨q, 0, none⟩ (.slice none 0 0)).heap[w.heap.size]? = some (.cells #[.slice s.a s.n s.c, .int .i64 0, .int .i64 0, .int .i64 0] 122) from
    ⟨(But.of_below hal [q]).trans hbq, setCell_blk hq 0 _, (hbq.block _ (lt_of_blk h6) (by rw [List.mem_singleton]; exact fun e => hqn e.symm)).trans h6⟩)
  obtain ⟨sa, n, sc, L⟩ := s
  have hmax : n ≤ maxLen := H0.out.1.hd.now.sl.max
  have HL := Lib.hid (show n = L.length from H0.out.1.hd.now.sl.len)
  dsimp only at c0 d0 hn ⊢
  clear H ho hn hal h6 hq hbq hqn
  go_enter Tryz.func69, Tryz.ntmps69
  go_wp2_with fail
  clear c0 d0 d1
  generalize (w.alloc (.cells #[.slice (⟨sa, n, sc, L⟩ : SlV RtV).a (⟨sa, n, sc, L⟩ : SlV RtV).n (⟨sa, n, sc, L⟩ : SlV RtV).c, .int .i64 0, .int .i64 0, .int .i64 0] 122)).setCell ⟨q, 0, none⟩ (.slice none 0 0) = W1 at *
  obtain ⟨q6, hq6⟩ : ∃ q6, w.heap.size = q6 := ⟨_, rfl⟩
  have HQ6 := Lib.hid hq6
  have hW6 := HW.out.2.2
  rw [show (⟨w.heap.size, 0, none⟩ : Addr) = ⟨q6, 0, none⟩ by rw [hq6]]
  rw [hq6] at hW6
  have HW6 := Lib.hid hW6
  clear hq6 hW6
  go_loopw [6] (fun iv wr => ∃ (i : Nat) (v : Value), i ≤ n ∧ iv = .int .i64 i ∧ wr.heap[q]? = some (.cells #[v, .int .i64 asn, .int .i64 room, .int .i64 rf] 122) ∧ RRt.Own wr W1.heap.size v ((L.take i).filter (notRx r)) ∧ But W1 wr [q]) (fun iv _ => n - (intOf iv).toNat)
  case atStart => exact ⟨0, .slice none 0 0, Nat.zero_le _, rfl, HW.out.2.1, Rep.Own.nil _ _, But.refl _ _⟩
  case round =>
    obtain ⟨i, v, hi, rfl, hqv, hown, hb⟩ := hrel
    obtain ⟨w2, rfl⟩ : ∃ w2 : World, w2 = wr := ⟨_, rfl⟩
    obtain ⟨oo, oc, rfl, -, -⟩ := hown.sl0
    have hq6ne : q6 ≠ q := fun e => by have h1 := H0.out.2.2.1; have h2 := HQ6.out; omega
    have h6 := (hb.block _ (lt_of_blk HW6.out) (by rw [List.mem_singleton]; exact hq6ne)).trans HW6.out
    have g0 : w2.cell? ⟨q6, 0, none⟩ = some (.slice sa n sc) := cell_of h6 rfl
    by_cases hlt : i < n
    · have hil : ((i : Int) < (n : Int)) = True := by simp; omega
      have hi0 : ((0 : Int) ≤ (i : Int)) = True := by simp
      have hw3 := wrapS hlt hmax
      have hiL : i < L.length := by rw [← HL.out]; exact hlt
      have hd := (Below.refl w2.heap.size w2).drew
      have hww : But w w2.drew [q] := (HW.out.1.trans hb).trans (But.of_below hd [q])
      have hhd := hold_but H0.out.1.hd H0.out.1.fq hww
      obtain ⟨b0, o0, ea, hbb, hat⟩ := hhd.now.sl.at hlt
      obtain ⟨b9, o9, ea9, hbb9, -⟩ := H0.out.1.hd.now.sl.at hlt
      dsimp only at ea ea9 hat
      subst ea
      injection ea9 with ea9
      injection ea9 with ea8 ea7
      subst ea8 ea7
      have hts : (L.take (i + 1)).filter (notRx r) = (L.take i).filter (notRx r) ++ (if notRx r (L.getD i default) then [L.getD i default] else []) := by
        rw [List.take_succ_eq_append_getElem hiL, List.filter_append, List.getD_eq_getElem?_getD, List.getElem?_eq_getElem hiL, Option.getD_some]
        congr 1
        rw [List.filter_cons]
        split <;> simp
      obtain ⟨y, hy⟩ : ∃ y, L.getD i default = y := ⟨_, rfl⟩
      rw [hy] at hat hts
      obtain ⟨L0, hL0⟩ : ∃ L0, (L.take i).filter (notRx r) = L0 := ⟨_, rfl⟩
      have hl0 : L0.length ≤ n := by
        rw [← hL0]
        refine Nat.le_trans (List.length_filter_le _ _) ?_
        rw [List.length_take]
        omega
      rw [hL0] at hown hts hqv
      obtain ⟨l0, hln⟩ : ∃ z, L0.length = z := ⟨_, rfl⟩
      rw [hln] at hown hl0 hqv
      have c0 := (show RRt.At w2 b0 (o0 + i * 10) y from hat) 0 (by decide)
      simp only [RRt, Nat.add_zero, List.getElem?_cons_zero] at c0
      have HS := Lib.hid (show FlS q q6 b0 (o0 + i * 10) asn room rf (.slice oo l0 oc) (⟨some ⟨b0, o0, none⟩, n, sc, L⟩ : SlV RtV) y w2.drew from ⟨hqv, h6, hat⟩)
      have HLT := Lib.hid (show q < W1.heap.size ∧ q6 < W1.heap.size ∧ b0 < W1.heap.size from ⟨lt_of_blk HW.out.2.1, lt_of_blk HW6.out, Nat.lt_of_lt_of_le hbb9 HW.out.1.size⟩)
      have G0 := Lib.hid (And.intro hqv (And.intro hown hb))
      have G := Lib.hid (And.intro (hown.below hd) (And.intro (hb.trans (But.of_below hd [q])) (And.intro hts (And.intro hln hl0))))
      clear hqv hown hb hts hy hL0 hl0 hln hat hbb hbb9 hiL hd hww hhd h6 hq6ne
      by_cases hr : y.r = r
      · have e1 : (y.r == r) = true := by simp [hr]
        have n1 : (y.r != r) = false := by rw [bne, e1]; rfl
        have HR := Lib.hid (show notRx r y = false by unfold notRx; simp [hr])
        clear hr
        go_wp2_with fail
        refine ⟨⟨i + 1, .slice oo l0 oc, hlt, by first | rw [hw3] | rw [Int.natCast_succ], G0.out.1, ?_, G0.out.2.2⟩, by first | (rw [hw3]; exact mSucc hlt) | (rw [← Int.natCast_succ]; exact mSucc hlt)⟩
        rw [G.out.2.2.1, HR.out, if_neg (by simp), List.append_nil]
        exact G0.out.2.1
      · have e1 : (y.r == r) = false := by simpa using hr
        have n1 : (y.r != r) = true := by rw [bne, e1]; rfl
        have HR := Lib.hid (show notRx r y = true by unfold notRx; simp [hr])
        clear hr
        go_wp2_with fail
        clear c0 g0 e1 n1
        refine wp_region_T 16 (FlS q q6 b0 (o0 + i * 10) asn room rf (.slice oo l0 oc) (⟨some ⟨b0, o0, none⟩, n, sc, L⟩ : SlV RtV) y) (by kernel_rfl) ?_
        generalize w2.drew = w3 at *
        refine T_reads [0, 1, 2, 3, 4, 5, 6, 7, 8, 9, 10, 11] (g := 5) rfl (by kernel_rfl) HS.out (fun _ _ d _ _ h => by cases d <;> exact h) ?_
        simp only [pick, List.getD_cons_zero, List.getD_cons_succ]
        iterate 11 ((with_reducible refine wpRead_step (fun K hK => ?_)); go_simp; first | ((with_reducible refine hK _ ?_); clear hK K) | (apply Exists.intro; (with_reducible refine ⟨fun w' hw' => ?_, hK _ ?_⟩); ((have f0 := cell_of (o := 0) hw'.a rfl; have f1 := free_of (o := 0) hw'.a; have g0 := cell_of (o := 0) hw'.b rfl; go_simp; first | exact rfl | exact ⟨rfl, rfl⟩)); clear hK K))
        with_reducible refine wpRead_yes ?_ ?_
        rotate_left
        rfl
        intro K hK
        refine read_load 93 _ rfl b0 (o0 + i * 10) #[.int .i64 y.r, .int .u32 (y.k.1 : Int), .int .i64 y.k.2, .int .i64 y.i, .int .i64 y.a.o, .slice y.a.p.a y.a.p.n y.a.p.c, .int .u32 y.a.nx, .int .i64 y.a.md, .int .i64 y.a.pf, .slice y.a.c.a y.a.c.n y.a.c.c] rfl (fun w' hw' => at_rangeRt hw'.e) Tryz.underlying93 rfl (by kernel_rfl) (hK _ ?_)
        clear hK K
        with_reducible refine wpRead_nil ?_
        have hal := (Below.refl w3.heap.size w3).alloc (Nat.le_refl _) (.cells #[.int .i64 y.r, .int .u32 (y.k.1 : Int), .int .i64 y.k.2, .int .i64 y.i, .int .i64 y.a.o, .slice y.a.p.a y.a.p.n y.a.p.c, .int .u32 y.a.nx, .int .i64 y.a.md, .int .i64 y.a.pf, .slice y.a.c.a y.a.c.n y.a.c.c] 93)
        have HS2 := Lib.hid (HS.out.below (hal.mono (Nat.le_refl w3.heap.size)) ⟨lt_of_blk HS.out.a, lt_of_blk HS.out.b, rt_lt HS.out.e⟩)
        refine T_one 12 (by kernel_rfl) ?_
        simp only [pick, List.getD_cons_zero, List.getD_cons_succ]
        go_wp2_with fail
        refine ⟨fun _ => HS2.out, ?_⟩
        refine T_one 13 (by kernel_rfl) ?_
        simp only [pick, List.getD_cons_zero, List.getD_cons_succ]
        go_wp2_with (at_builtin; refine halt ?_)
        refine Halted.go ?_
        have hl := G.out.2.2.2.1
        have hl2 := G.out.2.2.2.2
        have hn3 := H0.out.2.2.2
        refine Rep.append_list TRt rfl _ _ rfl rfl (G.out.1.below hal) rfl (Rep.sl_one (R := RRt) (y := y) (hnew _ _)) (fun h => by cases h) (by rw [hl]; unfold maxLen; omega) (by rw [hl]; omega) (Nat.le_trans G.out.2.1.size hal.size) ?_
        intro v9 w9 hown9 hb9 _
        obtain ⟨o9', c9, rfl, -, -⟩ := hown9.sl0
        obtain ⟨l9, hl9⟩ : ∃ z, (L0 ++ [y]).length = z := ⟨_, rfl⟩
        rw [hl9] at hown9 ⊢
        have HS9 := Lib.hid (HS2.out.below hb9 HLT.out)
        have HK := Lib.hid (And.intro hown9 (And.intro hl9 (But.thenB (G.out.2.1.trans (But.of_below hal [q])) hb9)))
        clear hown9 hb9 hal hl9 hl hl2 hn3 HS2
        go_wp2_with fail
        refine ⟨fun _ => HS9.out, ?_⟩
        refine T_one 14 (by kernel_rfl) ?_
        simp only [pick, List.getD_cons_zero, List.getD_cons_succ]
        go_wp2_with fail
        refine ⟨fun _ => HS9.out, ?_⟩
        refine T_one 15 (by kernel_rfl) ?_
        simp only [pick, List.getD_cons_zero, List.getD_cons_succ]
        go_wp2_with fail
        refine ⟨fun _ => HS9.out, ?_⟩
        have f0 := cell_of (o := 0) HS9.out.a rfl
        have f1 := free_of (o := 0) HS9.out.a
        refine T_one 16 (by kernel_rfl) ?_
        simp only [pick, List.getD_cons_zero, List.getD_cons_succ]
        go_wp2_with fail
        refine ⟨fun h => absurd rfl h, ?_⟩
        refine T_done (by kernel_rfl) ?_ _
        clear f0 f1
        have hbt := (But.refl w9 [q]).setCell (a := ⟨q, 0, none⟩) (.inr (by simp)) (.slice o9' l9 c9)
        have HF := Lib.hid (And.intro (setCell_blk HS9.out.a 0 (.slice o9' l9 c9)) (And.intro (Rep.Own.but HK.out.1 hbt (by simp; exact HLT.out.1)) (HK.out.2.2.trans hbt)))
        clear hbt
        go_wp2_with fail
        refine ⟨⟨i + 1, .slice o9' l9 c9, hlt, by first | rw [hw3] | rw [Int.natCast_succ], HF.out.1, ?_, HF.out.2.2⟩, by first | (rw [hw3]; exact mSucc hlt) | (rw [← Int.natCast_succ]; exact mSucc hlt)⟩
        rw [G.out.2.2.1, HR.out, if_pos rfl]
        exact HF.out.2.1
    · obtain rfl : n = i := by omega
      have hil : ((n : Int) < (n : Int)) = False := by simp
      rw [show L.take n = L from List.take_of_length_le (by rw [← HL.out]; exact Nat.le_refl _)] at hown hqv
      have hww := HW.out.1.trans hb
      obtain ⟨s', hs1, hs2, hs3⟩ := hd_own (F := F) (fun k hk => Nat.lt_of_lt_of_le (H0.out.1.fl k hk) HW.out.1.size) hown (fun z hz => hold_but (H0.out.1.el z (List.mem_filter.1 hz).1) H0.out.1.fq hww)
      rw [hs1] at hqv
      have hRF : RefF F w2 q asn room rf s' := ⟨hqv, hs3, H0.out.1.fq, fun k hk => Nat.lt_of_lt_of_le (H0.out.1.fl k hk) hww.size⟩
      have hR6 : RefX w2 q6 0 0 0 ⟨sa, n, sc, L⟩ := ⟨h6, (hold_but H0.out.1.hd H0.out.1.fq hww).now⟩
      have hos : Ord s'.l := by rw [hs2]; exact H0.out.2.1.filter _
      have hns : s'.n ≤ 8000 := by
        have h1 : s'.n = s'.l.length := hs3.now.sl.len
        have h2 := List.length_filter_le (notRx r) L
        rw [h1, hs2]
        have h3 := HL.out
        have h4 := H0.out.2.2.2
        omega
      have HOX := Lib.hid (xothers_any hRF.x hR6 hos H0.out.2.1 ⟨hns, H0.out.2.2.2⟩)
      have HF := Lib.hid (And.intro hRF (And.intro hs2 hww))
      clear hqv hown hb hRF hR6 hos hns hs1 hs2 hs3 hww h6 hq6ne hi
      go_wp2_with fail
      refine (HOX.out).mono ?_
      rintro e w9 ⟨v, out, rfl, hown, hch, hb⟩
      have HE := Lib.hid (show FlushQ F w q asn room rf ⟨sa, n, sc, L⟩ r v w9 from ⟨out, s', hown.mono HF.out.2.2.size, hch, HF.out.1.keep hb, HF.out.2.1, HF.out.2.2.trans (But.of_below hb [q])⟩)
      clear hown hch hb HOX
      go_wp2_with fail
      go_ret
      exact ⟨_, rfl, HE.out⟩
end Go.Proofs.YtadoflcomienoaaGreat.Rr
/- Whether an AS is on a path, as the reference tells. -/
namespace Go.Proofs.YtadoflcomienoaaGreat
open Go.RowKit

set_option maxRecDepth 100000 in
set_option maxHeartbeats 4000000 in
theorem rhas_any {w : World} {x : AtV} (hx : AtOk w x) (asn : Int) : Calls Tryz.prog 42 #[x.v, .int .i64 asn] w fun e w' => e = .returned (.bool (hasAS x.at asn)) ∧ Below w.heap.size w w' := by
  have hal := (Below.refl w.heap.size w).alloc (Nat.le_refl _) (.cells #[.int .i64 x.o, .slice x.p.a x.p.n x.p.c, .int .u32 x.nx, .int .i64 x.md, .int .i64 x.pf, .slice x.c.a x.c.n x.c.c] 40)
  have hX : BxA w.heap.size x (w.alloc (.cells #[.int .i64 x.o, .slice x.p.a x.p.n x.p.c, .int .u32 x.nx, .int .i64 x.md, .int .i64 x.pf, .slice x.c.a x.c.n x.c.c] 40)) := hnew _ _
  have hx' := hx.keep hal
  have F := Lib.hid (And.intro hal hx')
  obtain ⟨c0, c1, c2, c3, c4, c5⟩ := hX.cells
  have HL := Lib.hid (show x.p.n = x.p.l.length from hx.p.sl.len)
  have hmax : x.p.n ≤ maxLen := hx.p.sl.max
  obtain ⟨v, hv⟩ : ∃ v, hasAS x.at asn = v := ⟨_, rfl⟩
  rw [hv]
  have hany : (x.p.l.any fun y => y.s.l.any fun n => decide (n = asn)) = v := by
    rw [← hv]
    unfold hasAS AtV.at
    dsimp only
    rw [List.any_map]
    rfl
  have HV := Lib.hid hany
  unfold AtV.v
  clear hal hX hx' hx hv hany c0 c2 c3 c4 c5
  go_enter Tryz.func42, Tryz.ntmps42
  go_wp2_with fail
  generalize w.alloc (.cells #[.int .i64 x.o, .slice x.p.a x.p.n x.p.c, .int .u32 x.nx, .int .i64 x.md, .int .i64 x.pf, .slice x.c.a x.c.n x.c.c] 40) = W at *
  go_loopw [5] (fun iv wr => ∃ i : Nat, i ≤ x.p.n ∧ iv = .int .i64 i ∧ (∀ j, j < i → ((x.p.l.getD j default).s.l.any fun n => decide (n = asn)) = false) ∧ wr = W) (fun iv _ => x.p.n - (intOf iv).toNat)
  case atStart => exact ⟨0, Nat.zero_le _, rfl, (fun j hj => absurd hj (Nat.not_lt_zero _)), by first | exact trivial | rfl⟩
  case round =>
    obtain ⟨i, hi, rfl, hall, hw⟩ := hrel
    have hw := hw.symm
    subst hw
    by_cases hlt : i < x.p.n
    · have hil : ((i : Int) < (x.p.n : Int)) = True := by simp; omega
      have hi0 : ((0 : Int) ≤ (i : Int)) = True := by simp
      have hw3 := wrapS hlt hmax
      obtain ⟨b0, o0, ea, hbb, hat⟩ := F.out.2.p.sl.at hlt
      have hok := F.out.2.p.all _ (getD_mem (show i < x.p.l.length by rw [← HL.out]; exact hlt))
      obtain ⟨y, hy⟩ : ∃ y, x.p.l.getD i default = y := ⟨_, rfl⟩
      rw [hy] at hat hok
      have s1 := hat 1 (by decide)
      simp only [RSg, List.getElem?_cons_zero, List.getElem?_cons_succ] at s1
      have hym : y.s.n ≤ maxLen := hok.sl.max
      have HY := Lib.hid (And.intro hy (And.intro hall (And.intro hok (show y.s.n = y.s.l.length from hok.sl.len))))
      rw [ea] at c1 ⊢
      clear hy hall hok hat hbb
      go_wp2_with fail
      go_loopw [6] (fun jv wr => ∃ j : Nat, j ≤ y.s.n ∧ jv = .int .i64 j ∧ (∀ k, k < j → y.s.l.getD k default ≠ asn) ∧ wr = W) (fun jv _ => y.s.n - (intOf jv).toNat)
      case atStart => exact ⟨0, Nat.zero_le _, rfl, (fun j hj => absurd hj (Nat.not_lt_zero _)), by first | exact trivial | rfl⟩
      case round =>
        obtain ⟨j, hj, rfl, hno, hw⟩ := hrel
        have hw := hw.symm
        subst hw
        by_cases hjt : j < y.s.n
        · have hjl : ((j : Int) < (y.s.n : Int)) = True := by simp; omega
          have hj0 : ((0 : Int) ≤ (j : Int)) = True := by simp
          have hj3 := wrapS hjt hym
          obtain ⟨b2, o2, eb, hbb, hat⟩ := HY.out.2.2.1.sl.at hjt
          obtain ⟨z, hz⟩ : ∃ z, y.s.l.getD j default = z := ⟨_, rfl⟩
          rw [hz] at hat
          have d0 := hat 0 (by decide)
          simp only [RI, Nat.add_zero, List.getElem?_cons_zero, Nat.mul_one] at d0
          rw [eb] at s1
          have HN := Lib.hid (And.intro hno hz)
          clear hno hz hat hbb
          by_cases hza : z = asn
          · have e1 : (z == asn) = true := by simp [hza]
            have HZ := Lib.hid hza
            clear hza
            go_wp2_with fail
            go_ret
            refine ⟨ret_bool ?_, F.out.1⟩
            rw [← HV.out]
            refine (List.any_eq_true.2 ⟨y, ?_, List.any_eq_true.2 ⟨z, ?_, by simp [HZ.out]⟩⟩).symm
            · rw [← HY.out.1]; exact getD_mem (by rw [← HL.out]; exact hlt)
            · rw [← HN.out.2]; exact getD_mem (by rw [← HY.out.2.2.2]; exact hjt)
          · have e1 : (z == asn) = false := by simpa using hza
            have HZ := Lib.hid hza
            clear hza
            go_wp2_with fail
            exact ⟨⟨j + 1, hjt, by first | rw [hj3] | rw [Int.natCast_succ], (fun k hk => (Nat.lt_succ_iff_lt_or_eq.1 hk).elim (HN.out.1 k) (fun e => by rw [e, HN.out.2]; exact HZ.out)), by first | exact trivial | rfl⟩, by first | (rw [hj3]; exact mSucc hjt) | (rw [← Int.natCast_succ]; exact mSucc hjt)⟩
        · obtain rfl : j = y.s.n := by omega
          have hjl : ((y.s.n : Int) < (y.s.n : Int)) = False := by simp
          have HN := Lib.hid hno
          clear hno
          go_wp2_with fail
          refine ⟨⟨i + 1, hlt, by first | rw [hw3] | rw [Int.natCast_succ], (fun k hk => (Nat.lt_succ_iff_lt_or_eq.1 hk).elim (HY.out.2.1 k) (fun e => ?_)), by first | exact trivial | rfl⟩, by first | (rw [hw3]; exact mSucc hlt) | (rw [← Int.natCast_succ]; exact mSucc hlt)⟩
          rw [e, HY.out.1, List.any_eq_false]
          intro z hz
          obtain ⟨q, hq, rfl⟩ := List.getElem_of_mem hz
          have h1 := HN.out q (by rw [HY.out.2.2.2]; exact hq)
          rw [List.getD_eq_getElem?_getD, List.getElem?_eq_getElem hq, Option.getD_some] at h1
          simpa using h1
    · obtain rfl : i = x.p.n := by omega
      have hil : ((x.p.n : Int) < (x.p.n : Int)) = False := by simp
      have HB := Lib.hid hall
      clear hall
      go_wp2_with fail
      go_ret
      refine ⟨ret_bool ?_, F.out.1⟩
      rw [← HV.out]
      refine (List.any_eq_false.2 fun y hy => ?_).symm
      obtain ⟨q, hq, rfl⟩ := List.getElem_of_mem hy
      have h1 := HB.out q (by rw [HL.out]; exact hq)
      rw [List.getD_eq_getElem?_getD, List.getElem?_eq_getElem hq, Option.getD_some] at h1
      rw [h1]
      simp
end Go.Proofs.YtadoflcomienoaaGreat
