/- TableFull: the law's walk. -/
import Derived.Test.YtfmehahjjgalfaaDn
namespace Go.Proofs.Ytfmehahjjgalfaa
open Go.RowKit

def fullO (i : Nat) : Ov := ⟨0, i * 65536, 16, 0, 0⟩
structure FullS (L : List Ov) (i : Nat) : Prop where
  len : L.length = min i 4096
  key : ∀ x ∈ L, ∃ j, j < i ∧ x.key = (j * 65536, 16)
  has : 0 < i → hasO L (0, 16) = true
theorem FullS.none : FullS [] 0 := ⟨rfl, fun x hx => (by cases hx), fun h => absurd h (by omega)⟩
theorem fullO_key (i : Nat) : (fullO i).key = (i * 65536, 16) := rfl
theorem fullO_ok {i : Nat} (_h : i < 65536) : okP (fullO i).ad (fullO i).ln = true := by
  rw [okP_iff]
  refine ⟨by show (0 : Int) ≤ 16; decide, by show (16 : Int) ≤ 32; decide, ?_⟩
  show pcut (i * 65536) 16 = i * 65536
  unfold pcut
  omega
theorem has_no {L : List Ov} {i : Nat} (h : FullS L i) : hasO L (fullO i).key = false := by
  unfold hasO
  rw [Kl.look_no fun x hx e => ?_]
  · rfl
  · obtain ⟨j, hj, hk⟩ := h.key x hx
    rw [hk, fullO_key] at e
    have := congrArg Prod.fst e
    simp at this
    omega
theorem filter_lens {L : List Ov} {o : Ov} (h : hasO L o.key = false) : (setO L o).length = L.length + 1 := by
  have h1 := filter_two L (fun x => ltO x o)
  have h2 : (L.filter fun x => ltO o x) = L.filter fun x => !ltO x o := by
    refine List.filter_congr fun x hx => ?_
    have hne : x.key ≠ o.key := by
      have hl : Kl.look Ov.key L o.key = none := by
        unfold hasO at h
        cases hh : Kl.look Ov.key L o.key with
        | none => rfl
        | some _ => rw [hh] at h; cases h
      exact Kl.look_none hl hx
    unfold ltO
    rcases ltK_total x.key o.key with h3 | h3 | h3
    · rw [h3, ltK_asymm _ _ h3]; rfl
    · exact absurd h3 hne
    · rw [h3, ltK_asymm _ _ h3]; rfl
  unfold setO
  rw [List.length_append, List.length_cons, h2]
  omega
theorem has_iff {L : List Ov} (h : Ord L) (k : PK) : hasO L k = true ↔ ∃ x ∈ L, x.key = k := by
  unfold hasO
  constructor
  · intro hh
    cases hl : Kl.look Ov.key L k with
    | none => rw [hl] at hh; cases hh
    | some x => exact ⟨x, Kl.look_mem hl⟩
  · rintro ⟨x, hx, rfl⟩
    rw [Kl.look_of h.keys hx]; rfl
theorem FullS.next {L : List Ov} {i : Nat} (ho : Ord L) (h : FullS L i) (hi : i < 65536) : setE L (fullO i) = (if 4096 ≤ i then 2 else 0) ∧ FullS (if setE L (fullO i) = 0 then setO L (fullO i) else L) (i + 1) := by
  have hn := has_no h
  have hE : setE L (fullO i) = (if 4096 ≤ i then 2 else 0) := by
    unfold setE
    rw [fullO_ok hi, hn, h.len]
    by_cases h4 : 4096 ≤ i
    · have : 4096 ≤ min i 4096 := by omega
      simp [h4]
    · have : ¬ 4096 ≤ min i 4096 := by omega
      simp [h4]
      omega
  refine ⟨hE, ?_⟩
  by_cases h4 : 4096 ≤ i
  · rw [hE, if_pos h4, if_neg (by decide)]
    refine ⟨by rw [h.len]; omega, fun x hx => ?_, fun _ => h.has (by omega)⟩
    obtain ⟨j, hj, hk⟩ := h.key x hx
    exact ⟨j, by omega, hk⟩
  · rw [hE, if_neg h4, if_pos rfl]
    refine ⟨by rw [filter_lens hn, h.len]; omega, fun x hx => ?_, fun _ => ?_⟩
    · rcases mem_set.1 hx with rfl | ⟨hx, -⟩
      · exact ⟨i, by omega, rfl⟩
      · obtain ⟨j, hj, hk⟩ := h.key x hx
        exact ⟨j, by omega, hk⟩
    · rw [has_iff (ho.set _)]
      by_cases h0 : i = 0
      · subst h0; exact ⟨fullO 0, mem_set.2 (.inl rfl), rfl⟩
      · obtain ⟨x, hx, hk⟩ := (has_iff ho (0, 16)).1 (h.has (by omega))
        refine ⟨x, mem_set.2 (.inr ⟨hx, fun e => ?_⟩), hk⟩
        rw [hk, fullO_key] at e
        have := congrArg Prod.fst e
        simp at this
        omega
def fullZ : Ov := ⟨0, 0, 16, 0, 5⟩
theorem fullZ_E {L : List Ov} {i : Nat} (h : FullS L i) (hi : 0 < i) : setE L fullZ = 0 := by
  unfold setE
  rw [show okP fullZ.ad fullZ.ln = true from by decide, show fullZ.key = (0, 16) from rfl, h.has hi]
  rfl
set_option maxRecDepth 100000 in
set_option maxHeartbeats 4000000 in
theorem tfull_law (n : Int) (w : World) : Calls Try.prog 9 #[.int .i64 n] w fun e w' => e = .returned (.bool true) ∧ Below w.heap.size w w' := by
  by_cases hr : n < 0 ∨ 4200 < n
  · have hways : ((n < 0) = True) ∨ ((n < 0) = False ∧ (4200 < n) = True) := by
      by_cases h : n < 0
      · exact .inl (eq_true h)
      · exact .inr ⟨eq_false h, eq_true (by omega)⟩
    clear hr
    rcases hways with h1 | ⟨h1, h2⟩
    all_goals
      go_enter Try.func9, Try.ntmps9
      go_wp2_with fail
      refine (tnew_any _).mono ?_
      rintro e W1 ⟨t, bm, rfl, hT, hb, ht0, hm0⟩
      have HBM := Lib.hid hm0
      have F1 := Lib.hid (And.intro hb hT)
      clear hT hb ht0 hm0
      go_wp2_with fail
      refine (lives23 _).mono ?_
      rintro e W2 ⟨rfl, hb⟩
      have F2 := Lib.hid (And.intro (bcall F1.out.1 (Nat.le_refl _) hb) (F1.out.2.keep hb))
      clear hb F1
      go_wp2_with fail
      refine (lives23 _).mono ?_
      rintro e W3 ⟨rfl, hb⟩
      have F3 := Lib.hid (bcall F2.out.1 (Nat.le_refl _) hb)
      clear hb F2
      go_wp2_with fail
      go_ret
      exact ⟨rfl, F3.out⟩
  obtain ⟨m, rfl⟩ : ∃ m : Nat, n = (m : Int) := ⟨n.toNat, by omega⟩
  have hm : m ≤ 4200 := by omega
  have h1 : ((m : Int) < 0) = False := by simp
  have h2 : ((4200 : Int) < (m : Int)) = False := by simp; omega
  clear hr
  go_enter Try.func9, Try.ntmps9
  go_wp2_with fail
  refine (tnew_any _).mono ?_
  rintro e W1 ⟨t, bm, rfl, hT, hb, ht0, hm0⟩
  have HBM := Lib.hid hm0
  have F1 := Lib.hid (And.intro hb hT)
  clear hT hb ht0 hm0
  go_wp2_with fail
  refine (lives23 _).mono ?_
  rintro e W2 ⟨rfl, hb⟩
  have F2 := Lib.hid (And.intro (bcall F1.out.1 (Nat.le_refl _) hb) (F1.out.2.keep hb))
  clear hb F1
  go_wp2_with fail
  go_loopw [4] (fun iv wr => ∃ (i : Nat) (L : List Ov), i ≤ m ∧ iv = .int .i64 i ∧ TabAt wr t bm L ∧ FullS L i ∧ Below w.heap.size w wr) (fun iv _ => m - (intOf iv).toNat)
  case atStart => exact ⟨0, [], Nat.zero_le _, rfl, F2.out.2, FullS.none, F2.out.1⟩
  case round =>
    obtain ⟨i, L, hi, rfl, htab, hfs, hb⟩ := hrel
    obtain ⟨w2, rfl⟩ : ∃ w2 : World, w2 = wr := ⟨_, rfl⟩
    have G := Lib.hid (And.intro hb (And.intro htab hfs))
    clear hb htab hfs F2
    by_cases hlt : i < m
    · have hil : ((i : Int) < (m : Int)) = True := by simp; omega
      have hw3 := wrapS hlt (show m ≤ maxLen by unfold maxLen; omega)
      obtain ⟨hE, hnx⟩ := G.out.2.2.next G.out.2.1.ord (by omega)
      have hst := tset_any G.out.2.1 (o := fullO i) (by show i * 65536 < _; omega) (okK (by show i * 65536 < _; omega) (by show -9223372036854775808 ≤ (16 : Int) ∧ (16 : Int) ≤ 9223372036854775807; decide))
      rw [hE] at hst
      have hcs : ((i * 65536 : Nat) : Int) = (i : Int) * 65536 := by omega
      have hst2 : Calls Try.prog 32 #[.pointer (some ⟨t, 0, none⟩), .agg #[.int .i64 0, .int .u32 ((i * 65536 : Nat) : Int), .int .i64 16, .int .i64 0, .int .i64 0]] w2 fun e w' => e = .returned (.int .i64 (if 4096 ≤ i then 2 else 0)) ∧ TSet w2 w' t bm L (fullO i) := hst
      rw [hcs] at hst2
      have HS := Lib.hid hst2
      clear hst2 hcs
      have HNX := Lib.hid hnx
      clear hst hnx
      have hcv : IntKind.u32.wrap (i : Int) = (i : Int) := by rw [IntKind.wrap_u32]; omega
      by_cases h4 : 4096 ≤ i
      · have h4t : ((4096 : Int) ≤ (i : Int)) = True := by simp; omega
        have HE := Lib.hid (show (if 4096 ≤ i then (2 : Int) else 0) = 2 from if_pos h4)
        clear hE h4
        go_wp2_with fail
        refine HS.out.mono ?_
        rintro e w3 ⟨rfl, hs⟩
        rw [HE.out]
        have G2 := Lib.hid (show ∃ L', TabAt w3 t bm L' ∧ FullS L' (i + 1) ∧ Below w.heap.size w w3 from ⟨_, hs.tab, HNX.out, Below.step G.out.1 G.out.1.size hs.but (by simp; exact HBM.out)⟩)
        clear hs HS HNX
        go_wp2_with fail
        obtain ⟨L', g1, g2, g3⟩ := G2.out
        exact ⟨⟨i + 1, L', hlt, by first | rw [hw3] | rw [Int.natCast_succ], g1, g2, g3⟩, by first | (rw [hw3]; exact mSucc hlt) | (rw [← Int.natCast_succ]; exact mSucc hlt)⟩
      · have h4t : ((4096 : Int) ≤ (i : Int)) = False := by simp; omega
        have HE := Lib.hid (show (if 4096 ≤ i then (2 : Int) else 0) = 0 from if_neg h4)
        clear hE h4
        go_wp2_with fail
        refine HS.out.mono ?_
        rintro e w3 ⟨rfl, hs⟩
        rw [HE.out]
        have G2 := Lib.hid (show ∃ L', TabAt w3 t bm L' ∧ FullS L' (i + 1) ∧ Below w.heap.size w w3 from ⟨_, hs.tab, HNX.out, Below.step G.out.1 G.out.1.size hs.but (by simp; exact HBM.out)⟩)
        clear hs HS HNX
        go_wp2_with fail
        obtain ⟨L', g1, g2, g3⟩ := G2.out
        exact ⟨⟨i + 1, L', hlt, by first | rw [hw3] | rw [Int.natCast_succ], g1, g2, g3⟩, by first | (rw [hw3]; exact mSucc hlt) | (rw [← Int.natCast_succ]; exact mSucc hlt)⟩
    · obtain rfl : m = i := by omega
      have hil : ((m : Int) < (m : Int)) = False := by simp
      by_cases h0 : m = 0
      · have h0t : ((m : Int) == 0) = true := by simp [h0]
        clear h0
        go_wp2_with fail
        refine (tget_nil (0, 0) _).mono ?_
        rintro e W3 ⟨rfl, hb⟩
        rw [show ovZ.v = .agg #[.int .i64 0, .int .u32 0, .int .i64 0, .int .i64 0, .int .i64 0] from rfl]
        have hbb := bcall hb (Nat.le_refl _) ((Below.refl W3.heap.size W3).alloc (Nat.le_refl _) (.cells #[.int .i64 0, .int .u32 0, .int .i64 0, .int .i64 0, .int .i64 0] 62))
        have J0 := Lib.hid (And.intro (bcall G.out.1 (Nat.le_refl _) hbb) (G.out.2.1.keep hbb))
        clear hb hbb
        go_wp2_with fail
        generalize W3.alloc (.cells #[.int .i64 0, .int .u32 0, .int .i64 0, .int .i64 0, .int .i64 0] 62) = W4 at *
        refine (tset_nil ovZ _).mono ?_
        rintro e W5 ⟨rfl, hb⟩
        have K0 := Lib.hid (bcall J0.out.1 (Nat.le_refl _) hb)
        clear hb J0
        go_wp2_with fail
        refine (tdel_nil (0, 0) _).mono ?_
        rintro e W6 ⟨rfl, hb⟩
        have K1 := Lib.hid (bcall K0.out (Nat.le_refl _) hb)
        clear hb K0
        go_wp2_with fail
        refine (texp_nil 9 _).mono ?_
        rintro e W7 ⟨rfl, hb⟩
        have K2 := Lib.hid (bcall K1.out (Nat.le_refl _) hb)
        clear hb K1
        go_wp2_with fail
        refine (tclr_nil _).mono ?_
        rintro e W8 ⟨rfl, hb⟩
        have K3 := Lib.hid (bcall K2.out (Nat.le_refl _) hb)
        clear hb K2
        go_wp2_with fail
        refine (tall_nil _).mono ?_
        rintro e W9 ⟨rfl, hb⟩
        have K4 := Lib.hid (bcall K3.out (Nat.le_refl _) hb)
        clear hb K3
        go_wp2_with fail
        refine (tlen_nil _).mono ?_
        rintro e W10 ⟨rfl, rfl⟩
        go_wp2_with fail
        go_ret
        exact ⟨rfl, K4.out⟩
      · have h0t : ((m : Int) == 0) = false := by simp; omega
        have HZE := Lib.hid (fullZ_E G.out.2.2 (by omega))
        clear h0
        go_wp2_with fail
        refine (tget_nil (0, 0) _).mono ?_
        rintro e W3 ⟨rfl, hb⟩
        rw [show ovZ.v = .agg #[.int .i64 0, .int .u32 0, .int .i64 0, .int .i64 0, .int .i64 0] from rfl]
        have hbb := bcall hb (Nat.le_refl _) ((Below.refl W3.heap.size W3).alloc (Nat.le_refl _) (.cells #[.int .i64 0, .int .u32 0, .int .i64 0, .int .i64 0, .int .i64 0] 62))
        have J0 := Lib.hid (And.intro (bcall G.out.1 (Nat.le_refl _) hbb) (G.out.2.1.keep hbb))
        clear hb hbb
        go_wp2_with fail
        generalize W3.alloc (.cells #[.int .i64 0, .int .u32 0, .int .i64 0, .int .i64 0, .int .i64 0] 62) = W4 at *
        refine (tset_any J0.out.2 (o := fullZ) (by decide) (okK (by decide) (by decide))).mono ?_
        rintro e W5 ⟨rfl, hs⟩
        rw [HZE.out]
        have J1 := Lib.hid (And.intro (Below.step J0.out.1 J0.out.1.size hs.but (by simp; exact HBM.out)) trivial)
        clear hs J0
        go_wp2_with fail
        refine (tset_nil ovZ _).mono ?_
        rintro e W6 ⟨rfl, hb⟩
        have K0 := Lib.hid (bcall J1.out.1 (Nat.le_refl _) hb)
        clear hb J1
        go_wp2_with fail
        refine (tdel_nil (0, 0) _).mono ?_
        rintro e W7 ⟨rfl, hb⟩
        have K1 := Lib.hid (bcall K0.out (Nat.le_refl _) hb)
        clear hb K0
        go_wp2_with fail
        refine (texp_nil 9 _).mono ?_
        rintro e W8 ⟨rfl, hb⟩
        have K2 := Lib.hid (bcall K1.out (Nat.le_refl _) hb)
        clear hb K1
        go_wp2_with fail
        refine (tclr_nil _).mono ?_
        rintro e W9 ⟨rfl, hb⟩
        have K3 := Lib.hid (bcall K2.out (Nat.le_refl _) hb)
        clear hb K2
        go_wp2_with fail
        refine (tall_nil _).mono ?_
        rintro e W10 ⟨rfl, hb⟩
        have K4 := Lib.hid (bcall K3.out (Nat.le_refl _) hb)
        clear hb K3
        go_wp2_with fail
        refine (tlen_nil _).mono ?_
        rintro e W11 ⟨rfl, rfl⟩
        go_wp2_with fail
        go_ret
        exact ⟨rfl, K4.out⟩
end Go.Proofs.Ytfmehahjjgalfaa
