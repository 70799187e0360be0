/- TimerFull: the law's walk. -/
import Derived.Test.YtfmehahjjgalfaaEj
namespace Go.Proofs.Ytfmehahjjgalfaa.Tim
open Go.RowKit

def fullT (i : Nat) : Tm := ⟨((i : Int), 7), (i : Int)⟩
def kz : TK := (0, 7)
structure FullT (L : List Tm) (i : Nat) : Prop where
  len : L.length = min i 1024
  key : ∀ x ∈ L, ∃ j : Nat, j < i ∧ x.k = ((j : Int), 7)
  has : 0 < i → ∃ x ∈ L, x.k = kz
theorem FullT.none : FullT [] 0 := ⟨rfl, fun x hx => (by cases hx), fun h => absurd h (by omega)⟩
theorem hasT_no {L : List Tm} {k : TK} (h : ∀ x ∈ L, x.k ≠ k) : hasT L k = false := by
  unfold hasT look
  rw [Kl.look_no fun x hx => h x hx]; rfl
theorem hasT_yes {L : List Tm} (hn : (L.map Tm.k).Nodup) {x : Tm} (h : x ∈ L) : hasT L x.k = true := by
  unfold hasT look
  rw [Kl.look_of hn h]; rfl
theorem setT_new {L : List Tm} {x : Tm} (h : ∀ y ∈ L, y.k ≠ x.k) : setT L x = L ++ [x] := by
  unfold setT
  rw [List.filter_eq_self.2]
  intro y hy
  simpa using h y hy
theorem FullT.next {L : List Tm} {i : Nat} (h : FullT L i) (hi : i < 65536) : setTE L (fullT i).k (i : Int) = (if 1024 ≤ i then 2 else 0) ∧ FullT (if setTE L (fullT i).k (i : Int) = 0 then setT L ⟨(fullT i).k, (i : Int)⟩ else L) (i + 1) := by
  have hne : ∀ y ∈ L, y.k ≠ (fullT i).k := fun y hy e => by
    obtain ⟨j, hj, hk⟩ := h.key y hy
    rw [hk] at e
    have := congrArg Prod.fst e
    simp [fullT] at this
    omega
  have hE : setTE L (fullT i).k (i : Int) = (if 1024 ≤ i then 2 else 0) := by
    unfold setTE
    rw [if_neg (by omega), hasT_no hne, h.len]
    by_cases h4 : 1024 ≤ i
    · have : 1024 ≤ min i 1024 := by omega
      simp [h4]
    · have : ¬ 1024 ≤ min i 1024 := by omega
      simp [h4]
      omega
  refine ⟨hE, ?_⟩
  by_cases h4 : 1024 ≤ i
  · rw [hE, if_pos h4, if_neg (by decide)]
    refine ⟨by rw [h.len]; omega, fun x hx => ?_, fun _ => h.has (by omega)⟩
    obtain ⟨j, hj, hk⟩ := h.key x hx
    exact ⟨j, by omega, hk⟩
  · rw [hE, if_neg h4, if_pos rfl, setT_new (x := ⟨(fullT i).k, (i : Int)⟩) hne]
    refine ⟨by rw [List.length_append, h.len]; simp; omega, fun x hx => ?_, fun _ => ?_⟩
    · rcases List.mem_append.1 hx with hx | hx
      · obtain ⟨j, hj, hk⟩ := h.key x hx
        exact ⟨j, by omega, hk⟩
      · simp at hx; subst hx; exact ⟨i, by omega, rfl⟩
    · by_cases h0 : i = 0
      · subst h0; exact ⟨⟨(fullT 0).k, ((0 : Nat) : Int)⟩, List.mem_append.2 (.inr (by simp)), rfl⟩
      · obtain ⟨x, hx, hk⟩ := h.has (by omega)
        exact ⟨x, List.mem_append.2 (.inl hx), hk⟩
theorem fullZ_E {L : List Tm} {i : Nat} (hn : (L.map Tm.k).Nodup) (h : FullT L i) (hi : 0 < i) : setTE L kz 9 = 0 := by
  obtain ⟨x, hx, hk⟩ := h.has hi
  have := hasT_yes hn hx
  rw [hk] at this
  unfold setTE
  rw [if_neg (by decide), this]
  rfl
set_option maxRecDepth 100000 in
set_option maxHeartbeats 4000000 in
theorem tfull10_law (n : Int) (w : World) : Calls Try.prog 5 #[.int .i64 n] w fun e w' => e = .returned (.bool true) ∧ Below w.heap.size w w' := by
  by_cases hr : n < 0 ∨ 1100 < n
  · have hways : ((n < 0) = True) ∨ ((n < 0) = False ∧ (1100 < n) = True) := by
      by_cases h : n < 0
      · exact .inl (eq_true h)
      · exact .inr ⟨eq_false h, eq_true (by omega)⟩
    clear hr
    rcases hways with h1 | ⟨h1, h2⟩
    all_goals
      go_enter Try.func5, Try.ntmps5
      go_wp2_with fail
      refine (new_any _).mono ?_
      rintro e W1 ⟨t, bm, rfl, hT, hb, ht0, hm0⟩
      have HBM := Lib.hid hm0
      have F1 := Lib.hid (And.intro hb hT)
      clear hT hb ht0 hm0
      go_wp2_with fail
      refine (lives10 _).mono ?_
      rintro e W2 ⟨rfl, hb⟩
      have F2 := Lib.hid (And.intro (bcall F1.out.1 (Nat.le_refl _) hb) (F1.out.2.keep hb))
      clear hb F1
      go_wp2_with fail
      refine (lives10 _).mono ?_
      rintro e W3 ⟨rfl, hb⟩
      have F3 := Lib.hid (bcall F2.out.1 (Nat.le_refl _) hb)
      clear hb F2
      go_wp2_with fail
      go_ret
      exact ⟨rfl, F3.out⟩
  obtain ⟨m, rfl⟩ : ∃ m : Nat, n = (m : Int) := ⟨n.toNat, by omega⟩
  have hm : m ≤ 1100 := by omega
  have h1 : ((m : Int) < 0) = False := by simp
  have h2 : ((1100 : Int) < (m : Int)) = False := by simp; omega
  clear hr
  go_enter Try.func5, Try.ntmps5
  go_wp2_with fail
  refine (new_any _).mono ?_
  rintro e W1 ⟨t, bm, rfl, hT, hb, ht0, hm0⟩
  have HBM := Lib.hid hm0
  have F1 := Lib.hid (And.intro hb hT)
  clear hT hb ht0 hm0
  go_wp2_with fail
  refine (lives10 _).mono ?_
  rintro e W2 ⟨rfl, hb⟩
  have F2 := Lib.hid (And.intro (bcall F1.out.1 (Nat.le_refl _) hb) (F1.out.2.keep hb))
  clear hb F1
  go_wp2_with fail
  go_loopw [4] (fun iv wr => ∃ (i : Nat) (L : List Tm), i ≤ m ∧ iv = .int .i64 i ∧ TimAt wr t bm L ∧ FullT L i ∧ Below w.heap.size w wr) (fun iv _ => m - (intOf iv).toNat)
  case atStart => exact ⟨0, [], Nat.zero_le _, rfl, F2.out.2, FullT.none, F2.out.1⟩
  case round =>
    obtain ⟨i, L, hi, rfl, htab, hfs, hb⟩ := hrel
    obtain ⟨w2, rfl⟩ : ∃ w2 : World, w2 = wr := ⟨_, rfl⟩
    have G := Lib.hid (And.intro hb (And.intro htab hfs))
    clear hb htab hfs F2
    by_cases hlt : i < m
    · have hil : ((i : Int) < (m : Int)) = True := by simp; omega
      have hw3 := wrapS hlt (show m ≤ maxLen by unfold maxLen; omega)
      obtain ⟨hE, hnx⟩ := G.out.2.2.next (by omega)
      have hst := set_any G.out.2.1 (k := (fullT i).k) (okT (by show -9223372036854775808 ≤ (i : Int) ∧ (i : Int) ≤ _; omega) (by show -9223372036854775808 ≤ (7 : Int) ∧ (7 : Int) ≤ _; omega)) (i : Int)
      rw [hE] at hst
      have HS := Lib.hid (show Calls Try.prog 18 #[.pointer (some ⟨t, 0, none⟩), .agg #[.int .i64 (i : Int), .int .i64 7], .int .i64 (i : Int)] w2 fun e w' => e = .returned (.int .i64 (if 1024 ≤ i then 2 else 0)) ∧ MSet w2 w' t bm L (fullT i).k (i : Int) from hst)
      have HNX := Lib.hid hnx
      clear hst hnx
      by_cases h4 : 1024 ≤ i
      · have h4t : ((1024 : Int) ≤ (i : Int)) = True := by simp; omega
        have HE := Lib.hid (show (if 1024 ≤ i then (2 : Int) else 0) = 2 from if_pos h4)
        clear hE h4
        go_wp2_with fail
        refine HS.out.mono ?_
        rintro e w3 ⟨rfl, hs⟩
        rw [HE.out]
        have G2 := Lib.hid (show ∃ L', TimAt w3 t bm L' ∧ FullT L' (i + 1) ∧ Below w.heap.size w w3 from ⟨_, hs.tab, HNX.out, Below.step G.out.1 G.out.1.size hs.but (by simp; exact HBM.out)⟩)
        clear hs HS HNX
        go_wp2_with fail
        obtain ⟨L', g1, g2, g3⟩ := G2.out
        exact ⟨⟨i + 1, L', hlt, by first | rw [hw3] | rw [Int.natCast_succ], g1, g2, g3⟩, by first | (rw [hw3]; exact mSucc hlt) | (rw [← Int.natCast_succ]; exact mSucc hlt)⟩
      · have h4t : ((1024 : Int) ≤ (i : Int)) = False := by simp; omega
        have HE := Lib.hid (show (if 1024 ≤ i then (2 : Int) else 0) = 0 from if_neg h4)
        clear hE h4
        go_wp2_with fail
        refine HS.out.mono ?_
        rintro e w3 ⟨rfl, hs⟩
        rw [HE.out]
        have G2 := Lib.hid (show ∃ L', TimAt w3 t bm L' ∧ FullT L' (i + 1) ∧ Below w.heap.size w w3 from ⟨_, hs.tab, HNX.out, Below.step G.out.1 G.out.1.size hs.but (by simp; exact HBM.out)⟩)
        clear hs HS HNX
        go_wp2_with fail
        obtain ⟨L', g1, g2, g3⟩ := G2.out
        exact ⟨⟨i + 1, L', hlt, by first | rw [hw3] | rw [Int.natCast_succ], g1, g2, g3⟩, by first | (rw [hw3]; exact mSucc hlt) | (rw [← Int.natCast_succ]; exact mSucc hlt)⟩
    · obtain rfl : m = i := by omega
      have hil : ((m : Int) < (m : Int)) = False := by simp
      have HA := Lib.hid (at_nil (0, 0))
      have HN := Lib.hid next_nil
      have HS0 := Lib.hid (fun W => set_nil (0, 0) 1 W)
      have HST := Lib.hid (stop_nil (0, 0))
      have HD := Lib.hid (due_nil 9)
      have HL := Lib.hid len_nil
      by_cases h0 : m = 0
      · have h0t : ((m : Int) == 0) = true := by simp [h0]
        clear h0
        go_wp2_with fail
        refine (HA.out _).mono ?_
        rintro e W3 ⟨rfl, hb⟩
        have J0 := Lib.hid (And.intro (bcall G.out.1 (Nat.le_refl _) hb) (G.out.2.1.keep hb))
        clear hb G
        go_wp2_with fail
        refine (HN.out _).mono ?_
        rintro e W4 ⟨rfl, hb⟩
        have J1 := Lib.hid (And.intro (bcall J0.out.1 (Nat.le_refl _) hb) (J0.out.2.keep hb))
        clear hb J0
        go_wp2_with fail
        refine (HS0.out _).mono ?_
        rintro e W6 ⟨rfl, hb⟩
        have K0 := Lib.hid (bcall J1.out.1 (Nat.le_refl _) hb)
        clear hb J1
        go_wp2_with fail
        refine (HST.out _).mono ?_
        rintro e W7 ⟨rfl, hb⟩
        have K1 := Lib.hid (bcall K0.out (Nat.le_refl _) hb)
        clear hb K0
        go_wp2_with fail
        refine (HD.out _).mono ?_
        rintro e W8 ⟨rfl, rfl⟩
        go_wp2_with fail
        refine (HL.out _).mono ?_
        rintro e W9 ⟨rfl, rfl⟩
        go_wp2_with fail
        go_ret
        exact ⟨rfl, K1.out⟩
      · have h0t : ((m : Int) == 0) = false := by simp; omega
        have HZE := Lib.hid (fullZ_E G.out.2.1.nd G.out.2.2 (by omega))
        clear h0
        go_wp2_with fail
        refine (HA.out _).mono ?_
        rintro e W3 ⟨rfl, hb⟩
        have J0 := Lib.hid (And.intro (bcall G.out.1 (Nat.le_refl _) hb) (G.out.2.1.keep hb))
        clear hb G
        go_wp2_with fail
        refine (HN.out _).mono ?_
        rintro e W4 ⟨rfl, hb⟩
        have J1 := Lib.hid (And.intro (bcall J0.out.1 (Nat.le_refl _) hb) (J0.out.2.keep hb))
        clear hb J0
        go_wp2_with fail
        refine (set_any J1.out.2 (k := kz) (okT (by decide) (by decide)) 9).mono ?_
        rintro e W5 ⟨rfl, hs⟩
        rw [HZE.out]
        have J2 := Lib.hid (And.intro (Below.step J1.out.1 J1.out.1.size hs.but (by simp; exact HBM.out)) trivial)
        clear hs J1
        go_wp2_with fail
        refine (HS0.out _).mono ?_
        rintro e W6 ⟨rfl, hb⟩
        have K0 := Lib.hid (bcall J2.out.1 (Nat.le_refl _) hb)
        clear hb J2
        go_wp2_with fail
        refine (HST.out _).mono ?_
        rintro e W7 ⟨rfl, hb⟩
        have K1 := Lib.hid (bcall K0.out (Nat.le_refl _) hb)
        clear hb K0
        go_wp2_with fail
        refine (HD.out _).mono ?_
        rintro e W8 ⟨rfl, rfl⟩
        go_wp2_with fail
        refine (HL.out _).mono ?_
        rintro e W9 ⟨rfl, rfl⟩
        go_wp2_with fail
        go_ret
        exact ⟨rfl, K1.out⟩
end Go.Proofs.Ytfmehahjjgalfaa.Tim
