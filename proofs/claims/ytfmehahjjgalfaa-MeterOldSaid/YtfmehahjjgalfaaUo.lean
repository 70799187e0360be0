/- MeterRises: the law's walk. -/
import Derived.Test.YtfmehahjjgalfaaUm
namespace Go.Proofs.Ytfmehahjjgalfaa.Me
open Go.RowKit

def c0 : PK := (167772160, 16)
theorem okc0 : PN.ok c0 := okK (by decide) (by decide)
def inR (n : Int) : Prop := 0 ≤ n ∧ n ≤ 9007199254740991
theorem inR_M {n : Int} (h : inR n) : inM n = true := inM_iff.2 h
theorem chkL_one {k : PK} {n : Int} (hk : okP k.1 k.2 = true) (h : inR n) : chkL [⟨k, n⟩] = true := by
  have h1 : okC ⟨k, n⟩ = true := by unfold okC; rw [hk, inR_M h]; rfl
  unfold chkL
  rw [List.all_cons, h1]
  simp [ixC, setC]
theorem takeE_one {X : Nat → Src} (_hok : ∀ i, i < 16 → (X i).ok) {s : Nat} (hs : s < 16) {q n now : Int} (hq : inR q) (hn : inR n) (hnow : inR now) (hold : oldB (X s) q = false) (hlen : oth X (s : Int) 16 ≤ 15360) : takeE X (s : Int) q [⟨c0, n⟩] now = 0 := by
  have h1 : inS (s : Int) = true := by unfold inS; simp; omega
  unfold takeE chkR
  rw [chkL_one (by decide) hn, h1, inR_M hq, inR_M hnow, if_neg (by decide), Int.toNat_natCast, hold, if_neg (by decide), if_neg]
  show ¬ 16384 < oth X (s : Int) 16 + 1
  omega
theorem takeX_yes {X : Nat → Src} {s : Nat} {q now : Int} {L : List Ct} (h : takeE X (s : Int) q L now = 0) : takeX X (s : Int) q L now = fun j => if j = s then ⟨some ⟨q, now, L⟩, (X j).last⟩ else X j := by
  unfold takeX
  rw [if_pos h, Int.toNat_natCast]
def R1 (n at' : Int) : Nat → Src := fun j => if j = 0 then ⟨some ⟨1, at', [⟨c0, n⟩]⟩, none⟩ else ⟨none, none⟩
def R2 (n a from' to' : Int) : Nat → Src := fun j => if j = 0 then ⟨some ⟨2, to', [⟨c0, a⟩]⟩, some ⟨1, from', [⟨c0, n⟩]⟩⟩ else ⟨none, none⟩
theorem rp_ok {q n at' : Int} (h1 : inR q) (h2 : inR n) (h3 : inR at') : (⟨q, at', [⟨c0, n⟩]⟩ : Rp).ok := ⟨inR_M h1, inR_M h3, chkL_one (by decide) h2⟩
theorem X0_ok (i : Nat) : (X0 i).ok := ⟨fun r h => (by cases h), fun r h => (by cases h), fun _ => rfl⟩
theorem R1_ok {n at' : Int} (h : inR n) (k : inR at') (i : Nat) : (R1 n at' i).ok := by
  unfold R1
  split
  · exact ⟨fun r e => (by cases e; exact rp_ok (by unfold inR; omega) h k), fun r e => (by cases e), fun e => (by cases e)⟩
  · exact X0_ok i
set_option maxRecDepth 100000 in
theorem rE1 {n at' : Int} (h : inR n) (k : inR at') : takeE X0 ((0 : Nat) : Int) 1 [⟨c0, n⟩] at' = 0 := takeE_one (fun i _ => X0_ok i) (by decide) (by unfold inR; omega) h k rfl (by decide)
theorem rX1 {n at' : Int} (h : inR n) (k : inR at') : takeX X0 ((0 : Nat) : Int) 1 [⟨c0, n⟩] at' = R1 n at' := by
  rw [takeX_yes (rE1 h k)]
  rfl
theorem oth_none {X : Nat → Src} {k : Int} (h : ∀ j : Nat, (j : Int) ≠ k → lenO (X j) = 0) : ∀ i, oth X k i = 0
  | 0 => rfl
  | i + 1 => by
    rw [oth_succ, oth_none h i]
    split
    · rfl
    · rename_i e; rw [h i e]
theorem rE2 {n a from' to' : Int} (h : inR n) (k : inR from') (ha : inR a) (ht : inR to') : takeE (R1 n from') ((0 : Nat) : Int) 2 [⟨c0, a⟩] to' = 0 := by
  refine takeE_one (fun i _ => R1_ok h k i) (by decide) (by unfold inR; omega) ha ht rfl ?_
  rw [oth_none fun j hj => ?_]
  · exact Nat.zero_le _
  · have : j ≠ 0 := fun e => hj (by rw [e])
    unfold lenO R1
    rw [if_neg this]
theorem rX2 {n a from' to' : Int} (h : inR n) (k : inR from') (ha : inR a) (ht : inR to') : takeX (R1 n from') ((0 : Nat) : Int) 2 [⟨c0, a⟩] to' = R2 n a from' to' := by
  rw [takeX_yes (rE2 h k ha ht)]
  funext j
  unfold R1 R2
  by_cases e : j = 0
  · simp only [if_pos e]
  · simp only [if_neg e]
theorem rate_one {n a from' to' : Int} (h1 : n ≤ a) (h2 : from' < to') : rateS ⟨some ⟨2, to', [⟨c0, a⟩]⟩, some ⟨1, from', [⟨c0, n⟩]⟩⟩ c0 = (a - n).tdiv (to' - from') := by
  show rateV (hasC [⟨c0, n⟩] c0) (hasC [⟨c0, a⟩] c0) (cnt [⟨c0, n⟩] c0) (cnt [⟨c0, a⟩] c0) from' to' = _
  have e1 : ∀ z : Int, hasC [⟨c0, z⟩] c0 = true := fun z => by simp [hasC, look, Kl.look]
  have e2 : ∀ z : Int, cnt [⟨c0, z⟩] c0 = z := fun z => by simp [cnt, look, Kl.look]
  rw [e1, e1, e2, e2]
  unfold rateV
  rw [if_neg]
  simp
  omega
theorem demI_first {X : Nat → Src} {k : PK} (h0 : inR (rateS (X 0) k)) (h : ∀ j, 0 < j → rateS (X j) k = 0) : ∀ i, demI X k (i + 1) = rateS (X 0) k
  | 0 => addI_left h0
  | i + 1 => by
    show addI (demI X k (i + 1)) (rateS (X (i + 1)) k) = _
    rw [demI_first h0 h i, h (i + 1) (Nat.succ_pos _), addI_zero h0]
theorem rD {n a from' to' : Int} (h : inR n) (ha : inR a) (h1 : n ≤ a) (h2 : from' < to') : demI (R2 n a from' to') c0 16 = (a - n).tdiv (to' - from') := by
  have hr := rate_one h1 h2
  have h5 : inR ((a - n).tdiv (to' - from')) := by
    unfold inR at *
    rw [Int.tdiv_eq_ediv_of_nonneg (by omega)]
    exact ⟨Int.ediv_nonneg (by omega) (by omega), Int.le_trans (Int.ediv_le_self _ (by omega)) (by omega)⟩
  have h6 : rateS (R2 n a from' to' 0) c0 = (a - n).tdiv (to' - from') := hr
  have h7 := demI_first (X := R2 n a from' to') (k := c0) (by rw [h6]; exact h5) (fun j hj => by
    unfold R2 rateS
    rw [if_neg (by omega)]) 15
  rw [h6] at h7
  exact h7
theorem MetAt.far {w w' : World} {m k : Nat} {X Y : Nat → Src} (H : MetAt w k X) (Hm : MetAt w m Y) (hb : But w w' [m]) (hne : k ≠ m) : MetAt w' k X := by
  obtain ⟨A, h1, h2, h3, h4⟩ := H.out
  obtain ⟨B, -, g2, -⟩ := Hm.out
  have hk : ∀ j, j < w.heap.size → j ≠ m → w'.heap[j]? = w.heap[j]? := fun j hj hn => hb.block j hj (by simpa using hn)
  exact ⟨⟨A, h1, (hk k (lt_of_blk h2) hne).trans h2, h3, fun i hi => by
    obtain ⟨p, q, k1, k2, k3, k4⟩ := h4 i hi
    exact ⟨p, q, k1, k2, k3.on g2 hk, k4.on g2 hk⟩⟩, H.ok⟩
theorem div_le {x y d : Int} (h0 : 0 ≤ x) (h : x ≤ y) (hd : 0 < d) : x.tdiv d ≤ y.tdiv d := by
  rw [Int.tdiv_eq_ediv_of_nonneg h0, Int.tdiv_eq_ediv_of_nonneg (by omega)]
  exact Int.ediv_le_ediv hd h
set_option maxRecDepth 100000 in
set_option maxHeartbeats 8000000 in
theorem rises_main {w : World} {first a b from' to' : Int} (h1 : 0 ≤ first) (h2 : first ≤ a) (h3 : a ≤ b) (h4 : b ≤ 9007199254740991) (h5 : 0 ≤ from') (h6 : from' < to') (h7 : to' ≤ 9007199254740991) : Calls Try.prog 13 #[.int .i64 first, .int .i64 a, .int .i64 b, .int .i64 from', .int .i64 to'] w fun e w' => e = .returned (.bool true) ∧ Below w.heap.size w w' := by
  have a1 : (first < 0) = False := eq_false (by omega)
  have a2 : (a < first) = False := eq_false (by omega)
  have a3 : (b < a) = False := eq_false (by omega)
  have a4 : (9007199254740991 < b) = False := eq_false (by omega)
  have a5 : (from' < 0) = False := eq_false (by omega)
  have a6 : (to' ≤ from') = False := eq_false (by omega)
  have a7 : (9007199254740991 < to') = False := eq_false (by omega)
  have rf : inR first := ⟨h1, by omega⟩
  have ra : inR a := ⟨by omega, by omega⟩
  have rb : inR b := ⟨by omega, by omega⟩
  have rfr : inR from' := ⟨h5, by omega⟩
  have rt : inR to' := ⟨by omega, h7⟩
  have HE1 := Lib.hid (And.intro (rE1 rf rfr) (rX1 rf rfr))
  have HE2 := Lib.hid (And.intro (rE2 rf rfr ra rt) (rX2 rf rfr ra rt))
  have HE3 := Lib.hid (And.intro (rE2 rf rfr rb rt) (rX2 rf rfr rb rt))
  have HD1 := Lib.hid (rD (from' := from') (to' := to') rf ra h2 h6)
  have HD2 := Lib.hid (rD (from' := from') (to' := to') rf rb (by omega) h6)
  have hle : ((a - first).tdiv (to' - from') ≤ (b - first).tdiv (to' - from')) = True := eq_true (div_le (by omega) (by omega) (by omega))
  have b1 : IntKind.i64.wrap (a - first) = a - first := by rw [IntKind.wrap_i64]; omega
  have b2 : IntKind.i64.wrap (to' - from') = to' - from' := by rw [IntKind.wrap_i64]; omega
  have b3 : (to' - from' = 0) = False := eq_false (by omega)
  have b4 : IntKind.i64.wrap ((a - first).tdiv (to' - from')) = (a - first).tdiv (to' - from') := by
    have h8 : 0 ≤ (a - first).tdiv (to' - from') ∧ (a - first).tdiv (to' - from') ≤ 9007199254740991 := by
      rw [Int.tdiv_eq_ediv_of_nonneg (by omega)]
      exact ⟨Int.ediv_nonneg (by omega) (by omega), Int.le_trans (Int.ediv_le_self _ (by omega)) (by omega)⟩
    generalize (a - first).tdiv (to' - from') = z at *
    rw [IntKind.wrap_i64]; omega
  obtain ⟨d, hd0⟩ : ∃ d, to' - from' = d := ⟨_, rfl⟩
  obtain ⟨x, hx0⟩ : ∃ x, a - first = x := ⟨_, rfl⟩
  replace b1 := b1.trans hx0
  replace b2 := b2.trans hd0
  rw [hd0, hx0] at HD1 hle b4
  rw [hd0] at HD2 b3
  obtain ⟨z, hz0⟩ : ∃ z, x.tdiv d = z := ⟨_, rfl⟩
  rw [hz0] at b4 HD1 hle
  generalize (b - first).tdiv d = z2 at *
  have hzz : (z == z) = true := by simp
  clear h1 h2 h3 h4 h5 h6 h7 rf ra rb rfr rt hd0 hx0
  go_enter Try.func13, Try.ntmps13
  go_wp2_with fail
  refine (mnew_any _).mono ?_
  rintro e W1 ⟨rfl, hT, hb⟩
  have F1 := Lib.hid (And.intro hb (show MetAt W1 w.heap.size X0 from hT))
  obtain ⟨m, hm⟩ : ∃ m, w.heap.size = m := ⟨_, rfl⟩
  have F1 := Lib.hid (show Below w.heap.size w W1 ∧ MetAt W1 m X0 from hm ▸ F1.out)
  have HM0 := Lib.hid (show w.heap.size ≤ m from Nat.le_of_eq hm)
  rw [hm]
  clear hm hT hb
  go_wp2_with fail
  refine (mnew_any _).mono ?_
  rintro e W2 ⟨rfl, hT, hb⟩
  have HBM := Lib.hid (And.intro HM0.out (And.intro (Nat.le_trans HM0.out (Nat.le_of_lt F1.out.2.lt)) (Nat.ne_of_lt F1.out.2.lt)))
  have F0 := Lib.hid (And.intro (bcall F1.out.1 (Nat.le_refl _) hb) (And.intro (F1.out.2.keep hb) (show MetAt W2 W1.heap.size X0 from hT)))
  clear hT hb F1
  generalize W1.heap.size = k at *
  go_wp2_with fail
  refine (lives17 _).mono ?_
  rintro e W3 ⟨rfl, hb⟩
  have F30 := Lib.hid (And.intro (bcall F0.out.1 (Nat.le_refl _) hb) (And.intro (F0.out.2.1.keep hb) ((F0.out.2.2.keep hb))))
  clear F0
  clear hb
  go_wp2_with fail
  refine (ten0 _).mono ?_
  rintro e W4 ⟨rfl, hb⟩
  have F31 := Lib.hid (And.intro (bcall F30.out.1 (Nat.le_refl _) hb) (And.intro (F30.out.2.1.keep hb) ((F30.out.2.2.keep hb))))
  clear F30
  clear hb
  go_wp2_with fail
  refine (one_any ((0 : Nat) : Int) 1 c0 first _).mono ?_
  rintro e W5 ⟨b1, rfl, hs, hb⟩
  have F32 := Lib.hid (And.intro (bcall F31.out.1 (Nat.le_refl _) hb) (And.intro (F31.out.2.1.keep hb) (And.intro (F31.out.2.2.keep hb) (hs))))
  clear F31
  clear hb hs
  go_wp2_with fail
  have hg := take_any F32.out.2.1 (Cts.one F32.out.2.2.2 ⟨by decide, okc0⟩) ((0 : Nat) : Int) 1 from'
  rw [HE1.out.1, HE1.out.2] at hg
  refine hg.mono ?_
  rintro e W6 ⟨rfl, hs⟩
  have hmet := hs.met
  have hoth := F32.out.2.2.1.far F32.out.2.1 hs.but (Ne.symm HBM.out.2.2)
  have hbel := Below.step F32.out.1 F32.out.1.size hs.but (by simp; exact HBM.out.1)
  have F33 := Lib.hid (And.intro hbel (And.intro hmet hoth))
  clear F32 hg hs hmet hoth hbel
  go_wp2_with fail
  refine (ten0 _).mono ?_
  rintro e W7 ⟨rfl, hb⟩
  have F34 := Lib.hid (And.intro (bcall F33.out.1 (Nat.le_refl _) hb) (And.intro (F33.out.2.1.keep hb) ((F33.out.2.2.keep hb))))
  clear F33
  clear hb
  go_wp2_with fail
  refine (one_any ((0 : Nat) : Int) 1 c0 first _).mono ?_
  rintro e W8 ⟨b2, rfl, hs, hb⟩
  have F35 := Lib.hid (And.intro (bcall F34.out.1 (Nat.le_refl _) hb) (And.intro (F34.out.2.1.keep hb) (And.intro (F34.out.2.2.keep hb) (hs))))
  clear F34
  clear hb hs
  go_wp2_with fail
  have hg := take_any F35.out.2.2.1 (Cts.one F35.out.2.2.2 ⟨by decide, okc0⟩) ((0 : Nat) : Int) 1 from'
  rw [HE1.out.1, HE1.out.2] at hg
  refine hg.mono ?_
  rintro e W9 ⟨rfl, hs⟩
  have hmet := hs.met
  have hoth := F35.out.2.1.far F35.out.2.2.1 hs.but (HBM.out.2.2)
  have hbel := Below.step F35.out.1 F35.out.1.size hs.but (by simp; exact HBM.out.2.1)
  have F36 := Lib.hid (And.intro hbel (And.intro hoth hmet))
  clear F35 hg hs hmet hoth hbel
  go_wp2_with fail
  refine (ten0 _).mono ?_
  rintro e W10 ⟨rfl, hb⟩
  have F37 := Lib.hid (And.intro (bcall F36.out.1 (Nat.le_refl _) hb) (And.intro (F36.out.2.1.keep hb) ((F36.out.2.2.keep hb))))
  clear F36
  clear hb
  go_wp2_with fail
  refine (one_any ((0 : Nat) : Int) 2 c0 a _).mono ?_
  rintro e W11 ⟨b3, rfl, hs, hb⟩
  have F38 := Lib.hid (And.intro (bcall F37.out.1 (Nat.le_refl _) hb) (And.intro (F37.out.2.1.keep hb) (And.intro (F37.out.2.2.keep hb) (hs))))
  clear F37
  clear hb hs
  go_wp2_with fail
  have hg := take_any F38.out.2.1 (Cts.one F38.out.2.2.2 ⟨by decide, okc0⟩) ((0 : Nat) : Int) 2 to'
  rw [HE2.out.1, HE2.out.2] at hg
  refine hg.mono ?_
  rintro e W12 ⟨rfl, hs⟩
  have hmet := hs.met
  have hoth := F38.out.2.2.1.far F38.out.2.1 hs.but (Ne.symm HBM.out.2.2)
  have hbel := Below.step F38.out.1 F38.out.1.size hs.but (by simp; exact HBM.out.1)
  have F39 := Lib.hid (And.intro hbel (And.intro hmet hoth))
  clear F38 hg hs hmet hoth hbel
  go_wp2_with fail
  refine (ten0 _).mono ?_
  rintro e W13 ⟨rfl, hb⟩
  have F40 := Lib.hid (And.intro (bcall F39.out.1 (Nat.le_refl _) hb) (And.intro (F39.out.2.1.keep hb) ((F39.out.2.2.keep hb))))
  clear F39
  clear hb
  go_wp2_with fail
  refine (one_any ((0 : Nat) : Int) 2 c0 b _).mono ?_
  rintro e W14 ⟨b4, rfl, hs, hb⟩
  have F41 := Lib.hid (And.intro (bcall F40.out.1 (Nat.le_refl _) hb) (And.intro (F40.out.2.1.keep hb) (And.intro (F40.out.2.2.keep hb) (hs))))
  clear F40
  clear hb hs
  go_wp2_with fail
  have hg := take_any F41.out.2.2.1 (Cts.one F41.out.2.2.2 ⟨by decide, okc0⟩) ((0 : Nat) : Int) 2 to'
  rw [HE3.out.1, HE3.out.2] at hg
  refine hg.mono ?_
  rintro e W15 ⟨rfl, hs⟩
  have hmet := hs.met
  have hoth := F41.out.2.1.far F41.out.2.2.1 hs.but (HBM.out.2.2)
  have hbel := Below.step F41.out.1 F41.out.1.size hs.but (by simp; exact HBM.out.2.1)
  have F42 := Lib.hid (And.intro hbel (And.intro hoth hmet))
  clear F41 hg hs hmet hoth hbel
  go_wp2_with fail
  refine wp_region_heldP (fun _ => True) (by kernel_rfl) ?_
  have hd := (Below.refl W15.heap.size W15).drew
  have F43 := Lib.hid (And.intro (bcall F42.out.1 (Nat.le_refl _) hd) (And.intro (F42.out.2.1.keep hd) ((F42.out.2.2.keep hd))))
  clear F42
  clear hd
  generalize W15.drew = W16 at *
  refine held_reads [0, 1, 2, 3, 4, 5, 6, 7, 8, 9, 10, 11, 12, 13, 14, 15, 18] (g := 20) rfl (by kernel_rfl) trivial (fun _ _ d _ _ h => by cases d <;> exact h) ?_
  simp only [pick, List.getD_cons_zero, List.getD_cons_succ]
  ((with_reducible refine wpRead_step (fun K hK => ?_)); go_simp; first | ((with_reducible refine hK _ ?_); clear hK K) | (apply Exists.intro; (with_reducible refine ⟨fun w' hw' => ?_, hK _ ?_⟩); (first | exact rfl | exact ⟨rfl, rfl⟩); clear hK K))
  ((with_reducible refine wpRead_step (fun K hK => ?_)); go_simp; first | ((with_reducible refine hK _ ?_); clear hK K) | (apply Exists.intro; (with_reducible refine ⟨fun w' hw' => ?_, hK _ ?_⟩); (first | exact rfl | exact ⟨rfl, rfl⟩); clear hK K))
  ((with_reducible refine wpRead_step (fun K hK => ?_)); go_simp; first | ((with_reducible refine hK _ ?_); clear hK K) | (apply Exists.intro; (with_reducible refine ⟨fun w' hw' => ?_, hK _ ?_⟩); (first | exact rfl | exact ⟨rfl, rfl⟩); clear hK K))
  ((with_reducible refine wpRead_step (fun K hK => ?_)); go_simp; first | ((with_reducible refine hK _ ?_); clear hK K) | (apply Exists.intro; (with_reducible refine ⟨fun w' hw' => ?_, hK _ ?_⟩); (first | exact rfl | exact ⟨rfl, rfl⟩); clear hK K))
  ((with_reducible refine wpRead_step (fun K hK => ?_)); go_simp; first | ((with_reducible refine hK _ ?_); clear hK K) | (apply Exists.intro; (with_reducible refine ⟨fun w' hw' => ?_, hK _ ?_⟩); (first | exact rfl | exact ⟨rfl, rfl⟩); clear hK K))
  ((with_reducible refine wpRead_step (fun K hK => ?_)); go_simp; first | ((with_reducible refine hK _ ?_); clear hK K) | (apply Exists.intro; (with_reducible refine ⟨fun w' hw' => ?_, hK _ ?_⟩); (first | exact rfl | exact ⟨rfl, rfl⟩); clear hK K))
  ((with_reducible refine wpRead_step (fun K hK => ?_)); go_simp; first | ((with_reducible refine hK _ ?_); clear hK K) | (apply Exists.intro; (with_reducible refine ⟨fun w' hw' => ?_, hK _ ?_⟩); (first | exact rfl | exact ⟨rfl, rfl⟩); clear hK K))
  ((with_reducible refine wpRead_step (fun K hK => ?_)); go_simp; first | ((with_reducible refine hK _ ?_); clear hK K) | (apply Exists.intro; (with_reducible refine ⟨fun w' hw' => ?_, hK _ ?_⟩); (first | exact rfl | exact ⟨rfl, rfl⟩); clear hK K))
  ((with_reducible refine wpRead_step (fun K hK => ?_)); go_simp; first | ((with_reducible refine hK _ ?_); clear hK K) | (apply Exists.intro; (with_reducible refine ⟨fun w' hw' => ?_, hK _ ?_⟩); (first | exact rfl | exact ⟨rfl, rfl⟩); clear hK K))
  ((with_reducible refine wpRead_step (fun K hK => ?_)); go_simp; first | ((with_reducible refine hK _ ?_); clear hK K) | (apply Exists.intro; (with_reducible refine ⟨fun w' hw' => ?_, hK _ ?_⟩); (first | exact rfl | exact ⟨rfl, rfl⟩); clear hK K))
  ((with_reducible refine wpRead_step (fun K hK => ?_)); go_simp; first | ((with_reducible refine hK _ ?_); clear hK K) | (apply Exists.intro; (with_reducible refine ⟨fun w' hw' => ?_, hK _ ?_⟩); (first | exact rfl | exact ⟨rfl, rfl⟩); clear hK K))
  ((with_reducible refine wpRead_step (fun K hK => ?_)); go_simp; first | ((with_reducible refine hK _ ?_); clear hK K) | (apply Exists.intro; (with_reducible refine ⟨fun w' hw' => ?_, hK _ ?_⟩); (first | exact rfl | exact ⟨rfl, rfl⟩); clear hK K))
  ((with_reducible refine wpRead_step (fun K hK => ?_)); go_simp; first | ((with_reducible refine hK _ ?_); clear hK K) | (apply Exists.intro; (with_reducible refine ⟨fun w' hw' => ?_, hK _ ?_⟩); (first | exact rfl | exact ⟨rfl, rfl⟩); clear hK K))
  ((with_reducible refine wpRead_step (fun K hK => ?_)); go_simp; first | ((with_reducible refine hK _ ?_); clear hK K) | (apply Exists.intro; (with_reducible refine ⟨fun w' hw' => ?_, hK _ ?_⟩); (first | exact rfl | exact ⟨rfl, rfl⟩); clear hK K))
  ((with_reducible refine wpRead_step (fun K hK => ?_)); go_simp; first | ((with_reducible refine hK _ ?_); clear hK K) | (apply Exists.intro; (with_reducible refine ⟨fun w' hw' => ?_, hK _ ?_⟩); (first | exact rfl | exact ⟨rfl, rfl⟩); clear hK K))
  ((with_reducible refine wpRead_step (fun K hK => ?_)); go_simp; first | ((with_reducible refine hK _ ?_); clear hK K) | (apply Exists.intro; (with_reducible refine ⟨fun w' hw' => ?_, hK _ ?_⟩); (first | exact rfl | exact ⟨rfl, rfl⟩); clear hK K))
  ((with_reducible refine wpRead_step (fun K hK => ?_)); go_simp; first | ((with_reducible refine hK _ ?_); clear hK K) | (apply Exists.intro; (with_reducible refine ⟨fun w' hw' => ?_, hK _ ?_⟩); (first | exact rfl | exact ⟨rfl, rfl⟩); clear hK K))
  with_reducible refine wpRead_nil ?_
  refine held_one 16 (by kernel_rfl) ?_
  simp only [pick, List.getD_cons_zero, List.getD_cons_succ]
  go_wp2_with fail
  refine (ten0 _).mono ?_
  rintro e W17 ⟨rfl, hb⟩
  have F44 := Lib.hid (And.intro (bcall F43.out.1 (Nat.le_refl _) hb) (And.intro (F43.out.2.1.keep hb) ((F43.out.2.2.keep hb))))
  clear F43
  clear hb
  go_wp2_with fail
  refine ⟨trivial, ?_⟩
  refine held_one 17 (by kernel_rfl) ?_
  simp only [pick, List.getD_cons_zero, List.getD_cons_succ]
  go_wp2_with fail
  have hg := demand_any F44.out.2.1 okc0
  rw [HD1.out] at hg
  refine hg.mono ?_
  rintro e W18 ⟨rfl, hb⟩
  clear hg
  have F45 := Lib.hid (And.intro (bcall F44.out.1 (Nat.le_refl _) hb) (And.intro (F44.out.2.1.keep hb) ((F44.out.2.2.keep hb))))
  clear F44
  clear hb
  go_wp2_with fail
  refine ⟨trivial, ?_⟩
  refine held_one 19 (by kernel_rfl) ?_
  simp only [pick, List.getD_cons_zero, List.getD_cons_succ]
  go_wp2_with fail
  refine (ten0 _).mono ?_
  rintro e W19 ⟨rfl, hb⟩
  have F46 := Lib.hid (And.intro (bcall F45.out.1 (Nat.le_refl _) hb) (And.intro (F45.out.2.1.keep hb) ((F45.out.2.2.keep hb))))
  clear F45
  clear hb
  go_wp2_with fail
  refine ⟨trivial, ?_⟩
  refine held_one 20 (by kernel_rfl) ?_
  simp only [pick, List.getD_cons_zero, List.getD_cons_succ]
  go_wp2_with fail
  have hg := demand_any F46.out.2.2 okc0
  rw [HD2.out] at hg
  refine hg.mono ?_
  rintro e W20 ⟨rfl, hb⟩
  clear hg
  have F47 := Lib.hid (And.intro (bcall F46.out.1 (Nat.le_refl _) hb) (And.intro (F46.out.2.1.keep hb) ((F46.out.2.2.keep hb))))
  clear F46
  clear hb
  go_wp2_with fail
  refine ⟨trivial, ?_⟩
  refine held_reads [21, 22, 23, 24, 27, 28, 29, 30, 31, 32, 33] (g := 5) rfl (by kernel_rfl) trivial (fun _ _ d _ _ h => by cases d <;> exact h) ?_
  simp only [pick, List.getD_cons_zero, List.getD_cons_succ]
  ((with_reducible refine wpRead_step (fun K hK => ?_)); go_simp; first | ((with_reducible refine hK _ ?_); clear hK K) | (apply Exists.intro; (with_reducible refine ⟨fun w' hw' => ?_, hK _ ?_⟩); (first | exact rfl | exact ⟨rfl, rfl⟩); clear hK K))
  ((with_reducible refine wpRead_step (fun K hK => ?_)); go_simp; first | ((with_reducible refine hK _ ?_); clear hK K) | (apply Exists.intro; (with_reducible refine ⟨fun w' hw' => ?_, hK _ ?_⟩); (first | exact rfl | exact ⟨rfl, rfl⟩); clear hK K))
  ((with_reducible refine wpRead_step (fun K hK => ?_)); go_simp; first | ((with_reducible refine hK _ ?_); clear hK K) | (apply Exists.intro; (with_reducible refine ⟨fun w' hw' => ?_, hK _ ?_⟩); (first | exact rfl | exact ⟨rfl, rfl⟩); clear hK K))
  ((with_reducible refine wpRead_step (fun K hK => ?_)); go_simp; first | ((with_reducible refine hK _ ?_); clear hK K) | (apply Exists.intro; (with_reducible refine ⟨fun w' hw' => ?_, hK _ ?_⟩); (first | exact rfl | exact ⟨rfl, rfl⟩); clear hK K))
  ((with_reducible refine wpRead_step (fun K hK => ?_)); go_simp; first | ((with_reducible refine hK _ ?_); clear hK K) | (apply Exists.intro; (with_reducible refine ⟨fun w' hw' => ?_, hK _ ?_⟩); (first | exact rfl | exact ⟨rfl, rfl⟩); clear hK K))
  ((with_reducible refine wpRead_step (fun K hK => ?_)); go_simp; first | ((with_reducible refine hK _ ?_); clear hK K) | (apply Exists.intro; (with_reducible refine ⟨fun w' hw' => ?_, hK _ ?_⟩); (first | exact rfl | exact ⟨rfl, rfl⟩); clear hK K))
  ((with_reducible refine wpRead_step (fun K hK => ?_)); go_simp; first | ((with_reducible refine hK _ ?_); clear hK K) | (apply Exists.intro; (with_reducible refine ⟨fun w' hw' => ?_, hK _ ?_⟩); (first | exact rfl | exact ⟨rfl, rfl⟩); clear hK K))
  ((with_reducible refine wpRead_step (fun K hK => ?_)); go_simp; first | ((with_reducible refine hK _ ?_); clear hK K) | (apply Exists.intro; (with_reducible refine ⟨fun w' hw' => ?_, hK _ ?_⟩); (first | exact rfl | exact ⟨rfl, rfl⟩); clear hK K))
  ((with_reducible refine wpRead_step (fun K hK => ?_)); go_simp; first | ((with_reducible refine hK _ ?_); clear hK K) | (apply Exists.intro; (with_reducible refine ⟨fun w' hw' => ?_, hK _ ?_⟩); (first | exact rfl | exact ⟨rfl, rfl⟩); clear hK K))
  ((with_reducible refine wpRead_step (fun K hK => ?_)); go_simp; first | ((with_reducible refine hK _ ?_); clear hK K) | (apply Exists.intro; (with_reducible refine ⟨fun w' hw' => ?_, hK _ ?_⟩); (first | exact rfl | exact ⟨rfl, rfl⟩); clear hK K))
  ((with_reducible refine wpRead_step (fun K hK => ?_)); go_simp; first | ((with_reducible refine hK _ ?_); clear hK K) | (apply Exists.intro; (with_reducible refine ⟨fun w' hw' => ?_, hK _ ?_⟩); (first | exact rfl | exact ⟨rfl, rfl⟩); clear hK K))
  with_reducible refine wpRead_nil ?_
  refine held_one 25 (by kernel_rfl) ?_
  simp only [pick, List.getD_cons_zero, List.getD_cons_succ]
  go_wp2_with fail
  refine (ten0 _).mono ?_
  rintro e W21 ⟨rfl, hb⟩
  have F48 := Lib.hid (And.intro (bcall F47.out.1 (Nat.le_refl _) hb) (And.intro (F47.out.2.1.keep hb) ((F47.out.2.2.keep hb))))
  clear F47
  clear hb
  go_wp2_with fail
  refine ⟨trivial, ?_⟩
  refine held_one 26 (by kernel_rfl) ?_
  simp only [pick, List.getD_cons_zero, List.getD_cons_succ]
  go_wp2_with fail
  have hg := demand_any F48.out.2.1 okc0
  rw [HD1.out] at hg
  refine hg.mono ?_
  rintro e W22 ⟨rfl, hb⟩
  clear hg
  have F49 := Lib.hid (And.intro (bcall F48.out.1 (Nat.le_refl _) hb) (And.intro (F48.out.2.1.keep hb) ((F48.out.2.2.keep hb))))
  clear F48
  clear hb
  go_wp2_with fail
  refine ⟨trivial, ?_⟩
  refine held_reads [34, 35] (g := 1) rfl (by kernel_rfl) trivial (fun _ _ d _ _ h => by cases d <;> exact h) ?_
  simp only [pick, List.getD_cons_zero, List.getD_cons_succ]
  ((with_reducible refine wpRead_step (fun K hK => ?_)); go_simp; first | ((with_reducible refine hK _ ?_); clear hK K) | (apply Exists.intro; (with_reducible refine ⟨fun w' hw' => ?_, hK _ ?_⟩); (first | exact rfl | exact ⟨rfl, rfl⟩); clear hK K))
  ((with_reducible refine wpRead_step (fun K hK => ?_)); go_simp; first | ((with_reducible refine hK _ ?_); clear hK K) | (apply Exists.intro; (with_reducible refine ⟨fun w' hw' => ?_, hK _ ?_⟩); (first | exact rfl | exact ⟨rfl, rfl⟩); clear hK K))
  with_reducible refine wpRead_nil ?_
  refine held_one 36 (by kernel_rfl) ?_
  simp only [pick, List.getD_cons_zero, List.getD_cons_succ]
  go_wp2_with fail
  refine ⟨trivial, ?_⟩
  refine wpAnyH_done (by kernel_rfl) ?_ _
  go_wp2_with fail
  go_ret
  exact ⟨rfl, F49.out.1⟩
theorem mrises_law (first a b from' to' : Int) (w : World) : Calls Try.prog 13 #[.int .i64 first, .int .i64 a, .int .i64 b, .int .i64 from', .int .i64 to'] w fun e w' => e = .returned (.bool true) ∧ Below w.heap.size w w' := by
  by_cases k1 : first < 0
  · have e1 := eq_true k1
    clear k1
    go_enter Try.func13, Try.ntmps13
    go_wp2_with fail
    refine (lives17 _).mono ?_
    rintro e W3 ⟨rfl, hb⟩
    have F4 := Lib.hid hb
    clear hb
    go_wp2_with fail
    go_ret
    exact ⟨rfl, F4.out⟩
  by_cases k2 : a < first
  · have e1 := eq_false k1
    have e2 := eq_true k2
    clear k1 k2
    go_enter Try.func13, Try.ntmps13
    go_wp2_with fail
    refine (lives17 _).mono ?_
    rintro e W3 ⟨rfl, hb⟩
    have F4 := Lib.hid hb
    clear hb
    go_wp2_with fail
    go_ret
    exact ⟨rfl, F4.out⟩
  by_cases k3 : b < a
  · have e1 := eq_false k1
    have e2 := eq_false k2
    have e3 := eq_true k3
    clear k1 k2 k3
    go_enter Try.func13, Try.ntmps13
    go_wp2_with fail
    refine (lives17 _).mono ?_
    rintro e W3 ⟨rfl, hb⟩
    have F4 := Lib.hid hb
    clear hb
    go_wp2_with fail
    go_ret
    exact ⟨rfl, F4.out⟩
  by_cases k4 : 9007199254740991 < b
  · have e1 := eq_false k1
    have e2 := eq_false k2
    have e3 := eq_false k3
    have e4 := eq_true k4
    clear k1 k2 k3 k4
    go_enter Try.func13, Try.ntmps13
    go_wp2_with fail
    refine (lives17 _).mono ?_
    rintro e W3 ⟨rfl, hb⟩
    have F4 := Lib.hid hb
    clear hb
    go_wp2_with fail
    go_ret
    exact ⟨rfl, F4.out⟩
  by_cases k5 : from' < 0
  · have e1 := eq_false k1
    have e2 := eq_false k2
    have e3 := eq_false k3
    have e4 := eq_false k4
    have e5 := eq_true k5
    clear k1 k2 k3 k4 k5
    go_enter Try.func13, Try.ntmps13
    go_wp2_with fail
    refine (lives17 _).mono ?_
    rintro e W3 ⟨rfl, hb⟩
    have F4 := Lib.hid hb
    clear hb
    go_wp2_with fail
    go_ret
    exact ⟨rfl, F4.out⟩
  by_cases k6 : to' ≤ from'
  · have e1 := eq_false k1
    have e2 := eq_false k2
    have e3 := eq_false k3
    have e4 := eq_false k4
    have e5 := eq_false k5
    have e6 := eq_true k6
    clear k1 k2 k3 k4 k5 k6
    go_enter Try.func13, Try.ntmps13
    go_wp2_with fail
    refine (lives17 _).mono ?_
    rintro e W3 ⟨rfl, hb⟩
    have F4 := Lib.hid hb
    clear hb
    go_wp2_with fail
    go_ret
    exact ⟨rfl, F4.out⟩
  by_cases k7 : 9007199254740991 < to'
  · have e1 := eq_false k1
    have e2 := eq_false k2
    have e3 := eq_false k3
    have e4 := eq_false k4
    have e5 := eq_false k5
    have e6 := eq_false k6
    have e7 := eq_true k7
    clear k1 k2 k3 k4 k5 k6 k7
    go_enter Try.func13, Try.ntmps13
    go_wp2_with fail
    refine (lives17 _).mono ?_
    rintro e W3 ⟨rfl, hb⟩
    have F4 := Lib.hid hb
    clear hb
    go_wp2_with fail
    go_ret
    exact ⟨rfl, F4.out⟩
  exact rises_main (by omega) (by omega) (by omega) (by omega) (by omega) (by omega) (by omega)
end Go.Proofs.Ytfmehahjjgalfaa.Me
