/- MeterRises: the law's walk. -/
import Derived.Test.YtfmehahjjgalfaaQal
namespace Go.Proofs.Ytfmehahjjgalfaa.Me
open Go.RowKit

def c0 : PK := (167772160, 16)
theorem okc0 : PN.ok c0 := okK (by decide) (by decide)
def inR (n : Int) : Prop := 0 ≤ n ∧ n ≤ 9007199254740991
theorem inR_M {n : Int} (h : inR n) : inM n = true := inM_iff.2 h
theorem chkL_one {k : PK} {n : Int} (hk : okP k.1 k.2 = true) (h : inR n) : chkL [⟨k, n⟩] = true := by
  have h1 : okC ⟨k, n⟩ = true := by unfold okC; rw [hk, inR_M h]; rfl
  unfold chkL
  rw [List.all_cons, h1]
  simp [ixC, setC]
theorem takeE_one {X : Nat → Src} (_hok : ∀ i, i < 16 → (X i).ok) {s : Nat} (hs : s < 16) {q n now : Int} (hq : inR q) (hn : inR n) (hnow : inR now) (hold : oldB (X s) q = false) (hlen : oth X (s : Int) 16 ≤ 15360) : takeE X (s : Int) q [⟨c0, n⟩] now = 0 := by
  have h1 : inS (s : Int) = true := by unfold inS; simp; omega
  unfold takeE chkR
  rw [chkL_one (by decide) hn, h1, inR_M hq, inR_M hnow, if_neg (by decide), Int.toNat_natCast, hold, if_neg (by decide), if_neg]
  show ¬ 16384 < oth X (s : Int) 16 + 1
  omega
theorem takeX_yes {X : Nat → Src} {s : Nat} {q now : Int} {L : List Ct} (h : takeE X (s : Int) q L now = 0) : takeX X (s : Int) q L now = fun j => if j = s then ⟨some ⟨q, now, L⟩, (X j).last⟩ else X j := by
  unfold takeX
  rw [if_pos h, Int.toNat_natCast]
def R1 (n at' : Int) : Nat → Src := fun j => if j = 0 then ⟨some ⟨1, at', [⟨c0, n⟩]⟩, none⟩ else ⟨none, none⟩
def R2 (n a from' to' : Int) : Nat → Src := fun j => if j = 0 then ⟨some ⟨2, to', [⟨c0, a⟩]⟩, some ⟨1, from', [⟨c0, n⟩]⟩⟩ else ⟨none, none⟩
theorem rp_ok {q n at' : Int} (h1 : inR q) (h2 : inR n) (h3 : inR at') : (⟨q, at', [⟨c0, n⟩]⟩ : Rp).ok := ⟨inR_M h1, inR_M h3, chkL_one (by decide) h2⟩
theorem X0_ok (i : Nat) : (X0 i).ok := ⟨fun r h => (by cases h), fun r h => (by cases h), fun _ => rfl⟩
theorem R1_ok {n at' : Int} (h : inR n) (k : inR at') (i : Nat) : (R1 n at' i).ok := by
  unfold R1
  split
  · exact ⟨fun r e => (by cases e; exact rp_ok (by unfold inR; omega) h k), fun r e => (by cases e), fun e => (by cases e)⟩
  · exact X0_ok i
set_option maxRecDepth 100000 in
theorem rE1 {n at' : Int} (h : inR n) (k : inR at') : takeE X0 ((0 : Nat) : Int) 1 [⟨c0, n⟩] at' = 0 := takeE_one (fun i _ => X0_ok i) (by decide) (by unfold inR; omega) h k rfl (by decide)
theorem rX1 {n at' : Int} (h : inR n) (k : inR at') : takeX X0 ((0 : Nat) : Int) 1 [⟨c0, n⟩] at' = R1 n at' := by
  rw [takeX_yes (rE1 h k)]
  rfl
theorem oth_none {X : Nat → Src} {k : Int} (h : ∀ j : Nat, (j : Int) ≠ k → lenO (X j) = 0) : ∀ i, oth X k i = 0
  | 0 => rfl
  | i + 1 => by
    rw [oth_succ, oth_none h i]
    split
    · rfl
    · rename_i e; rw [h i e]
theorem rE2 {n a from' to' : Int} (h : inR n) (k : inR from') (ha : inR a) (ht : inR to') : takeE (R1 n from') ((0 : Nat) : Int) 2 [⟨c0, a⟩] to' = 0 := by
  refine takeE_one (fun i _ => R1_ok h k i) (by decide) (by unfold inR; omega) ha ht rfl ?_
  rw [oth_none fun j hj => ?_]
  · exact Nat.zero_le _
  · have : j ≠ 0 := fun e => hj (by rw [e])
    unfold lenO R1
    rw [if_neg this]
theorem rX2 {n a from' to' : Int} (h : inR n) (k : inR from') (ha : inR a) (ht : inR to') : takeX (R1 n from') ((0 : Nat) : Int) 2 [⟨c0, a⟩] to' = R2 n a from' to' := by
  rw [takeX_yes (rE2 h k ha ht)]
  funext j
  unfold R1 R2
  by_cases e : j = 0
  · simp only [if_pos e]
  · simp only [if_neg e]
theorem rate_one {n a from' to' : Int} (h1 : n ≤ a) (h2 : from' < to') : rateS ⟨some ⟨2, to', [⟨c0, a⟩]⟩, some ⟨1, from', [⟨c0, n⟩]⟩⟩ c0 = (a - n).tdiv (to' - from') := by
  show rateV (hasC [⟨c0, n⟩] c0) (hasC [⟨c0, a⟩] c0) (cnt [⟨c0, n⟩] c0) (cnt [⟨c0, a⟩] c0) from' to' = _
  have e1 : ∀ z : Int, hasC [⟨c0, z⟩] c0 = true := fun z => by simp [hasC, look, Kl.look]
  have e2 : ∀ z : Int, cnt [⟨c0, z⟩] c0 = z := fun z => by simp [cnt, look, Kl.look]
  rw [e1, e1, e2, e2]
  unfold rateV
  rw [if_neg]
  simp
  omega
theorem demI_first {X : Nat → Src} {k : PK} (h0 : inR (rateS (X 0) k)) (h : ∀ j, 0 < j → rateS (X j) k = 0) : ∀ i, demI X k (i + 1) = rateS (X 0) k
  | 0 => addI_left h0
  | i + 1 => by
    show addI (demI X k (i + 1)) (rateS (X (i + 1)) k) = _
    rw [demI_first h0 h i, h (i + 1) (Nat.succ_pos _), addI_zero h0]
theorem rD {n a from' to' : Int} (h : inR n) (ha : inR a) (h1 : n ≤ a) (h2 : from' < to') : demI (R2 n a from' to') c0 16 = (a - n).tdiv (to' - from') := by
  have hr := rate_one h1 h2
  have h5 : inR ((a - n).tdiv (to' - from')) := by
    unfold inR at *
    rw [Int.tdiv_eq_ediv_of_nonneg (by omega)]
    exact ⟨Int.ediv_nonneg (by omega) (by omega), Int.le_trans (Int.ediv_le_self _ (by omega)) (by omega)⟩
  have h6 : rateS (R2 n a from' to' 0) c0 = (a - n).tdiv (to' - from') := hr
  have h7 := demI_first (X := R2 n a from' to') (k := c0) (by rw [h6]; exact h5) (fun j hj => by
    unfold R2 rateS
    rw [if_neg (by omega)]) 15
  rw [h6] at h7
  exact h7
theorem MetAt.far {w w' : World} {m k : Nat} {X Y : Nat → Src} (H : MetAt w k X) (Hm : MetAt w m Y) (hb : But w w' [m]) (hne : k ≠ m) : MetAt w' k X := by
  obtain ⟨A, h1, h2, h3, h4⟩ := H.out
  obtain ⟨B, -, g2, -⟩ := Hm.out
  have hk : ∀ j, j < w.heap.size → j ≠ m → w'.heap[j]? = w.heap[j]? := fun j hj hn => hb.block j hj (by simpa using hn)
  exact ⟨⟨A, h1, (hk k (lt_of_blk h2) hne).trans h2, h3, fun i hi => by
    obtain ⟨p, q, k1, k2, k3, k4⟩ := h4 i hi
    exact ⟨p, q, k1, k2, k3.on g2 hk, k4.on g2 hk⟩⟩, H.ok⟩
theorem div_le {x y d : Int} (h0 : 0 ≤ x) (h : x ≤ y) (hd : 0 < d) : x.tdiv d ≤ y.tdiv d := by
  rw [Int.tdiv_eq_ediv_of_nonneg h0, Int.tdiv_eq_ediv_of_nonneg (by omega)]
  exact Int.ediv_le_ediv hd h
set_option maxRecDepth 100000 in
set_option maxHeartbeats 8000000 in
theorem rises_main {w : World} {first a b from' to' : Int} (h1 : 0 ≤ first) (h2 : first ≤ a) (h3 : a ≤ b) (h4 : b ≤ 9007199254740991) (h5 : 0 ≤ from') (h6 : from' < to') (h7 : to' ≤ 9007199254740991) : Calls Try.prog 13 #[.int .i64 first, .int .i64 a, .int .i64 b, .int .i64 from', .int .i64 to'] w fun e w' => e = .returned (.bool true) ∧ Below w.heap.size w w' := by
  have a1 : (first < 0) = False := eq_false (by omega)
  have a2 : (a < first) = False := eq_false (by omega)
  have a3 : (b < a) = False := eq_false (by omega)
  have a4 : (9007199254740991 < b) = False := eq_false (by omega)
  have a5 : (from' < 0) = False := eq_false (by omega)
  have a6 : (to' ≤ from') = False := eq_false (by omega)
  have a7 : (9007199254740991 < to') = False := eq_false (by omega)
  have rf : inR first := ⟨h1, by omega⟩
  have ra : inR a := ⟨by omega, by omega⟩
  have rb : inR b := ⟨by omega, by omega⟩
  have rfr : inR from' := ⟨h5, by omega⟩
  have rt : inR to' := ⟨by omega, h7⟩
  have HE1 := Lib.hid (And.intro (rE1 rf rfr) (rX1 rf rfr))
  have HE2 := Lib.hid (And.intro (rE2 rf rfr ra rt) (rX2 rf rfr ra rt))
  have HE3 := Lib.hid (And.intro (rE2 rf rfr rb rt) (rX2 rf rfr rb rt))
  have HD1 := Lib.hid (rD (from' := from') (to' := to') rf ra h2 h6)
  have HD2 := Lib.hid (rD (from' := from') (to' := to') rf rb (by omega) h6)
  have hle : ((a - first).tdiv (to' - from') ≤ (b - first).tdiv (to' - from')) = True := eq_true (div_le (by omega) (by omega) (by omega))
  have b1 : IntKind.i64.wrap (a - first) = a - first := by rw [IntKind.wrap_i64]; omega
  have b2 : IntKind.i64.wrap (to' - from') = to' - from' := by rw [IntKind.wrap_i64]; omega
  have b3 : (to' - from' = 0) = False := eq_false (by omega)
  have b4 : IntKind.i64.wrap ((a - first).tdiv (to' - from')) = (a - first).tdiv (to' - from') := by
    have h8 : 0 ≤ (a - first).tdiv (to' - from') ∧ (a - first).tdiv (to' - from') ≤ 9007199254740991 := by
      rw [Int.tdiv_eq_ediv_of_nonneg (by omega)]
      exact ⟨Int.ediv_nonneg (by omega) (by omega), Int.le_trans (Int.ediv_le_self _ (by omega)) (by omega)⟩
    generalize (a - first).tdiv (to' - from') = z at *
    rw [IntKind.wrap_i64]; omega
  obtain ⟨d, hd0⟩ : ∃ d, to' - from' = d := ⟨_, rfl⟩
  obtain ⟨x, hx0⟩ : ∃ x, a - first = x := ⟨_, rfl⟩
  replace b1 := b1.trans hx0
  replace b2 := b2.trans hd0
  rw [hd0, hx0] at HD1 hle b4
  rw [hd0] at HD2 b3
  obtain ⟨z, hz0⟩ : ∃ z, x.tdiv d = z := ⟨_, rfl⟩
  rw [hz0] at b4 HD1 hle
  generalize (b - first).tdiv d = z2 at *
  have hzz : (z == z) = true := by simp
  clear h1 h2 h3 h4 h5 h6 h7 rf ra rb rfr rt hd0 hx0
  go_enter Try.func13, Try.ntmps13
  go_wp2_with fail
  refine (mnew_any _).mono ?_
  rintro e W1 ⟨rfl, hT, hb⟩
  have F1 := Lib.hid (And.intro hb (show MetAt W1 w.heap.size X0 from hT))
  obtain ⟨m, hm⟩ : ∃ m, w.heap.size = m := ⟨_, rfl⟩
  have F1 := Lib.hid (show Below w.heap.size w W1 ∧ MetAt W1 m X0 from hm ▸ F1.out)
  have HM0 := Lib.hid (show w.heap.size ≤ m from Nat.le_of_eq hm)
  rw [hm]
  clear hm hT hb
  go_wp2_with fail
  refine (mnew_any _).mono ?_
  rintro e W2 ⟨rfl, hT, hb⟩
  have HBM := Lib.hid (And.intro HM0.out (And.intro (Nat.le_trans HM0.out (Nat.le_of_lt F1.out.2.lt)) (Nat.ne_of_lt F1.out.2.lt)))
  have F0 := Lib.hid (And.intro (bcall F1.out.1 (Nat.le_refl _) hb) (And.intro (F1.out.2.keep hb) (show MetAt W2 W1.heap.size X0 from hT)))
  clear hT hb F1
  generalize W1.heap.size = k at *
  go_wp2_with fail
  refine (lives17 _).mono ?_
  rintro e W3 ⟨rfl, hb⟩
  have F30 := Lib.hid (And.intro (bcall F0.out.1 (Nat.le_refl _) hb) (And.intro (F0.out.2.1.keep hb) ((F0.out.2.2.keep hb))))
  clear F0
  clear hb
  go_wp2_with fail
  refine (ten0 _).mono ?_
  rintro e W4 ⟨rfl, hb⟩
  have F31 := Lib.hid (And.intro (bcall F30.out.1 (Nat.le_refl _) hb) (And.intro (F30.out.2.1.keep hb) ((F30.out.2.2.keep hb))))
  clear F30
  clear hb
  go_wp2_with fail
  refine (one_any ((0 : Nat) : Int) 1 c0 first _).mono ?_
  rintro e W5 ⟨b1, rfl, hs, hb⟩
  have F32 := Lib.hid (And.intro (bcall F31.out.1 (Nat.le_refl _) hb) (And.intro (F31.out.2.1.keep hb) (And.intro (F31.out.2.2.keep hb) (hs))))
  clear F31
  clear hb hs
  go_wp2_with fail
  have hg := take_any F32.out.2.1 (Cts.one F32.out.2.2.2 ⟨by decide, okc0⟩) ((0 : Nat) : Int) 1 from'
  rw [HE1.out.1, HE1.out.2] at hg
  refine hg.mono ?_
  rintro e W6 ⟨rfl, hs⟩
  have hmet := hs.met
  have hoth := F32.out.2.2.1.far F32.out.2.1 hs.but (Ne.symm HBM.out.2.2)
  have hbel := Below.step F32.out.1 F32.out.1.size hs.but (by simp; exact HBM.out.1)
  have F33 := Lib.hid (And.intro hbel (And.intro hmet hoth))
  clear F32 hg hs hmet hoth hbel
  go_wp2_with fail
  refine (ten0 _).mono ?_
  rintro e W7 ⟨rfl, hb⟩
  have F34 := Lib.hid (And.intro (bcall F33.out.1 (Nat.le_refl _) hb) (And.intro (F33.out.2.1.keep hb) ((F33.out.2.2.keep hb))))
  clear F33
  clear hb
  go_wp2_with fail
  refine (one_any ((0 : Nat) : Int) 1 c0 first _).mono ?_
  rintro e W8 ⟨b2, rfl, hs, hb⟩
  have F35 := Lib.hid (And.intro (bcall F34.out.1 (Nat.le_refl _) hb) (And.intro (F34.out.2.1.keep hb) (And.intro (F34.out.2.2.keep hb) (hs))))
  clear F34
  clear hb hs
  go_wp2_with fail
  have hg := take_any F35.out.2.2.1 (Cts.one F35.out.2.2.2 ⟨by decide, okc0⟩) ((0 : Nat) : Int) 1 from'
  rw [HE1.out.1, HE1.out.2] at hg
  refine hg.mono ?_
  rintro e W9 ⟨rfl, hs⟩
  have hmet := hs.met
  have hoth := F35.out.2.1.far F35.out.2.2.1 hs.but (HBM.out.2.2)
  have hbel := Below.step F35.out.1 F35.out.1.size hs.but (by simp; exact HBM.out.2.1)
  have F36 := Lib.hid (And.intro hbel (And.intro hoth hmet))
  clear F35 hg hs hmet hoth hbel
  go_wp2_with fail
  refine (ten0 _).mono ?_
  rintro e W10 ⟨rfl, hb⟩
  have F37 := Lib.hid (And.intro (bcall F36.out.1 (Nat.le_refl _) hb) (And.intro (F36.out.2.1.keep hb) ((F36.out.2.2.keep hb))))
  clear F36
  clear hb
  go_wp2_with fail
  refine (one_any ((0 : Nat) : Int) 2 c0 a _).mono ?_
  rintro e W11 ⟨b3, rfl, hs, hb⟩
  have F38 := Lib.hid (And.intro (bcall F37.out.1 (Nat.le_refl _) hb) (And.intro (F37.out.2.1.keep hb) (And.intro (F37.out.2.2.keep hb) (hs))))
  clear F37
  clear hb hs
  go_wp2_with fail
  have hg := take_any F38.out.2.1 (Cts.one F38.out.2.2.2 ⟨by decide, okc0⟩) ((0 : Nat) : Int) 2 to'
  rw [HE2.out.1, HE2.out.2] at hg
  refine hg.mono ?_
  rintro e W12 ⟨rfl, hs⟩
  have hmet := hs.met
  have hoth := F38.out.2.2.1.far F38.out.2.1 hs.but (Ne.symm HBM.out.2.2)
  have hbel := Below.step F38.out.1 F38.out.1.size hs.but (by simp; exact HBM.out.1)
  have F39 := Lib.hid (And.intro hbel (And.intro hmet hoth))
  clear F38 hg hs hmet hoth hbel
  go_wp2_with fail
  refine (ten0 _).mono ?_
  rintro e W13 ⟨rfl, hb⟩
  have F40 := Lib.hid (And.intro (bcall F39.out.1 (Nat.le_refl _) hb) (And.intro (F39.out.2.1.keep hb) ((F39.out.2.2.keep hb))))
  clear F39
  clear hb
  go_wp2_with fail
  refine (one_any ((0 : Nat) : Int) 2 c0 b _).mono ?_
  rintro e W14 ⟨b4, rfl, hs, hb⟩
  have F41 := Lib.hid (And.intro (bcall F40.out.1 (Nat.le_refl _) hb) (And.intro (F40.out.2.1.keep hb) (And.intro (F40.out.2.2.keep hb) (hs))))
  clear F40
  clear hb hs
  go_wp2_with fail
  have hg := take_any F41.out.2.2.1 (Cts.one F41.out.2.2.2 ⟨by decide, okc0⟩) ((0 : Nat) : Int) 2 to'
  rw [HE3.out.1, HE3.out.2] at hg
  refine hg.mono ?_
  rintro e W15 ⟨rfl, hs⟩
  have hmet := hs.met
  have hoth := F41.out.2.1.far F41.out.2.2.1 hs.but (HBM.out.2.2)
  have hbel := Below.step F41.out.1 F41.out.1.size hs.but (by simp; exact HBM.out.2.1)
  have F42 := Lib.hid (And.intro hbel (And.intro hoth hmet))
  clear F41 hg hs hmet hoth hbel
  go_wp2_with fail
  refine wp_region_heldP (fun _ => True) (by kernel_rfl) ?_
  have hd := (Below.refl W15.heap.size W15).drew
  have F43 := Lib.hid (And.intro (bcall F42.out.1 (Nat.le_refl _) hd) (And.intro (F42.out.2.1.keep hd) ((F42.out.2.2.keep hd))))
  clear F42
  clear hd
  generalize W15.drew = W16 at *
  refine held_reads [0, 1, 2, 3, 4, 5, 6, 7, 8, 9, 10, 11, 12, 13, 14, 15, 18] (g := 20) rfl (by kernel_rfl) trivial (fun _ _ d _ _ h => by cases d <;> exact h) ?_
  simp only [pick, List.getD_cons_zero, List.getD_cons_succ]
  ((with_reducible refine wpRead_step (fun K hK => ?_)); go_simp; first | ((with_reducible refine hK _ ?_); clear hK K) | (apply Exists.intro; (with_reducible refine ⟨fun w' hw' => ?_, hK _ ?_⟩); (first | exact rfl | exact ⟨rfl, rfl⟩); clear hK K))
  ((with_reducible refine wpRead_step (fun K hK => ?_)); go_simp; first | ((with_reducible refine hK _ ?_); clear hK K) | (apply Exists.intro; (with_reducible refine ⟨fun w' hw' => ?_, hK _ ?_⟩); (first | exact rfl | exact ⟨rfl, rfl⟩); clear hK K))
  ((with_reducible refine wpRead_step (fun K hK => ?_)); go_simp; first | ((with_reducible refine hK _ ?_); clear hK K) | (apply Exists.intro; (with_reducible refine ⟨fun w' hw' => ?_, hK _ ?_⟩); (first | exact rfl | exact ⟨rfl, rfl⟩); clear hK K))
  ((with_reducible refine wpRead_step (fun K hK => ?_)); go_simp; first | ((with_reducible refine hK _ ?_); clear hK K) | (apply Exists.intro; (with_reducible refine ⟨fun w' hw' => ?_, hK _ ?_⟩); (first | exact rfl | exact ⟨rfl, rfl⟩); clear hK K))
  ((with_reducible refine wpRead_step (fun K hK => ?_)); go_simp; first | ((with_reducible refine hK _ ?_); clear hK K) | (apply Exists.intro; (with_reducible refine ⟨fun w' hw' => ?_, hK _ ?_⟩); (first | exact rfl | exact ⟨rfl, rfl⟩); clear hK K))
  ((with_reducible refine wpRead_step (fun K hK => ?_)); go_simp; first | ((with_reducible refine hK _ ?_); clear hK K) | (apply Exists.intro; (with_reducible refine ⟨fun w' hw' => ?_, hK _ ?_⟩); (first | exact rfl | exact ⟨rfl, rfl⟩); clear hK K))
  ((with_reducible refine wpRead_step (fun K hK => ?_)); go_simp; first | ((with_reducible refine hK _ ?_); clear hK K) | (apply Exists.intro; (with_reducible refine ⟨fun w' hw' => ?_, hK _ ?_⟩); (first | exact rfl | exact ⟨rfl, rfl⟩); clear hK K))
  ((with_reducible refine wpRead_step (fun K hK => ?_)); go_simp; first | ((with_reducible refine hK _ ?_); clear hK K) | (apply Exists.intro; (with_reducible refine ⟨fun w' hw' => ?_, hK _ ?_⟩); (first | exact rfl | exact ⟨rfl, rfl⟩); clear hK K))
  ((with_reducible refine wpRead_step (fun K hK => ?_)); go_simp; first | ((with_reducible refine hK _ ?_); clear hK K) | (apply Exists.intro; (with_reducible refine ⟨fun w' hw' => ?_, hK _ ?_⟩); (first | exact rfl | exact ⟨rfl, rfl⟩); clear hK K))
  ((with_reducible refine wpRead_step (fun K hK => ?_)); go_simp; first | ((with_reducible refine hK _ ?_); clear hK K) | (apply Exists.intro; (with_reducible refine ⟨fun w' hw' => ?_, hK _ ?_⟩); (first | exact rfl | exact ⟨rfl, rfl⟩); clear hK K))
  ((with_reducible refine wpRead_step (fun K hK => ?_)); go_simp; first | ((with_reducible refine hK _ ?_); clear hK K) | (apply Exists.intro; (with_reducible refine ⟨fun w' hw' => ?_, hK _ ?_⟩); (first | exact rfl | exact ⟨rfl, rfl⟩); clear hK K))
  ((with_reducible refine wpRead_step (fun K hK => ?_)); go_simp; first | ((with_reducible refine hK _ ?_); clear hK K) | (apply Exists.intro; (with_reducible refine ⟨fun w' hw' => ?_, hK _ ?_⟩); (first | exact rfl | exact ⟨rfl, rfl⟩); clear hK K))
  ((with_reducible refine wpRead_step (fun K hK => ?_)); go_simp; first | ((with_reducible refine hK _ ?_); clear hK K) | (apply Exists.intro; (with_reducible refine ⟨fun w' hw' => ?_, hK _ ?_⟩); (first | exact rfl | exact ⟨rfl, rfl⟩); clear hK K))
  ((with_reducible refine wpRead_step (fun K hK => ?_)); go_simp; first | ((with_reducible refine hK _ ?_); clear hK K) | (apply Exists.intro; (with_reducible refine ⟨fun w' hw' => ?_, hK _ ?_⟩); (first | exact rfl | exact ⟨rfl, rfl⟩); clear hK K))
  ((with_reducible refine wpRead_step (fun K hK => ?_)); go_simp; first | ((with_reducible refine hK _ ?_); clear hK K) | (apply Exists.intro; (with_reducible refine ⟨fun w' hw' => ?_, hK _ ?_⟩); (first | exact rfl | exact ⟨rfl, rfl⟩); clear hK K))
  ((with_reducible refine wpRead_step (fun K hK => ?_)); go_simp; first | ((with_reducible refine hK _ ?_); clear hK K) | (apply Exists.intro; (with_reducible refine ⟨fun w' hw' => ?_, hK _ ?_⟩); (first | exact rfl | exact ⟨rfl, rfl⟩); clear hK K))
  ((with_reducible refine wpRead_step (fun K hK => ?_)); go_simp; first | ((with_reducible refine hK _ ?_); clear hK K) | (apply Exists.intro; (with_reducible refine ⟨fun w' hw' => ?_, hK _ ?_⟩); (first | exact rfl | exact ⟨rfl, rfl⟩); clear hK K))
  with_reducible refine wpRead_nil ?_
  refine held_one 16 (by kernel_rfl) ?_
  simp only [pick, List.getD_cons_zero, List.getD_cons_succ]
  go_wp2_with fail
  refine (ten0 _).mono ?_
  rintro e W17 ⟨rfl, hb⟩
  have F44 := Lib.hid (And.intro (bcall F43.out.1 (Nat.le_refl _) hb) (And.intro (F43.out.2.1.keep hb) ((F43.out.2.2.keep hb))))
  clear F43
  clear hb
  go_wp2_with fail
  refine ⟨trivial, ?_⟩
  refine held_one 17 (by kernel_rfl) ?_
  simp only [pick, List.getD_cons_zero, List.getD_cons_succ]
  go_wp2_with fail
  have hg := demand_any F44.out.2.1 okc0
  rw [HD1.out] at hg
  refine hg.mono ?_
  rintro e W18 ⟨rfl, hb⟩
  clear hg
  have F45 := Lib.hid (And.intro (bcall F44.out.1 (Nat.le_refl _) hb) (And.intro (F44.out.2.1.keep hb) ((F44.out.2.2.keep hb))))
  clear F44
  clear hb
  go_wp2_with fail
  refine ⟨trivial, ?_⟩
  refine held_one 19 (by kernel_rfl) ?_
  simp only [pick, List.getD_cons_zero, List.getD_cons_succ]
  go_wp2_with fail
  refine (ten0 _).mono ?_
  rintro e W19 ⟨rfl, hb⟩
  have F46 := Lib.hid (And.intro (bcall F45.out.1 (Nat.le_refl _) hb) (And.intro (F45.out.2.1.keep hb) ((F45.out.2.2.keep hb))))
  clear F45
  clear hb
  go_wp2_with fail
  refine ⟨trivial, ?_⟩
  refine held_one 20 (by kernel_rfl) ?_
  simp only [pick, List.getD_cons_zero, List.getD_cons_succ]
  go_wp2_with fail
  have hg := demand_any F46.out.2.2 okc0
  rw [HD2.out] at hg
  refine hg.mono ?_
  rintro e W20 ⟨rfl, hb⟩
  clear hg
  have F47 := Lib.hid (And.intro (bcall F46.out.1 (Nat.le_refl _) hb) (And.intro (F46.out.2.1.keep hb) ((F46.out.2.2.keep hb))))
  clear F46
  clear hb
  go_wp2_with fail
  refine ⟨trivial, ?_⟩
  refine held_reads [21, 22, 23, 24, 27, 28, 29, 30, 31, 32, 33] (g := 5) rfl (by kernel_rfl) trivial (fun _ _ d _ _ h => by cases d <;> exact h) ?_
  simp only [pick, List.getD_cons_zero, List.getD_cons_succ]
  ((with_reducible refine wpRead_step (fun K hK => ?_)); go_simp; first | ((with_reducible refine hK _ ?_); clear hK K) | (apply Exists.intro; (with_reducible refine ⟨fun w' hw' => ?_, hK _ ?_⟩); (first | exact rfl | exact ⟨rfl, rfl⟩); clear hK K))
  ((with_reducible refine wpRead_step (fun K hK => ?_)); go_simp; first | ((with_reducible refine hK _ ?_); clear hK K) | (apply Exists.intro; (with_reducible refine ⟨fun w' hw' => ?_, hK _ ?_⟩); (first | exact rfl | exact ⟨rfl, rfl⟩); clear hK K))
  ((with_reducible refine wpRead_step (fun K hK => ?_)); go_simp; first | ((with_reducible refine hK _ ?_); clear hK K) | (apply Exists.intro; (with_reducible refine ⟨fun w' hw' => ?_, hK _ ?_⟩); (first | exact rfl | exact ⟨rfl, rfl⟩); clear hK K))
  ((with_reducible refine wpRead_step (fun K hK => ?_)); go_simp; first | ((with_reducible refine hK _ ?_); clear hK K) | (apply Exists.intro; (with_reducible refine ⟨fun w' hw' => ?_, hK _ ?_⟩); (first | exact rfl | exact ⟨rfl, rfl⟩); clear hK K))
  ((with_reducible refine wpRead_step (fun K hK => ?_)); go_simp; first | ((with_reducible refine hK _ ?_); clear hK K) | (apply Exists.intro; (with_reducible refine ⟨fun w' hw' => ?_, hK _ ?_⟩); (first | exact rfl | exact ⟨rfl, rfl⟩); clear hK K))
  ((with_reducible refine wpRead_step (fun K hK => ?_)); go_simp; first | ((with_reducible refine hK _ ?_); clear hK K) | (apply Exists.intro; (with_reducible refine ⟨fun w' hw' => ?_, hK _ ?_⟩); (first | exact rfl | exact ⟨rfl, rfl⟩); clear hK K))
  ((with_reducible refine wpRead_step (fun K hK => ?_)); go_simp; first | ((with_reducible refine hK _ ?_); clear hK K) | (apply Exists.intro; (with_reducible refine ⟨fun w' hw' => ?_, hK _ ?_⟩); (first | exact rfl | exact ⟨rfl, rfl⟩); clear hK K))
  ((with_reducible refine wpRead_step (fun K hK => ?_)); go_simp; first | ((with_reducible refine hK _ ?_); clear hK K) | (apply Exists.intro; (with_reducible refine ⟨fun w' hw' => ?_, hK _ ?_⟩); (first | exact rfl | exact ⟨rfl, rfl⟩); clear hK K))
  ((with_reducible refine wpRead_step (fun K hK => ?_)); go_simp; first | ((with_reducible refine hK _ ?_); clear hK K) | (apply Exists.intro; (with_reducible refine ⟨fun w' hw' => ?_, hK _ ?_⟩); (first | exact rfl | exact ⟨rfl, rfl⟩); clear hK K))
  ((with_reducible refine wpRead_step (fun K hK => ?_)); go_simp; first | ((with_reducible refine hK _ ?_); clear hK K) | (apply Exists.intro; (with_reducible refine ⟨fun w' hw' => ?_, hK _ ?_⟩); (first | exact rfl | exact ⟨rfl, rfl⟩); clear hK K))
  ((with_reducible refine wpRead_step (fun K hK => ?_)); go_simp; first | ((with_reducible refine hK _ ?_); clear hK K) | (apply Exists.intro; (with_reducible refine ⟨fun w' hw' => ?_, hK _ ?_⟩); (first | exact rfl | exact ⟨rfl, rfl⟩); clear hK K))
  with_reducible refine wpRead_nil ?_
  refine held_one 25 (by kernel_rfl) ?_
  simp only [pick, List.getD_cons_zero, List.getD_cons_succ]
  go_wp2_with fail
  refine (ten0 _).mono ?_
  rintro e W21 ⟨rfl, hb⟩
  have F48 := Lib.hid (And.intro (bcall F47.out.1 (Nat.le_refl _) hb) (And.intro (F47.out.2.1.keep hb) ((F47.out.2.2.keep hb))))
  clear F47
  clear hb
  go_wp2_with fail
  refine ⟨trivial, ?_⟩
  refine held_one 26 (by kernel_rfl) ?_
  simp only [pick, List.getD_cons_zero, List.getD_cons_succ]
  go_wp2_with fail
  have hg := demand_any F48.out.2.1 okc0
  rw [HD1.out] at hg
  refine hg.mono ?_
  rintro e W22 ⟨rfl, hb⟩
  clear hg
  have F49 := Lib.hid (And.intro (bcall F48.out.1 (Nat.le_refl _) hb) (And.intro (F48.out.2.1.keep hb) ((F48.out.2.2.keep hb))))
  clear F48
  clear hb
  go_wp2_with fail
  refine ⟨trivial, ?_⟩
  refine held_reads [34, 35] (g := 1) rfl (by kernel_rfl) trivial (fun _ _ d _ _ h => by cases d <;> exact h) ?_
  simp only [pick, List.getD_cons_zero, List.getD_cons_succ]
  ((with_reducible refine wpRead_step (fun K hK => ?_)); go_simp; first | ((with_reducible refine hK _ ?_); clear hK K) | (apply Exists.intro; (with_reducible refine ⟨fun w' hw' => ?_, hK _ ?_⟩); (first | exact rfl | exact ⟨rfl, rfl⟩); clear hK K))
  ((with_reducible refine wpRead_step (fun K hK => ?_)); go_simp; first | ((with_reducible refine hK _ ?_); clear hK K) | (apply Exists.intro; (with_reducible refine ⟨fun w' hw' => ?_, hK _ ?_⟩); (first | exact rfl | exact ⟨rfl, rfl⟩); clear hK K))
  with_reducible refine wpRead_nil ?_
  refine held_one 36 (by kernel_rfl) ?_
  simp only [pick, List.getD_cons_zero, List.getD_cons_succ]
  go_wp2_with fail
  refine ⟨trivial, ?_⟩
  refine wpAnyH_done (by kernel_rfl) ?_ _
  go_wp2_with fail
  go_ret
  exact ⟨rfl, F49.out.1⟩
theorem mrises_law (first a b from' to' : Int) (w : World) : Calls Try.prog 13 #[.int .i64 first, .int .i64 a, .int .i64 b, .int .i64 from', .int .i64 to'] w fun e w' => e = .returned (.bool true) ∧ Below w.heap.size w w' := by
  by_cases k1 : first < 0
  · have e1 := eq_true k1
    clear k1
    go_enter Try.func13, Try.ntmps13
    go_wp2_with fail
    refine (lives17 _).mono ?_
    rintro e W3 ⟨rfl, hb⟩
    have F4 := Lib.hid hb
    clear hb
    go_wp2_with fail
    go_ret
    exact ⟨rfl, F4.out⟩
  by_cases k2 : a < first
  · have e1 := eq_false k1
    have e2 := eq_true k2
    clear k1 k2
    go_enter Try.func13, Try.ntmps13
    go_wp2_with fail
    refine (lives17 _).mono ?_
    rintro e W3 ⟨rfl, hb⟩
    have F4 := Lib.hid hb
    clear hb
    go_wp2_with fail
    go_ret
    exact ⟨rfl, F4.out⟩
  by_cases k3 : b < a
  · have e1 := eq_false k1
    have e2 := eq_false k2
    have e3 := eq_true k3
    clear k1 k2 k3
    go_enter Try.func13, Try.ntmps13
    go_wp2_with fail
    refine (lives17 _).mono ?_
    rintro e W3 ⟨rfl, hb⟩
    have F4 := Lib.hid hb
    clear hb
    go_wp2_with fail
    go_ret
    exact ⟨rfl, F4.out⟩
  by_cases k4 : 9007199254740991 < b
  · have e1 := eq_false k1
    have e2 := eq_false k2
    have e3 := eq_false k3
    have e4 := eq_true k4
    clear k1 k2 k3 k4
    go_enter Try.func13, Try.ntmps13
    go_wp2_with fail
    refine (lives17 _).mono ?_
    rintro e W3 ⟨rfl, hb⟩
    have F4 := Lib.hid hb
    clear hb
    go_wp2_with fail
    go_ret
    exact ⟨rfl, F4.out⟩
  by_cases k5 : from' < 0
  · have e1 := eq_false k1
    have e2 := eq_false k2
    have e3 := eq_false k3
    have e4 := eq_false k4
    have e5 := eq_true k5
    clear k1 k2 k3 k4 k5
    go_enter Try.func13, Try.ntmps13
    go_wp2_with fail
    refine (lives17 _).mono ?_
    rintro e W3 ⟨rfl, hb⟩
    have F4 := Lib.hid hb
    clear hb
    go_wp2_with fail
    go_ret
    exact ⟨rfl, F4.out⟩
  by_cases k6 : to' ≤ from'
  · have e1 := eq_false k1
    have e2 := eq_false k2
    have e3 := eq_false k3
    have e4 := eq_false k4
    have e5 := eq_false k5
    have e6 := eq_true k6
    clear k1 k2 k3 k4 k5 k6
    go_enter Try.func13, Try.ntmps13
    go_wp2_with fail
    refine (lives17 _).mono ?_
    rintro e W3 ⟨rfl, hb⟩
    have F4 := Lib.hid hb
    clear hb
    go_wp2_with fail
    go_ret
    exact ⟨rfl, F4.out⟩
  by_cases k7 : 9007199254740991 < to'
  · have e1 := eq_false k1
    have e2 := eq_false k2
    have e3 := eq_false k3
    have e4 := eq_false k4
    have e5 := eq_false k5
    have e6 := eq_false k6
    have e7 := eq_true k7
    clear k1 k2 k3 k4 k5 k6 k7
    go_enter Try.func13, Try.ntmps13
    go_wp2_with fail
    refine (lives17 _).mono ?_
    rintro e W3 ⟨rfl, hb⟩
    have F4 := Lib.hid hb
    clear hb
    go_wp2_with fail
    go_ret
    exact ⟨rfl, F4.out⟩
  exact rises_main (by omega) (by omega) (by omega) (by omega) (by omega) (by omega) (by omega)
end Go.Proofs.Ytfmehahjjgalfaa.Me
/- MeterSums: the law's walk. -/
namespace Go.Proofs.Ytfmehahjjgalfaa.Me
open Go.RowKit

def RIn : Rep Int := ⟨3, 1, by decide, fun n => [.int .i64 n], fun _ => rfl, fun _ => rfl⟩
def Sm (l : List Int) (i : Nat) : Nat → Src := fun j => if j < i then ⟨some ⟨2, 1, [⟨c0, l.getD j default⟩]⟩, some ⟨1, 0, [⟨c0, 0⟩]⟩⟩ else ⟨none, none⟩
def SmH (l : List Int) (i : Nat) : Nat → Src := fun j => if j < i then ⟨some ⟨2, 1, [⟨c0, l.getD j default⟩]⟩, some ⟨1, 0, [⟨c0, 0⟩]⟩⟩ else if j = i then ⟨some ⟨1, 0, [⟨c0, 0⟩]⟩, none⟩ else ⟨none, none⟩
theorem lenO_one {s : Src} (h : ∀ r, s.last = some r → r.cs.length = 1) : lenO s ≤ 1 := by
  unfold lenO
  cases hl : s.last with
  | none => exact Nat.zero_le _
  | some r => exact Nat.le_of_eq (h r hl)
theorem oth_few {X : Nat → Src} (h : ∀ j, lenO (X j) ≤ 1) (k : Int) : ∀ i, oth X k i ≤ i
  | 0 => by simp [oth]
  | i + 1 => by
    rw [oth_succ]
    have h1 := oth_few h k i
    have h2 := h i
    split <;> omega
theorem Sm_len (l : List Int) (i j : Nat) : lenO (Sm l i j) ≤ 1 := lenO_one fun r h => by
  unfold Sm at h
  split at h
  · cases h; rfl
  · cases h
theorem SmH_len (l : List Int) (i j : Nat) : lenO (SmH l i j) ≤ 1 := lenO_one fun r h => by
  unfold SmH at h
  split at h
  · cases h; rfl
  · split at h
    · cases h; rfl
    · cases h
theorem sE1 {l : List Int} {i : Nat} (hi : i < 16) (hok : ∀ j, j < 16 → (Sm l i j).ok) : takeE (Sm l i) (i : Int) 1 [⟨c0, 0⟩] 0 = 0 := by
  refine takeE_one hok hi (by unfold inR; omega) (by unfold inR; omega) (by unfold inR; omega) ?_ (Nat.le_trans (oth_few (Sm_len l i) _ 16) (by decide))
  unfold oldB Sm
  rw [if_neg (Nat.lt_irrefl _)]
theorem sX1 {l : List Int} {i : Nat} (hi : i < 16) (hok : ∀ j, j < 16 → (Sm l i j).ok) : takeX (Sm l i) (i : Int) 1 [⟨c0, 0⟩] 0 = SmH l i := by
  rw [takeX_yes (sE1 hi hok)]
  funext j
  unfold SmH Sm
  by_cases e : j = i
  · subst e
    simp only [if_neg (Nat.lt_irrefl _)]
  · simp only [if_neg e]
theorem sE2 {l : List Int} {i : Nat} (hi : i < 16) (hok : ∀ j, j < 16 → (SmH l i j).ok) {x : Int} (hx : inR x) : takeE (SmH l i) (i : Int) 2 [⟨c0, x⟩] 1 = 0 := by
  refine takeE_one hok hi (by unfold inR; omega) hx (by unfold inR; omega) ?_ (Nat.le_trans (oth_few (SmH_len l i) _ 16) (by decide))
  unfold oldB SmH
  rw [if_neg (Nat.lt_irrefl _), if_pos rfl]
  decide
theorem sX2 {l : List Int} {i : Nat} (hi : i < 16) (hok : ∀ j, j < 16 → (SmH l i j).ok) {x : Int} (hx : inR x) (hl : l.getD i default = x) : takeX (SmH l i) (i : Int) 2 [⟨c0, x⟩] 1 = Sm l (i + 1) := by
  rw [takeX_yes (sE2 hi hok hx)]
  funext j
  unfold SmH Sm
  by_cases e : j = i
  · subst e
    rw [if_pos rfl, if_neg (Nat.lt_irrefl _), if_pos rfl, if_pos (Nat.lt_succ_self _), hl]
  · rw [if_neg e]
    by_cases h : j < i
    · rw [if_pos h, if_pos (by omega)]
    · rw [if_neg h, if_neg e, if_neg (by omega)]
def sumA (l : List Int) : Nat → Int
  | 0 => 0
  | i + 1 => addI (sumA l i) (l.getD i default)
theorem sumA_in (l : List Int) : ∀ i, inR (sumA l i)
  | 0 => by unfold inR sumA; omega
  | _ + 1 => addI_in _ _
theorem sumA_step {s x : Int} (hs : inR s) (hx : inR x) : (if 9007199254740991 - s < x then 9007199254740991 else s + x) = addI s x := by
  unfold addI
  rw [nearI_id hs, nearI_id hx]
  unfold inR at *
  unfold nearI
  (repeat' split) <;> omega
theorem sm_rate {l : List Int} {n j : Nat} (hj : j < n) (h : ∀ j, j < n → inR (l.getD j default)) : rateS (Sm l n j) c0 = l.getD j default := by
  unfold Sm
  rw [if_pos hj, rate_one (h j hj).1 (by decide)]
  simp
theorem sm_dem {l : List Int} {n : Nat} (h : ∀ j, j < n → inR (l.getD j default)) : ∀ k, k ≤ n → demI (Sm l n) c0 k = sumA l k
  | 0, _ => rfl
  | k + 1, hk => by
    show addI (demI (Sm l n) c0 k) (rateS (Sm l n k) c0) = addI (sumA l k) _
    rw [sm_dem h k (by omega), sm_rate (by omega) h]
theorem sm_dem2 {l : List Int} {n : Nat} (h : ∀ j, j < n → inR (l.getD j default)) : ∀ k, demI (Sm l n) c0 (n + k) = sumA l n
  | 0 => sm_dem h n (Nat.le_refl _)
  | k + 1 => by
    show addI (demI (Sm l n) c0 (n + k)) (rateS (Sm l n (n + k)) c0) = _
    rw [sm_dem2 h k, show rateS (Sm l n (n + k)) c0 = 0 from by unfold Sm; rw [if_neg (by omega)]; rfl]
    exact addI_zero (sumA_in l n)
theorem sm_lone (l : List Int) (n : Nat) : Lone (Sm l n) c0 := by
  intro i _ r hr j hj
  unfold Sm at hr
  split at hr
  · cases hr
    simpa using hj
  · cases hr
def RdN (b o : Nat) (x : Int) (w : World) : Prop := w.cell? ⟨b, o, none⟩ = some (.int .i64 x)
structure RdB (b o : Nat) (x : Int) (w : World) : Prop where
  cell : RdN b o x w
  lt : b < w.heap.size
theorem RdB.keep {b o : Nat} {x : Int} {w w' : World} (h : RdB b o x w) (hb : Below w.heap.size w w') : RdB b o x w' := ⟨(cell_same (hb.block _ h.lt)).trans h.cell, Nat.lt_of_lt_of_le h.lt hb.size⟩
theorem RdB.but {b o m : Nat} {x : Int} {w w' : World} (h : RdB b o x w) (hb : But w w' [m]) (hne : b ≠ m) : RdB b o x w' := ⟨(cell_same (hb.block _ h.lt (by simpa using hne))).trans h.cell, Nat.lt_of_lt_of_le h.lt hb.size⟩
set_option maxRecDepth 100000 in
set_option maxHeartbeats 8000000 in
theorem msums_law {w : World} {oa : Option Addr} {n cn : Nat} {l : List Int} (hl : RIn.Sl w oa n cn l) : Calls Try.prog 14 #[.slice oa n cn] w fun e w' => e = .returned (.bool true) ∧ Below w.heap.size w w' := by
  have hmax : n ≤ maxLen := hl.max
  have HL := Lib.hid hl
  clear hl
  by_cases h16 : 16 < n
  · have h1 : ((16 : Int) < (n : Int)) = True := by simp; omega
    clear h16
    go_enter Try.func14, Try.ntmps14
    go_wp2_with fail
    refine (mnew_any _).mono ?_
    rintro e W1 ⟨rfl, hT, hb⟩
    have HBM := Lib.hid (Nat.le_refl w.heap.size)
    have F2 := Lib.hid (And.intro hb (show MetAt W1 w.heap.size (Sm l 0) from hT))
    obtain ⟨m, hm⟩ : ∃ m, w.heap.size = m := ⟨_, rfl⟩
    have F2 := Lib.hid (show Below w.heap.size w W1 ∧ MetAt W1 m (Sm l 0) from hm ▸ F2.out)
    have HBM := Lib.hid (show w.heap.size ≤ m from Nat.le_of_eq hm)
    rw [hm]
    clear hm hT hb
    go_wp2_with fail
    refine (lives17 _).mono ?_
    rintro e W2 ⟨rfl, hb⟩
    have F3 := Lib.hid (And.intro (bcall F2.out.1 (Nat.le_refl _) hb) (F2.out.2.keep hb))
    clear hb F2
    go_wp2_with fail
    refine (lives17 _).mono ?_
    rintro e W3 ⟨rfl, hb⟩
    have F4 := Lib.hid (bcall F3.out.1 (Nat.le_refl _) hb)
    clear hb
    go_wp2_with fail
    go_ret
    exact ⟨rfl, F4.out⟩
  have h1 : ((16 : Int) < (n : Int)) = False := by simp; omega
  go_enter Try.func14, Try.ntmps14
  go_wp2_with fail
  refine (mnew_any _).mono ?_
  rintro e W1 ⟨rfl, hT, hb⟩
  have HBM := Lib.hid (Nat.le_refl w.heap.size)
  have F2 := Lib.hid (And.intro hb (show MetAt W1 w.heap.size (Sm l 0) from hT))
  obtain ⟨m, hm⟩ : ∃ m, w.heap.size = m := ⟨_, rfl⟩
  have F2 := Lib.hid (show Below w.heap.size w W1 ∧ MetAt W1 m (Sm l 0) from hm ▸ F2.out)
  have HBM := Lib.hid (show w.heap.size ≤ m from Nat.le_of_eq hm)
  rw [hm]
  clear hm hT hb
  go_wp2_with fail
  refine (lives17 _).mono ?_
  rintro e W2 ⟨rfl, hb⟩
  have F3 := Lib.hid (And.intro (bcall F2.out.1 (Nat.le_refl _) hb) (F2.out.2.keep hb))
  clear hb F2
  go_wp2_with fail
  clear h1
  go_loopw [4, 5] (fun sv iv wr => ∃ i : Nat, i ≤ n ∧ iv = .int .i64 i ∧ sv = .int .i64 (sumA l i) ∧ MetAt wr m (Sm l i) ∧ (∀ j, j < i → inR (l.getD j default)) ∧ Below w.heap.size w wr) (fun _ iv _ => n - (intOf iv).toNat)
  case atStart => exact ⟨0, Nat.zero_le _, rfl, rfl, F3.out.2, fun j hj => absurd hj (Nat.not_lt_zero _), F3.out.1⟩
  case round =>
    obtain ⟨i, hi, rfl, rfl, hmet, hall, hb⟩ := hrel
    obtain ⟨w2, rfl⟩ : ∃ w2 : World, w2 = wr := ⟨_, rfl⟩
    clear F3
    have hsi := sumA_in l i
    by_cases hlt : i < n
    · have hil : ((i : Int) < (n : Int)) = True := by simp; omega
      have hi0 : ((0 : Int) ≤ (i : Int)) = True := by simp
      have hw3 := wrapS hlt hmax
      have hsa : sumA l (i + 1) = addI (sumA l i) (l.getD i default) := rfl
      obtain ⟨b, o, hbo, hrow⟩ := HL.out.row (by omega)
      subst hbo
      have hat := (hrow.below hb).get i (by rw [← HL.out.len]; exact hlt)
      have hblt : b < w2.heap.size := Nat.lt_of_lt_of_le hrow.lt hb.size
      have hbm : b ≠ m := by have := hrow.lt; have := HBM.out; omega
      obtain ⟨x, hx⟩ : ∃ x, l.getD i default = x := ⟨_, rfl⟩
      rw [hx] at hat hsa
      have y0 := hat 0 (by decide)
      simp only [RIn, Nat.mul_one, Nat.add_zero, List.getElem?_cons_zero] at y0
      have HX := Lib.hid (And.intro (show RdB b (o + i) x w2 from ⟨y0, hblt⟩) (And.intro hmet (And.intro hb (And.intro hall (And.intro hx hbm)))))
      clear hrow hat hmet hb hall hx hblt hbm
      by_cases hx0 : x < 0
      · have hx0t := eq_true hx0
        have F4 := Lib.hid HX.out.2.2.1
        clear hx0 hsi hsa
        go_wp2_with fail
        go_ret
        exact ⟨rfl, F4.out⟩
      by_cases hx1 : 9007199254740991 < x
      · have hx0t := eq_false hx0
        have hx1t := eq_true hx1
        have F4 := Lib.hid HX.out.2.2.1
        clear hx0 hx1 hsi hsa
        go_wp2_with fail
        go_ret
        exact ⟨rfl, F4.out⟩
      have hx0t := eq_false hx0
      have hx1t := eq_false hx1
      have hxr : inR x := ⟨by omega, by omega⟩
      have hst := sumA_step hsi hxr
      rw [← hsa] at hst
      have HS := Lib.hid (And.intro hst (And.intro hsi hxr))
      have hi16 : i < 16 := by omega
      have hok1 := HX.out.2.1.ok
      have HE1 := Lib.hid (And.intro (sE1 hi16 hok1) (sX1 hi16 hok1))
      have HI := Lib.hid hi16
      clear hx0 hx1 hsi hsa hxr hst hi16 hok1
      generalize sumA l i = sv at *
      go_wp2_with fail
      have F0 := Lib.hid (And.intro HX.out.2.2.1 (And.intro HX.out.2.1 HX.out.1))
      refine wp_region_heldP (RdN b (o + i) x) (by kernel_rfl) ?_
      have hd := (Below.refl w2.heap.size w2).drew
      have F30 := Lib.hid (And.intro (bcall F0.out.1 (Nat.le_refl _) hd) (And.intro (F0.out.2.1.keep hd) ((F0.out.2.2.keep hd))))
      clear F0
      clear hd y0
      generalize w2.drew = W3 at *
      refine held_reads [0, 1] (g := 16) rfl (by kernel_rfl) F30.out.2.2.cell (fun _ _ d _ _ h => by cases d <;> exact h) ?_
      simp only [pick, List.getD_cons_zero, List.getD_cons_succ]
      ((with_reducible refine wpRead_step (fun K hK => ?_)); go_simp; first | ((with_reducible refine hK _ ?_); clear hK K) | (apply Exists.intro; (with_reducible refine ⟨fun w' hw' => ?_, hK _ ?_⟩); (first | exact rfl | exact ⟨rfl, rfl⟩); clear hK K))
      ((with_reducible refine wpRead_step (fun K hK => ?_)); go_simp; first | ((with_reducible refine hK _ ?_); clear hK K) | (apply Exists.intro; (with_reducible refine ⟨fun w' hw' => ?_, hK _ ?_⟩); (first | exact rfl | exact ⟨rfl, rfl⟩); clear hK K))
      with_reducible refine wpRead_nil ?_
      refine held_one 2 (by kernel_rfl) ?_
      simp only [pick, List.getD_cons_zero, List.getD_cons_succ]
      go_wp2_with fail
      refine (ten0 _).mono ?_
      rintro e W4 ⟨rfl, hb⟩
      have F31 := Lib.hid (And.intro (bcall F30.out.1 (Nat.le_refl _) hb) (And.intro (F30.out.2.1.keep hb) ((F30.out.2.2.keep hb))))
      clear F30
      clear hb
      go_wp2_with fail
      refine ⟨F31.out.2.2.cell, ?_⟩
      refine held_one 3 (by kernel_rfl) ?_
      simp only [pick, List.getD_cons_zero, List.getD_cons_succ]
      go_wp2_with fail
      refine (one_any (i : Int) 1 c0 0 _).mono ?_
      rintro e W5 ⟨b1, rfl, hs, hb⟩
      have F32 := Lib.hid (And.intro (bcall F31.out.1 (Nat.le_refl _) hb) (And.intro (F31.out.2.1.keep hb) (And.intro (F31.out.2.2.keep hb) (hs))))
      clear F31
      clear hb hs
      go_wp2_with fail
      refine ⟨F32.out.2.2.1.cell, ?_⟩
      refine held_one 4 (by kernel_rfl) ?_
      simp only [pick, List.getD_cons_zero, List.getD_cons_succ]
      go_wp2_with fail
      have hg := take_any F32.out.2.1 (Cts.one F32.out.2.2.2 ⟨by decide, okc0⟩) (i : Int) 1 0
      rw [HE1.out.1, HE1.out.2] at hg
      refine hg.mono ?_
      rintro e W6 ⟨rfl, hs⟩
      have htab := hs.met
      have hbt := hs.but
      clear hs hg
      have F33 := Lib.hid (And.intro (Below.step F32.out.1 F32.out.1.size hbt (by simp; exact HBM.out)) (And.intro htab ((F32.out.2.2.1.but hbt HX.out.2.2.2.2.2))))
      clear F32
      clear htab hbt
      go_wp2_with fail
      refine ⟨F33.out.2.2.cell, ?_⟩
      refine held_reads [5, 6, 7, 8, 10, 11, 12, 13] (g := 5) rfl (by kernel_rfl) F33.out.2.2.cell (fun _ _ d _ _ h => by cases d <;> exact h) ?_
      simp only [pick, List.getD_cons_zero, List.getD_cons_succ]
      ((with_reducible refine wpRead_step (fun K hK => ?_)); go_simp; first | ((with_reducible refine hK _ ?_); clear hK K) | (apply Exists.intro; (with_reducible refine ⟨fun w' hw' => ?_, hK _ ?_⟩); (first | exact rfl | exact ⟨rfl, rfl⟩); clear hK K))
      ((with_reducible refine wpRead_step (fun K hK => ?_)); go_simp; first | ((with_reducible refine hK _ ?_); clear hK K) | (apply Exists.intro; (with_reducible refine ⟨fun w' hw' => ?_, hK _ ?_⟩); (first | exact rfl | exact ⟨rfl, rfl⟩); clear hK K))
      ((with_reducible refine wpRead_step (fun K hK => ?_)); go_simp; first | ((with_reducible refine hK _ ?_); clear hK K) | (apply Exists.intro; (with_reducible refine ⟨fun w' hw' => ?_, hK _ ?_⟩); (first | exact rfl | exact ⟨rfl, rfl⟩); clear hK K))
      ((with_reducible refine wpRead_step (fun K hK => ?_)); go_simp; first | ((with_reducible refine hK _ ?_); clear hK K) | (apply Exists.intro; (with_reducible refine ⟨fun w' hw' => ?_, hK _ ?_⟩); (first | exact rfl | exact ⟨rfl, rfl⟩); clear hK K))
      ((with_reducible refine wpRead_step (fun K hK => ?_)); go_simp; first | ((with_reducible refine hK _ ?_); clear hK K) | (apply Exists.intro; (with_reducible refine ⟨fun w' hw' => ?_, hK _ ?_⟩); (first | exact rfl | exact ⟨rfl, rfl⟩); clear hK K))
      ((with_reducible refine wpRead_step (fun K hK => ?_)); go_simp; first | ((with_reducible refine hK _ ?_); clear hK K) | (apply Exists.intro; (with_reducible refine ⟨fun w' hw' => ?_, hK _ ?_⟩); (first | exact rfl | exact ⟨rfl, rfl⟩); clear hK K))
      ((with_reducible refine wpRead_step (fun K hK => ?_)); go_simp; first | ((with_reducible refine hK _ ?_); clear hK K) | (apply Exists.intro; (with_reducible refine ⟨fun w' hw' => ?_, hK _ ?_⟩); (first | exact rfl | exact ⟨rfl, rfl⟩); clear hK K))
      ((with_reducible refine wpRead_step (fun K hK => ?_)); go_simp; first | ((with_reducible refine hK _ ?_); clear hK K) | (apply Exists.intro; (with_reducible refine ⟨fun w' hw' => ?_, hK _ ?_⟩); ((unfold RdN at hw'; go_simp; first | exact rfl | exact ⟨rfl, rfl⟩)); clear hK K))
      with_reducible refine wpRead_nil ?_
      refine held_one 9 (by kernel_rfl) ?_
      simp only [pick, List.getD_cons_zero, List.getD_cons_succ]
      go_wp2_with fail
      refine (ten0 _).mono ?_
      rintro e W7 ⟨rfl, hb⟩
      have F34 := Lib.hid (And.intro (bcall F33.out.1 (Nat.le_refl _) hb) (And.intro (F33.out.2.1.keep hb) ((F33.out.2.2.keep hb))))
      clear F33
      clear hb
      go_wp2_with fail
      refine ⟨F34.out.2.2.cell, ?_⟩
      refine held_one 14 (by kernel_rfl) ?_
      simp only [pick, List.getD_cons_zero, List.getD_cons_succ]
      go_wp2_with fail
      refine (one_any (i : Int) 2 c0 x _).mono ?_
      rintro e W8 ⟨b2, rfl, hs, hb⟩
      have F35 := Lib.hid (And.intro (bcall F34.out.1 (Nat.le_refl _) hb) (And.intro (F34.out.2.1.keep hb) (And.intro (F34.out.2.2.keep hb) (hs))))
      clear F34
      clear hb hs
      go_wp2_with fail
      refine ⟨F35.out.2.2.1.cell, ?_⟩
      have HE2 := Lib.hid (And.intro (sE2 HI.out (MetAt.ok F35.out.2.1) HS.out.2.2) (sX2 HI.out (MetAt.ok F35.out.2.1) HS.out.2.2 HX.out.2.2.2.2.1))
      refine held_one 15 (by kernel_rfl) ?_
      simp only [pick, List.getD_cons_zero, List.getD_cons_succ]
      go_wp2_with fail
      have hg := take_any F35.out.2.1 (Cts.one F35.out.2.2.2 ⟨by decide, okc0⟩) (i : Int) 2 1
      rw [HE2.out.1, HE2.out.2] at hg
      refine hg.mono ?_
      rintro e W9 ⟨rfl, hs⟩
      have htab := hs.met
      have hbt := hs.but
      clear hs hg
      have F36 := Lib.hid (And.intro (Below.step F35.out.1 F35.out.1.size hbt (by simp; exact HBM.out)) (And.intro htab ((F35.out.2.2.1.but hbt HX.out.2.2.2.2.2))))
      clear F35
      clear htab hbt
      go_wp2_with fail
      refine ⟨F36.out.2.2.cell, ?_⟩
      refine held_reads [16, 17] (g := 0) rfl (by kernel_rfl) F36.out.2.2.cell (fun _ _ d _ _ h => by cases d <;> exact h) ?_
      simp only [pick, List.getD_cons_zero, List.getD_cons_succ]
      ((with_reducible refine wpRead_step (fun K hK => ?_)); go_simp; first | ((with_reducible refine hK _ ?_); clear hK K) | (apply Exists.intro; (with_reducible refine ⟨fun w' hw' => ?_, hK _ ?_⟩); (first | exact rfl | exact ⟨rfl, rfl⟩); clear hK K))
      ((with_reducible refine wpRead_step (fun K hK => ?_)); go_simp; first | ((with_reducible refine hK _ ?_); clear hK K) | (apply Exists.intro; (with_reducible refine ⟨fun w' hw' => ?_, hK _ ?_⟩); (first | exact rfl | exact ⟨rfl, rfl⟩); clear hK K))
      with_reducible refine wpRead_nil ?_
      refine wpAnyH_done (by kernel_rfl) ?_ _
      have HAL := Lib.hid (show ∀ j, j < i + 1 → inR (l.getD j default) from fun j hj => by
        by_cases e : j = i
        · rw [e, HX.out.2.2.2.2.1]; exact HS.out.2.2
        · exact HX.out.2.2.2.1 j (by omega))
      have hwd : wrap64 (9007199254740991 - sv) = 9007199254740991 - sv := by have := HS.out.2.1; unfold inR at this; unfold wrap64; omega
      have hyc := F36.out.2.2.cell
      unfold RdN at hyc
      by_cases hsx : 9007199254740991 - sv < x
      · have hsxt := eq_true hsx
        have HR := Lib.hid (show 9007199254740991 = sumA l (i + 1) from by rw [← HS.out.1, if_pos hsx])
        clear hsx
        go_wp2_with fail
        exact ⟨⟨i + 1, hlt, by first | rw [hw3] | rw [Int.natCast_succ], by rw [HR.out], F36.out.2.1, HAL.out, F36.out.1⟩, by first | (rw [hw3]; exact mSucc hlt) | (rw [← Int.natCast_succ]; exact mSucc hlt)⟩
      · have hsxt := eq_false hsx
        have HR := Lib.hid (show sv + x = sumA l (i + 1) from by rw [← HS.out.1, if_neg hsx])
        have hwa : wrap64 (sv + x) = sv + x := by have h1 := HS.out.2.1; have h2 := HS.out.2.2; unfold inR at *; unfold wrap64; omega
        clear hsx
        go_wp2_with fail
        exact ⟨⟨i + 1, hlt, by first | rw [hw3] | rw [Int.natCast_succ], by first | rw [← HR.out, hwa] | rw [← HR.out], F36.out.2.1, HAL.out, F36.out.1⟩, by first | (rw [hw3]; exact mSucc hlt) | (rw [← Int.natCast_succ]; exact mSucc hlt)⟩
    · obtain rfl : n = i := by omega
      have hil : ((n : Int) < (n : Int)) = False := by simp
      have hd16 : demI (Sm l n) c0 16 = sumA l n := by
        have := sm_dem2 hall (16 - n)
        rwa [show n + (16 - n) = 16 from by omega] at this
      have G := Lib.hid (And.intro hb (And.intro hmet hd16))
      clear hb hmet hd16 hall hsi h16
      generalize sumA l n = sv at *
      have hss : (sv == sv) = true := by simp
      have HN := Lib.hid demand_nil
      go_wp2_with fail
      refine (ten0 _).mono ?_
      rintro e W1 ⟨rfl, hb⟩
      have G1 := Lib.hid (And.intro (bcall G.out.1 (Nat.le_refl _) hb) (G.out.2.1.keep hb))
      clear hb
      go_wp2_with fail
      have hg := demand_any G1.out.2 okc0
      rw [G.out.2.2] at hg
      refine hg.mono ?_
      rintro e W2 ⟨rfl, hb⟩
      have G2 := Lib.hid (And.intro (bcall G1.out.1 (Nat.le_refl _) hb) (G1.out.2.keep hb))
      clear hb hg G1
      go_wp2_with fail
      refine (over_any G2.out.2).mono ?_
      rintro e W3 ⟨M, hd, rfl, hb⟩
      rw [hd.one (dem_lone (MetAt.ok G2.out.2) (sm_lone l n)), sum_lone, G.out.2.2]
      obtain ⟨ob, hob⟩ : ∃ ob, (sv == 9007199254740991) = ob := ⟨_, rfl⟩
      rw [hob]
      have hoo : (ob == ob) = true := by simp
      have G3 := Lib.hid (bcall G2.out.1 (Nat.le_refl _) hb)
      clear hb hd G2
      go_wp2_with fail
      refine (ten0 _).mono ?_
      rintro e W4 ⟨rfl, hb⟩
      have G4 := Lib.hid (bcall G3.out (Nat.le_refl _) hb)
      clear hb G3
      go_wp2_with fail
      refine (HN.out c0 _).mono ?_
      rintro e W5 ⟨rfl, hb⟩
      have G5 := Lib.hid (bcall G4.out (Nat.le_refl _) hb)
      clear hb G4
      go_wp2_with fail
      refine (take_nil 0 0 none 0 0 0 _).mono ?_
      rintro e W6 ⟨rfl, hb⟩
      have G6 := Lib.hid (bcall G5.out (Nat.le_refl _) hb)
      clear hb G5
      go_wp2_with fail
      refine (demands_nil _).mono ?_
      rintro e W7 ⟨rfl, hw⟩
      subst hw
      go_wp2_with fail
      refine (over_nil _).mono ?_
      rintro e W8 ⟨rfl, hb⟩
      have G8 := Lib.hid (bcall G6.out (Nat.le_refl _) hb)
      clear hb G6
      go_wp2_with fail
      go_ret
      exact ⟨rfl, G8.out⟩
end Go.Proofs.Ytfmehahjjgalfaa.Me
/- Arguments that come in: chapter 17. -/
namespace Go.Proofs.Ytfmehahjjgalfaa.Me
open Go.ChangeShapes Go.WideShapes Go.ChangeAt Go.RowKit Go.Deep

def I3 (n : Int) : Prop := -9223372036854775808 ≤ n ∧ n ≤ 9223372036854775807
theorem reads3 : Reads Try.prog 3 (fun n : Int => [.int .i64 n]) (fun _ n => I3 n) := (Reads.int Try.underlying3).conv fun _ n h => ⟨n, rfl, wf64 h⟩
theorem readsU : Reads Try.prog 56 (fun n : Nat => [.int .u32 (n : Int)]) (fun _ n => n < 4294967296) := (Reads.int Try.underlying56).conv fun _ n h => ⟨n.toNat, by rw [Int.toNat_of_nonneg (wfu32 h).1], by have := wfu32 h; omega⟩
def ctIn (_w : World) (x : Ct) : Prop := x.p.1 < 4294967296 ∧ PN.ok x.p
def rtC (p : Int × Int × SlV Ct) : List Value := [.int .i64 p.1, .int .i64 p.2.1, .slice p.2.2.a p.2.2.n p.2.2.c]
def rtIn (w : World) (p : Int × Int × SlV Ct) : Prop := SlOk RCt ctIn w p.2.2
def opIn (w : World) (y : OpM) : Prop := SlOk RCt ctIn w y.s
theorem cts_of {w : World} {s : SlV Ct} (h : SlOk RCt ctIn w s) : Cts w s.a s.n s.c s.l := ⟨h.sl, h.all⟩
set_option maxRecDepth 100000 in
theorem readsP : Reads Try.prog 58 (fun p : Nat × Int => [.int .u32 (p.1 : Int), .int .i64 p.2]) (fun _ p => p.1 < 4294967296 ∧ I3 p.2) :=
  ⟨fun {H enc w spare held fuel cs x} h => by
    obtain ⟨hl, hf⟩ := Reads.fields Try.underlying58 h
    rw [show Try.prog.cellsOf 58 = 2 by kernel_rfl] at hl
    obtain ⟨c0, c1, rfl⟩ : ∃ c0 c1, cs = [c0, c1] := by
      match cs, hl with
      | [c0, c1], _ => exact ⟨c0, c1, rfl⟩
    obtain ⟨n0, y0, h0⟩ := hf 0 _ rfl
    have h0 : DataW.trod enc Try.prog w 0 spare held n0 56 [c0] = some y0 := by
      have q : Try.prog.cellsOf 56 = 1 := by kernel_rfl
      have z : DataW.trod enc Try.prog w 0 spare held n0 56 (([c0, c1].drop 0).take (Try.prog.cellsOf 56)) = some y0 := h0
      rw [q] at z; exact z
    obtain ⟨a0, e0, k0⟩ := (readsU).read h0
    obtain ⟨n1, y1, h1⟩ := hf 1 _ rfl
    have h1 : DataW.trod enc Try.prog w 0 spare held n1 3 [c1] = some y1 := by
      have q : Try.prog.cellsOf 3 = 1 := by kernel_rfl
      have z : DataW.trod enc Try.prog w 0 spare held n1 3 (([c0, c1].drop 1).take (Try.prog.cellsOf 3)) = some y1 := h1
      rw [q] at z; exact z
    obtain ⟨a1, e1, k1⟩ := (reads3).read h1
    simp only [List.cons.injEq, and_true] at e0 e1
    subst e0
    subst e1
    exact ⟨(a0, a1), rfl, ⟨k0, k1⟩⟩⟩
set_option maxRecDepth 100000 in
theorem readsCt : Reads Try.prog 128 (RCt.cells) (ctIn) :=
  ⟨fun {H enc w spare held fuel cs x} h => by
    obtain ⟨hl, hf⟩ := Reads.fields Try.underlying128 h
    rw [show Try.prog.cellsOf 128 = 3 by kernel_rfl] at hl
    obtain ⟨c0, c1, c2, rfl⟩ : ∃ c0 c1 c2, cs = [c0, c1, c2] := by
      match cs, hl with
      | [c0, c1, c2], _ => exact ⟨c0, c1, c2, rfl⟩
    obtain ⟨n0, y0, h0⟩ := hf 0 _ rfl
    have h0 : DataW.trod enc Try.prog w 0 spare held n0 58 [c0, c1] = some y0 := by
      have q : Try.prog.cellsOf 58 = 2 := by kernel_rfl
      have z : DataW.trod enc Try.prog w 0 spare held n0 58 (([c0, c1, c2].drop 0).take (Try.prog.cellsOf 58)) = some y0 := h0
      rw [q] at z; exact z
    obtain ⟨a0, e0, k0⟩ := (readsP).read h0
    obtain ⟨n1, y1, h1⟩ := hf 1 _ rfl
    have h1 : DataW.trod enc Try.prog w 0 spare held n1 3 [c2] = some y1 := by
      have q : Try.prog.cellsOf 3 = 1 := by kernel_rfl
      have z : DataW.trod enc Try.prog w 0 spare held n1 3 (([c0, c1, c2].drop 2).take (Try.prog.cellsOf 3)) = some y1 := h1
      rw [q] at z; exact z
    obtain ⟨a1, e1, k1⟩ := (reads3).read h1
    simp only [List.cons.injEq, and_true] at e0 e1
    obtain ⟨rfl, rfl⟩ := e0
    subst e1
    exact ⟨⟨a0, a1⟩, rfl, ⟨k0.1, okK k0.1 k0.2⟩⟩⟩
theorem readsCl : Reads Try.prog 80 (fun s : SlV Ct => [.slice s.a s.n s.c]) (SlOk RCt ctIn) := Reads.slice (R := RCt) Try.underlying80 (by kernel_rfl) readsCt
set_option maxRecDepth 100000 in
theorem readsRt : Reads Try.prog 82 (rtC) (rtIn) :=
  ⟨fun {H enc w spare held fuel cs x} h => by
    obtain ⟨hl, hf⟩ := Reads.fields Try.underlying82 h
    rw [show Try.prog.cellsOf 82 = 3 by kernel_rfl] at hl
    obtain ⟨c0, c1, c2, rfl⟩ : ∃ c0 c1 c2, cs = [c0, c1, c2] := by
      match cs, hl with
      | [c0, c1, c2], _ => exact ⟨c0, c1, c2, rfl⟩
    obtain ⟨n0, y0, h0⟩ := hf 0 _ rfl
    have h0 : DataW.trod enc Try.prog w 0 spare held n0 3 [c0] = some y0 := by
      have q : Try.prog.cellsOf 3 = 1 := by kernel_rfl
      have z : DataW.trod enc Try.prog w 0 spare held n0 3 (([c0, c1, c2].drop 0).take (Try.prog.cellsOf 3)) = some y0 := h0
      rw [q] at z; exact z
    obtain ⟨a0, e0, k0⟩ := (reads3).read h0
    obtain ⟨n1, y1, h1⟩ := hf 1 _ rfl
    have h1 : DataW.trod enc Try.prog w 0 spare held n1 3 [c1] = some y1 := by
      have q : Try.prog.cellsOf 3 = 1 := by kernel_rfl
      have z : DataW.trod enc Try.prog w 0 spare held n1 3 (([c0, c1, c2].drop 1).take (Try.prog.cellsOf 3)) = some y1 := h1
      rw [q] at z; exact z
    obtain ⟨a1, e1, k1⟩ := (reads3).read h1
    obtain ⟨n2, y2, h2⟩ := hf 2 _ rfl
    have h2 : DataW.trod enc Try.prog w 0 spare held n2 80 [c2] = some y2 := by
      have q : Try.prog.cellsOf 80 = 1 := by kernel_rfl
      have z : DataW.trod enc Try.prog w 0 spare held n2 80 (([c0, c1, c2].drop 2).take (Try.prog.cellsOf 80)) = some y2 := h2
      rw [q] at z; exact z
    obtain ⟨a2, e2, k2⟩ := (readsCl).read h2
    simp only [List.cons.injEq, and_true] at e0 e1 e2
    subst e0
    subst e1
    subst e2
    exact ⟨(a0, a1, a2), rfl, k2⟩⟩
set_option maxRecDepth 100000 in
theorem readsOp : Reads Try.prog 89 (ROpM.cells) (opIn) :=
  ⟨fun {H enc w spare held fuel cs x} h => by
    obtain ⟨hl, hf⟩ := Reads.fields Try.underlying89 h
    rw [show Try.prog.cellsOf 89 = 4 by kernel_rfl] at hl
    obtain ⟨c0, c1, c2, c3, rfl⟩ : ∃ c0 c1 c2 c3, cs = [c0, c1, c2, c3] := by
      match cs, hl with
      | [c0, c1, c2, c3], _ => exact ⟨c0, c1, c2, c3, rfl⟩
    obtain ⟨n0, y0, h0⟩ := hf 0 _ rfl
    have h0 : DataW.trod enc Try.prog w 0 spare held n0 82 [c0, c1, c2] = some y0 := by
      have q : Try.prog.cellsOf 82 = 3 := by kernel_rfl
      have z : DataW.trod enc Try.prog w 0 spare held n0 82 (([c0, c1, c2, c3].drop 0).take (Try.prog.cellsOf 82)) = some y0 := h0
      rw [q] at z; exact z
    obtain ⟨a0, e0, k0⟩ := (readsRt).read h0
    obtain ⟨n1, y1, h1⟩ := hf 1 _ rfl
    have h1 : DataW.trod enc Try.prog w 0 spare held n1 3 [c3] = some y1 := by
      have q : Try.prog.cellsOf 3 = 1 := by kernel_rfl
      have z : DataW.trod enc Try.prog w 0 spare held n1 3 (([c0, c1, c2, c3].drop 3).take (Try.prog.cellsOf 3)) = some y1 := h1
      rw [q] at z; exact z
    obtain ⟨a1, e1, k1⟩ := (reads3).read h1
    simp only [List.cons.injEq, and_true] at e0 e1
    obtain ⟨rfl, rfl, rfl⟩ := e0
    subst e1
    exact ⟨⟨a0.1, a0.2.1, a0.2.2, a1⟩, rfl, k0⟩⟩
theorem readsOl : Reads Try.prog 76 (fun s : SlV OpM => [.slice s.a s.n s.c]) (SlOk ROpM opIn) := Reads.slice (R := ROpM) Try.underlying76 (by kernel_rfl) readsOp
theorem readsIl : Reads Try.prog 45 (fun s : SlV Int => [.slice s.a s.n s.c]) (SlOk RIn (fun _ n => I3 n)) := Reads.slice (R := RIn) Try.underlying45 (by kernel_rfl) reads3
theorem own : ownKnob Try.prog.godebug = none := by kernel_rfl
theorem monce_i {w : World} {p : Int × Int × SlV Ct} (h : rtIn w p) (now : Int) : Calls Try.prog 15 #[.agg (rtC p).toArray, .int .i64 now] w fun e w' => e = .returned (.bool true) ∧ Below w.heap.size w w' := monce_law (cts_of h) _ _ _
theorem mold_i {w : World} {s : SlV OpM} (h : SlOk ROpM opIn w s) {y : OpM} (hy : opIn w y) : Calls Try.prog 12 #[.slice s.a s.n s.c, .agg (ROpM.cells y).toArray] w fun e w' => e = .returned (.bool true) ∧ Below w.heap.size w w' := mold_law ⟨h.sl, fun x hx => cts_of (h.all x hx)⟩ (cts_of hy)
theorem msums_i {w : World} {s : SlV Int} (h : SlOk RIn (fun _ n => I3 n) w s) : Calls Try.prog 14 #[.slice s.a s.n s.c] w fun e w' => e = .returned (.bool true) ∧ Below w.heap.size w w' := msums_law h.sl
end Go.Proofs.Ytfmehahjjgalfaa.Me
