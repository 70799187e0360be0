/- MeterSums: the law's walk. -/
import Derived.Test.YtfmehahjjgalfaaUo
namespace Go.Proofs.Ytfmehahjjgalfaa.Me
open Go.RowKit

def RIn : Rep Int := ⟨3, 1, by decide, fun n => [.int .i64 n], fun _ => rfl, fun _ => rfl⟩
def Sm (l : List Int) (i : Nat) : Nat → Src := fun j => if j < i then ⟨some ⟨2, 1, [⟨c0, l.getD j default⟩]⟩, some ⟨1, 0, [⟨c0, 0⟩]⟩⟩ else ⟨none, none⟩
def SmH (l : List Int) (i : Nat) : Nat → Src := fun j => if j < i then ⟨some ⟨2, 1, [⟨c0, l.getD j default⟩]⟩, some ⟨1, 0, [⟨c0, 0⟩]⟩⟩ else if j = i then ⟨some ⟨1, 0, [⟨c0, 0⟩]⟩, none⟩ else ⟨none, none⟩
theorem lenO_one {s : Src} (h : ∀ r, s.last = some r → r.cs.length = 1) : lenO s ≤ 1 := by
  unfold lenO
  cases hl : s.last with
  | none => exact Nat.zero_le _
  | some r => exact Nat.le_of_eq (h r hl)
theorem oth_few {X : Nat → Src} (h : ∀ j, lenO (X j) ≤ 1) (k : Int) : ∀ i, oth X k i ≤ i
  | 0 => by simp [oth]
  | i + 1 => by
    rw [oth_succ]
    have h1 := oth_few h k i
    have h2 := h i
    split <;> omega
theorem Sm_len (l : List Int) (i j : Nat) : lenO (Sm l i j) ≤ 1 := lenO_one fun r h => by
  unfold Sm at h
  split at h
  · cases h; rfl
  · cases h
theorem SmH_len (l : List Int) (i j : Nat) : lenO (SmH l i j) ≤ 1 := lenO_one fun r h => by
  unfold SmH at h
  split at h
  · cases h; rfl
  · split at h
    · cases h; rfl
    · cases h
theorem sE1 {l : List Int} {i : Nat} (hi : i < 16) (hok : ∀ j, j < 16 → (Sm l i j).ok) : takeE (Sm l i) (i : Int) 1 [⟨c0, 0⟩] 0 = 0 := by
  refine takeE_one hok hi (by unfold inR; omega) (by unfold inR; omega) (by unfold inR; omega) ?_ (Nat.le_trans (oth_few (Sm_len l i) _ 16) (by decide))
  unfold oldB Sm
  rw [if_neg (Nat.lt_irrefl _)]
theorem sX1 {l : List Int} {i : Nat} (hi : i < 16) (hok : ∀ j, j < 16 → (Sm l i j).ok) : takeX (Sm l i) (i : Int) 1 [⟨c0, 0⟩] 0 = SmH l i := by
  rw [takeX_yes (sE1 hi hok)]
  funext j
  unfold SmH Sm
  by_cases e : j = i
  · subst e
    simp only [if_neg (Nat.lt_irrefl _)]
  · simp only [if_neg e]
theorem sE2 {l : List Int} {i : Nat} (hi : i < 16) (hok : ∀ j, j < 16 → (SmH l i j).ok) {x : Int} (hx : inR x) : takeE (SmH l i) (i : Int) 2 [⟨c0, x⟩] 1 = 0 := by
  refine takeE_one hok hi (by unfold inR; omega) hx (by unfold inR; omega) ?_ (Nat.le_trans (oth_few (SmH_len l i) _ 16) (by decide))
  unfold oldB SmH
  rw [if_neg (Nat.lt_irrefl _), if_pos rfl]
  decide
theorem sX2 {l : List Int} {i : Nat} (hi : i < 16) (hok : ∀ j, j < 16 → (SmH l i j).ok) {x : Int} (hx : inR x) (hl : l.getD i default = x) : takeX (SmH l i) (i : Int) 2 [⟨c0, x⟩] 1 = Sm l (i + 1) := by
  rw [takeX_yes (sE2 hi hok hx)]
  funext j
  unfold SmH Sm
  by_cases e : j = i
  · subst e
    rw [if_pos rfl, if_neg (Nat.lt_irrefl _), if_pos rfl, if_pos (Nat.lt_succ_self _), hl]
  · rw [if_neg e]
    by_cases h : j < i
    · rw [if_pos h, if_pos (by omega)]
    · rw [if_neg h, if_neg e, if_neg (by omega)]
def sumA (l : List Int) : Nat → Int
  | 0 => 0
  | i + 1 => addI (sumA l i) (l.getD i default)
theorem sumA_in (l : List Int) : ∀ i, inR (sumA l i)
  | 0 => by unfold inR sumA; omega
  | _ + 1 => addI_in _ _
theorem sumA_step {s x : Int} (hs : inR s) (hx : inR x) : (if 9007199254740991 - s < x then 9007199254740991 else s + x) = addI s x := by
  unfold addI
  rw [nearI_id hs, nearI_id hx]
  unfold inR at *
  unfold nearI
  (repeat' split) <;> omega
theorem sm_rate {l : List Int} {n j : Nat} (hj : j < n) (h : ∀ j, j < n → inR (l.getD j default)) : rateS (Sm l n j) c0 = l.getD j default := by
  unfold Sm
  rw [if_pos hj, rate_one (h j hj).1 (by decide)]
  simp
theorem sm_dem {l : List Int} {n : Nat} (h : ∀ j, j < n → inR (l.getD j default)) : ∀ k, k ≤ n → demI (Sm l n) c0 k = sumA l k
  | 0, _ => rfl
  | k + 1, hk => by
    show addI (demI (Sm l n) c0 k) (rateS (Sm l n k) c0) = addI (sumA l k) _
    rw [sm_dem h k (by omega), sm_rate (by omega) h]
theorem sm_dem2 {l : List Int} {n : Nat} (h : ∀ j, j < n → inR (l.getD j default)) : ∀ k, demI (Sm l n) c0 (n + k) = sumA l n
  | 0 => sm_dem h n (Nat.le_refl _)
  | k + 1 => by
    show addI (demI (Sm l n) c0 (n + k)) (rateS (Sm l n (n + k)) c0) = _
    rw [sm_dem2 h k, show rateS (Sm l n (n + k)) c0 = 0 from by unfold Sm; rw [if_neg (by omega)]; rfl]
    exact addI_zero (sumA_in l n)
theorem sm_lone (l : List Int) (n : Nat) : Lone (Sm l n) c0 := by
  intro i _ r hr j hj
  unfold Sm at hr
  split at hr
  · cases hr
    simpa using hj
  · cases hr
def RdN (b o : Nat) (x : Int) (w : World) : Prop := w.cell? ⟨b, o, none⟩ = some (.int .i64 x)
structure RdB (b o : Nat) (x : Int) (w : World) : Prop where
  cell : RdN b o x w
  lt : b < w.heap.size
theorem RdB.keep {b o : Nat} {x : Int} {w w' : World} (h : RdB b o x w) (hb : Below w.heap.size w w') : RdB b o x w' := ⟨(cell_same (hb.block _ h.lt)).trans h.cell, Nat.lt_of_lt_of_le h.lt hb.size⟩
theorem RdB.but {b o m : Nat} {x : Int} {w w' : World} (h : RdB b o x w) (hb : But w w' [m]) (hne : b ≠ m) : RdB b o x w' := ⟨(cell_same (hb.block _ h.lt (by simpa using hne))).trans h.cell, Nat.lt_of_lt_of_le h.lt hb.size⟩
set_option maxRecDepth 100000 in
set_option maxHeartbeats 8000000 in
theorem msums_law {w : World} {oa : Option Addr} {n cn : Nat} {l : List Int} (hl : RIn.Sl w oa n cn l) : Calls Try.prog 14 #[.slice oa n cn] w fun e w' => e = .returned (.bool true) ∧ Below w.heap.size w w' := by
  have hmax : n ≤ maxLen := hl.max
  have HL := Lib.hid hl
  clear hl
  by_cases h16 : 16 < n
  · have h1 : ((16 : Int) < (n : Int)) = True := by simp; omega
    clear h16
    go_enter Try.func14, Try.ntmps14
    go_wp2_with fail
    refine (mnew_any _).mono ?_
    rintro e W1 ⟨rfl, hT, hb⟩
    have HBM := Lib.hid (Nat.le_refl w.heap.size)
    have F2 := Lib.hid (And.intro hb (show MetAt W1 w.heap.size (Sm l 0) from hT))
    obtain ⟨m, hm⟩ : ∃ m, w.heap.size = m := ⟨_, rfl⟩
    have F2 := Lib.hid (show Below w.heap.size w W1 ∧ MetAt W1 m (Sm l 0) from hm ▸ F2.out)
    have HBM := Lib.hid (show w.heap.size ≤ m from Nat.le_of_eq hm)
    rw [hm]
    clear hm hT hb
    go_wp2_with fail
    refine (lives17 _).mono ?_
    rintro e W2 ⟨rfl, hb⟩
    have F3 := Lib.hid (And.intro (bcall F2.out.1 (Nat.le_refl _) hb) (F2.out.2.keep hb))
    clear hb F2
    go_wp2_with fail
    refine (lives17 _).mono ?_
    rintro e W3 ⟨rfl, hb⟩
    have F4 := Lib.hid (bcall F3.out.1 (Nat.le_refl _) hb)
    clear hb
    go_wp2_with fail
    go_ret
    exact ⟨rfl, F4.out⟩
  have h1 : ((16 : Int) < (n : Int)) = False := by simp; omega
  go_enter Try.func14, Try.ntmps14
  go_wp2_with fail
  refine (mnew_any _).mono ?_
  rintro e W1 ⟨rfl, hT, hb⟩
  have HBM := Lib.hid (Nat.le_refl w.heap.size)
  have F2 := Lib.hid (And.intro hb (show MetAt W1 w.heap.size (Sm l 0) from hT))
  obtain ⟨m, hm⟩ : ∃ m, w.heap.size = m := ⟨_, rfl⟩
  have F2 := Lib.hid (show Below w.heap.size w W1 ∧ MetAt W1 m (Sm l 0) from hm ▸ F2.out)
  have HBM := Lib.hid (show w.heap.size ≤ m from Nat.le_of_eq hm)
  rw [hm]
  clear hm hT hb
  go_wp2_with fail
  refine (lives17 _).mono ?_
  rintro e W2 ⟨rfl, hb⟩
  have F3 := Lib.hid (And.intro (bcall F2.out.1 (Nat.le_refl _) hb) (F2.out.2.keep hb))
  clear hb F2
  go_wp2_with fail
  clear h1
  go_loopw [4, 5] (fun sv iv wr => ∃ i : Nat, i ≤ n ∧ iv = .int .i64 i ∧ sv = .int .i64 (sumA l i) ∧ MetAt wr m (Sm l i) ∧ (∀ j, j < i → inR (l.getD j default)) ∧ Below w.heap.size w wr) (fun _ iv _ => n - (intOf iv).toNat)
  case atStart => exact ⟨0, Nat.zero_le _, rfl, rfl, F3.out.2, fun j hj => absurd hj (Nat.not_lt_zero _), F3.out.1⟩
  case round =>
    obtain ⟨i, hi, rfl, rfl, hmet, hall, hb⟩ := hrel
    obtain ⟨w2, rfl⟩ : ∃ w2 : World, w2 = wr := ⟨_, rfl⟩
    clear F3
    have hsi := sumA_in l i
    by_cases hlt : i < n
    · have hil : ((i : Int) < (n : Int)) = True := by simp; omega
      have hi0 : ((0 : Int) ≤ (i : Int)) = True := by simp
      have hw3 := wrapS hlt hmax
      have hsa : sumA l (i + 1) = addI (sumA l i) (l.getD i default) := rfl
      obtain ⟨b, o, hbo, hrow⟩ := HL.out.row (by omega)
      subst hbo
      have hat := (hrow.below hb).get i (by rw [← HL.out.len]; exact hlt)
      have hblt : b < w2.heap.size := Nat.lt_of_lt_of_le hrow.lt hb.size
      have hbm : b ≠ m := by have := hrow.lt; have := HBM.out; omega
      obtain ⟨x, hx⟩ : ∃ x, l.getD i default = x := ⟨_, rfl⟩
      rw [hx] at hat hsa
      have y0 := hat 0 (by decide)
      simp only [RIn, Nat.mul_one, Nat.add_zero, List.getElem?_cons_zero] at y0
      have HX := Lib.hid (And.intro (show RdB b (o + i) x w2 from ⟨y0, hblt⟩) (And.intro hmet (And.intro hb (And.intro hall (And.intro hx hbm)))))
      clear hrow hat hmet hb hall hx hblt hbm
      by_cases hx0 : x < 0
      · have hx0t := eq_true hx0
        have F4 := Lib.hid HX.out.2.2.1
        clear hx0 hsi hsa
        go_wp2_with fail
        go_ret
        exact ⟨rfl, F4.out⟩
      by_cases hx1 : 9007199254740991 < x
      · have hx0t := eq_false hx0
        have hx1t := eq_true hx1
        have F4 := Lib.hid HX.out.2.2.1
        clear hx0 hx1 hsi hsa
        go_wp2_with fail
        go_ret
        exact ⟨rfl, F4.out⟩
      have hx0t := eq_false hx0
      have hx1t := eq_false hx1
      have hxr : inR x := ⟨by omega, by omega⟩
      have hst := sumA_step hsi hxr
      rw [← hsa] at hst
      have HS := Lib.hid (And.intro hst (And.intro hsi hxr))
      have hi16 : i < 16 := by omega
      have hok1 := HX.out.2.1.ok
      have HE1 := Lib.hid (And.intro (sE1 hi16 hok1) (sX1 hi16 hok1))
      have HI := Lib.hid hi16
      clear hx0 hx1 hsi hsa hxr hst hi16 hok1
      generalize sumA l i = sv at *
      go_wp2_with fail
      have F0 := Lib.hid (And.intro HX.out.2.2.1 (And.intro HX.out.2.1 HX.out.1))
      refine wp_region_heldP (RdN b (o + i) x) (by kernel_rfl) ?_
      have hd := (Below.refl w2.heap.size w2).drew
      have F30 := Lib.hid (And.intro (bcall F0.out.1 (Nat.le_refl _) hd) (And.intro (F0.out.2.1.keep hd) ((F0.out.2.2.keep hd))))
      clear F0
      clear hd y0
      generalize w2.drew = W3 at *
      refine held_reads [0, 1] (g := 16) rfl (by kernel_rfl) F30.out.2.2.cell (fun _ _ d _ _ h => by cases d <;> exact h) ?_
      simp only [pick, List.getD_cons_zero, List.getD_cons_succ]
      ((with_reducible refine wpRead_step (fun K hK => ?_)); go_simp; first | ((with_reducible refine hK _ ?_); clear hK K) | (apply Exists.intro; (with_reducible refine ⟨fun w' hw' => ?_, hK _ ?_⟩); (first | exact rfl | exact ⟨rfl, rfl⟩); clear hK K))
      ((with_reducible refine wpRead_step (fun K hK => ?_)); go_simp; first | ((with_reducible refine hK _ ?_); clear hK K) | (apply Exists.intro; (with_reducible refine ⟨fun w' hw' => ?_, hK _ ?_⟩); (first | exact rfl | exact ⟨rfl, rfl⟩); clear hK K))
      with_reducible refine wpRead_nil ?_
      refine held_one 2 (by kernel_rfl) ?_
      simp only [pick, List.getD_cons_zero, List.getD_cons_succ]
      go_wp2_with fail
      refine (ten0 _).mono ?_
      rintro e W4 ⟨rfl, hb⟩
      have F31 := Lib.hid (And.intro (bcall F30.out.1 (Nat.le_refl _) hb) (And.intro (F30.out.2.1.keep hb) ((F30.out.2.2.keep hb))))
      clear F30
      clear hb
      go_wp2_with fail
      refine ⟨F31.out.2.2.cell, ?_⟩
      refine held_one 3 (by kernel_rfl) ?_
      simp only [pick, List.getD_cons_zero, List.getD_cons_succ]
      go_wp2_with fail
      refine (one_any (i : Int) 1 c0 0 _).mono ?_
      rintro e W5 ⟨b1, rfl, hs, hb⟩
      have F32 := Lib.hid (And.intro (bcall F31.out.1 (Nat.le_refl _) hb) (And.intro (F31.out.2.1.keep hb) (And.intro (F31.out.2.2.keep hb) (hs))))
      clear F31
      clear hb hs
      go_wp2_with fail
      refine ⟨F32.out.2.2.1.cell, ?_⟩
      refine held_one 4 (by kernel_rfl) ?_
      simp only [pick, List.getD_cons_zero, List.getD_cons_succ]
      go_wp2_with fail
      have hg := take_any F32.out.2.1 (Cts.one F32.out.2.2.2 ⟨by decide, okc0⟩) (i : Int) 1 0
      rw [HE1.out.1, HE1.out.2] at hg
      refine hg.mono ?_
      rintro e W6 ⟨rfl, hs⟩
      have htab := hs.met
      have hbt := hs.but
      clear hs hg
      have F33 := Lib.hid (And.intro (Below.step F32.out.1 F32.out.1.size hbt (by simp; exact HBM.out)) (And.intro htab ((F32.out.2.2.1.but hbt HX.out.2.2.2.2.2))))
      clear F32
      clear htab hbt
      go_wp2_with fail
      refine ⟨F33.out.2.2.cell, ?_⟩
      refine held_reads [5, 6, 7, 8, 10, 11, 12, 13] (g := 5) rfl (by kernel_rfl) F33.out.2.2.cell (fun _ _ d _ _ h => by cases d <;> exact h) ?_
      simp only [pick, List.getD_cons_zero, List.getD_cons_succ]
      ((with_reducible refine wpRead_step (fun K hK => ?_)); go_simp; first | ((with_reducible refine hK _ ?_); clear hK K) | (apply Exists.intro; (with_reducible refine ⟨fun w' hw' => ?_, hK _ ?_⟩); (first | exact rfl | exact ⟨rfl, rfl⟩); clear hK K))
      ((with_reducible refine wpRead_step (fun K hK => ?_)); go_simp; first | ((with_reducible refine hK _ ?_); clear hK K) | (apply Exists.intro; (with_reducible refine ⟨fun w' hw' => ?_, hK _ ?_⟩); (first | exact rfl | exact ⟨rfl, rfl⟩); clear hK K))
      ((with_reducible refine wpRead_step (fun K hK => ?_)); go_simp; first | ((with_reducible refine hK _ ?_); clear hK K) | (apply Exists.intro; (with_reducible refine ⟨fun w' hw' => ?_, hK _ ?_⟩); (first | exact rfl | exact ⟨rfl, rfl⟩); clear hK K))
      ((with_reducible refine wpRead_step (fun K hK => ?_)); go_simp; first | ((with_reducible refine hK _ ?_); clear hK K) | (apply Exists.intro; (with_reducible refine ⟨fun w' hw' => ?_, hK _ ?_⟩); (first | exact rfl | exact ⟨rfl, rfl⟩); clear hK K))
      ((with_reducible refine wpRead_step (fun K hK => ?_)); go_simp; first | ((with_reducible refine hK _ ?_); clear hK K) | (apply Exists.intro; (with_reducible refine ⟨fun w' hw' => ?_, hK _ ?_⟩); (first | exact rfl | exact ⟨rfl, rfl⟩); clear hK K))
      ((with_reducible refine wpRead_step (fun K hK => ?_)); go_simp; first | ((with_reducible refine hK _ ?_); clear hK K) | (apply Exists.intro; (with_reducible refine ⟨fun w' hw' => ?_, hK _ ?_⟩); (first | exact rfl | exact ⟨rfl, rfl⟩); clear hK K))
      ((with_reducible refine wpRead_step (fun K hK => ?_)); go_simp; first | ((with_reducible refine hK _ ?_); clear hK K) | (apply Exists.intro; (with_reducible refine ⟨fun w' hw' => ?_, hK _ ?_⟩); (first | exact rfl | exact ⟨rfl, rfl⟩); clear hK K))
      ((with_reducible refine wpRead_step (fun K hK => ?_)); go_simp; first | ((with_reducible refine hK _ ?_); clear hK K) | (apply Exists.intro; (with_reducible refine ⟨fun w' hw' => ?_, hK _ ?_⟩); ((unfold RdN at hw'; go_simp; first | exact rfl | exact ⟨rfl, rfl⟩)); clear hK K))
      with_reducible refine wpRead_nil ?_
      refine held_one 9 (by kernel_rfl) ?_
      simp only [pick, List.getD_cons_zero, List.getD_cons_succ]
      go_wp2_with fail
      refine (ten0 _).mono ?_
      rintro e W7 ⟨rfl, hb⟩
      have F34 := Lib.hid (And.intro (bcall F33.out.1 (Nat.le_refl _) hb) (And.intro (F33.out.2.1.keep hb) ((F33.out.2.2.keep hb))))
      clear F33
      clear hb
      go_wp2_with fail
      refine ⟨F34.out.2.2.cell, ?_⟩
      refine held_one 14 (by kernel_rfl) ?_
      simp only [pick, List.getD_cons_zero, List.getD_cons_succ]
      go_wp2_with fail
      refine (one_any (i : Int) 2 c0 x _).mono ?_
      rintro e W8 ⟨b2, rfl, hs, hb⟩
      have F35 := Lib.hid (And.intro (bcall F34.out.1 (Nat.le_refl _) hb) (And.intro (F34.out.2.1.keep hb) (And.intro (F34.out.2.2.keep hb) (hs))))
      clear F34
      clear hb hs
      go_wp2_with fail
      refine ⟨F35.out.2.2.1.cell, ?_⟩
      have HE2 := Lib.hid (And.intro (sE2 HI.out (MetAt.ok F35.out.2.1) HS.out.2.2) (sX2 HI.out (MetAt.ok F35.out.2.1) HS.out.2.2 HX.out.2.2.2.2.1))
      refine held_one 15 (by kernel_rfl) ?_
      simp only [pick, List.getD_cons_zero, List.getD_cons_succ]
      go_wp2_with fail
      have hg := take_any F35.out.2.1 (Cts.one F35.out.2.2.2 ⟨by decide, okc0⟩) (i : Int) 2 1
      rw [HE2.out.1, HE2.out.2] at hg
      refine hg.mono ?_
      rintro e W9 ⟨rfl, hs⟩
      have htab := hs.met
      have hbt := hs.but
      clear hs hg
      have F36 := Lib.hid (And.intro (Below.step F35.out.1 F35.out.1.size hbt (by simp; exact HBM.out)) (And.intro htab ((F35.out.2.2.1.but hbt HX.out.2.2.2.2.2))))
      clear F35
      clear htab hbt
      go_wp2_with fail
      refine ⟨F36.out.2.2.cell, ?_⟩
      refine held_reads [16, 17] (g := 0) rfl (by kernel_rfl) F36.out.2.2.cell (fun _ _ d _ _ h => by cases d <;> exact h) ?_
      simp only [pick, List.getD_cons_zero, List.getD_cons_succ]
      ((with_reducible refine wpRead_step (fun K hK => ?_)); go_simp; first | ((with_reducible refine hK _ ?_); clear hK K) | (apply Exists.intro; (with_reducible refine ⟨fun w' hw' => ?_, hK _ ?_⟩); (first | exact rfl | exact ⟨rfl, rfl⟩); clear hK K))
      ((with_reducible refine wpRead_step (fun K hK => ?_)); go_simp; first | ((with_reducible refine hK _ ?_); clear hK K) | (apply Exists.intro; (with_reducible refine ⟨fun w' hw' => ?_, hK _ ?_⟩); (first | exact rfl | exact ⟨rfl, rfl⟩); clear hK K))
      with_reducible refine wpRead_nil ?_
      refine wpAnyH_done (by kernel_rfl) ?_ _
      have HAL := Lib.hid (show ∀ j, j < i + 1 → inR (l.getD j default) from fun j hj => by
        by_cases e : j = i
        · rw [e, HX.out.2.2.2.2.1]; exact HS.out.2.2
        · exact HX.out.2.2.2.1 j (by omega))
      have hwd : wrap64 (9007199254740991 - sv) = 9007199254740991 - sv := by have := HS.out.2.1; unfold inR at this; unfold wrap64; omega
      have hyc := F36.out.2.2.cell
      unfold RdN at hyc
      by_cases hsx : 9007199254740991 - sv < x
      · have hsxt := eq_true hsx
        have HR := Lib.hid (show 9007199254740991 = sumA l (i + 1) from by rw [← HS.out.1, if_pos hsx])
        clear hsx
        go_wp2_with fail
        exact ⟨⟨i + 1, hlt, by first | rw [hw3] | rw [Int.natCast_succ], by rw [HR.out], F36.out.2.1, HAL.out, F36.out.1⟩, by first | (rw [hw3]; exact mSucc hlt) | (rw [← Int.natCast_succ]; exact mSucc hlt)⟩
      · have hsxt := eq_false hsx
        have HR := Lib.hid (show sv + x = sumA l (i + 1) from by rw [← HS.out.1, if_neg hsx])
        have hwa : wrap64 (sv + x) = sv + x := by have h1 := HS.out.2.1; have h2 := HS.out.2.2; unfold inR at *; unfold wrap64; omega
        clear hsx
        go_wp2_with fail
        exact ⟨⟨i + 1, hlt, by first | rw [hw3] | rw [Int.natCast_succ], by first | rw [← HR.out, hwa] | rw [← HR.out], F36.out.2.1, HAL.out, F36.out.1⟩, by first | (rw [hw3]; exact mSucc hlt) | (rw [← Int.natCast_succ]; exact mSucc hlt)⟩
    · obtain rfl : n = i := by omega
      have hil : ((n : Int) < (n : Int)) = False := by simp
      have hd16 : demI (Sm l n) c0 16 = sumA l n := by
        have := sm_dem2 hall (16 - n)
        rwa [show n + (16 - n) = 16 from by omega] at this
      have G := Lib.hid (And.intro hb (And.intro hmet hd16))
      clear hb hmet hd16 hall hsi h16
      generalize sumA l n = sv at *
      have hss : (sv == sv) = true := by simp
      have HN := Lib.hid demand_nil
      go_wp2_with fail
      refine (ten0 _).mono ?_
      rintro e W1 ⟨rfl, hb⟩
      have G1 := Lib.hid (And.intro (bcall G.out.1 (Nat.le_refl _) hb) (G.out.2.1.keep hb))
      clear hb
      go_wp2_with fail
      have hg := demand_any G1.out.2 okc0
      rw [G.out.2.2] at hg
      refine hg.mono ?_
      rintro e W2 ⟨rfl, hb⟩
      have G2 := Lib.hid (And.intro (bcall G1.out.1 (Nat.le_refl _) hb) (G1.out.2.keep hb))
      clear hb hg G1
      go_wp2_with fail
      refine (over_any G2.out.2).mono ?_
      rintro e W3 ⟨M, hd, rfl, hb⟩
      rw [hd.one (dem_lone (MetAt.ok G2.out.2) (sm_lone l n)), sum_lone, G.out.2.2]
      obtain ⟨ob, hob⟩ : ∃ ob, (sv == 9007199254740991) = ob := ⟨_, rfl⟩
      rw [hob]
      have hoo : (ob == ob) = true := by simp
      have G3 := Lib.hid (bcall G2.out.1 (Nat.le_refl _) hb)
      clear hb hd G2
      go_wp2_with fail
      refine (ten0 _).mono ?_
      rintro e W4 ⟨rfl, hb⟩
      have G4 := Lib.hid (bcall G3.out (Nat.le_refl _) hb)
      clear hb G3
      go_wp2_with fail
      refine (HN.out c0 _).mono ?_
      rintro e W5 ⟨rfl, hb⟩
      have G5 := Lib.hid (bcall G4.out (Nat.le_refl _) hb)
      clear hb G4
      go_wp2_with fail
      refine (take_nil 0 0 none 0 0 0 _).mono ?_
      rintro e W6 ⟨rfl, hb⟩
      have G6 := Lib.hid (bcall G5.out (Nat.le_refl _) hb)
      clear hb G5
      go_wp2_with fail
      refine (demands_nil _).mono ?_
      rintro e W7 ⟨rfl, hw⟩
      subst hw
      go_wp2_with fail
      refine (over_nil _).mono ?_
      rintro e W8 ⟨rfl, hb⟩
      have G8 := Lib.hid (bcall G6.out (Nat.le_refl _) hb)
      clear hb G6
      go_wp2_with fail
      go_ret
      exact ⟨rfl, G8.out⟩
end Go.Proofs.Ytfmehahjjgalfaa.Me
