/- The bytes of a prefix. -/
import Derived.Test.YtadoflcomienoaaGreatZad
import Derived.Test.YtadoflcomienoaaGreatZac
import Derived.Test.YtadoflcomienoaaGreatZaa
import Derived.Test.YtadoflcomienoaaGreatZab
namespace Go.Proofs.YtadoflcomienoaaGreat
open Go.RowKit

/-- how many bytes hold so many bits -/
def szB (m : Nat) : Nat := (m + 7) / 8
theorem szB_le {m : Nat} (h : m ≤ 32) : szB m ≤ 4 := by unfold szB; omega
/-- a prefix's bytes -/
def pb (a m : Nat) : List Nat := m :: (be 4 a).take (szB m)
theorem pb_len {a m : Nat} (h : m ≤ 32) : (pb a m).length = szB m + 1 := by
  have := szB_le h
  unfold pb
  rw [List.length_cons, List.length_take, be_length]
  omega
theorem rh_two {w : World} {b : Nat} {x y : Option Addr × Nat × Nat} (h : w.heap[b]? = some (.cells #[.slice x.1 x.2.1 x.2.2, .slice y.1 y.2.1 y.2.2] 110)) : RH.Sl w (some ⟨b, 0, none⟩) 2 2 [x, y] := by
  refine ⟨rfl, by unfold maxLen; omega, fun _ => ⟨b, 0, rfl, lt_of_blk h, fun i hi j hj => ?_⟩⟩
  have hj0 : j = 0 := by have : RH.k = 1 := rfl; omega
  subst hj0
  have hi2 : i = 0 ∨ i = 1 := by simp at hi; omega
  rcases hi2 with rfl | rfl
  · exact cell_of h rfl
  · exact cell_of h rfl
theorem bss_two {w : World} {x y : Option Addr × Nat × Nat} {l m : List Nat} (h1 : RB.Sl w x.1 x.2.1 x.2.2 l) (h2 : x.1 = none → x.2.2 = 0) (h3 : RB.Sl w y.1 y.2.1 y.2.2 m) (h4 : y.1 = none → y.2.2 = 0) : BSS w [x, y] [l, m] := by
  refine ⟨rfl, fun j hj => ?_⟩
  have hj2 : j = 0 ∨ j = 1 := by simp at hj; omega
  rcases hj2 with rfl | rfl
  · exact ⟨h1, h2⟩
  · exact ⟨h3, h4⟩
theorem size_any (m : Nat) (hm : m ≤ 32) (w : World) : Calls Tryz.prog 208 #[.int .i64 m] w fun e w' => e = .returned (.int .i64 (szB m : Nat)) ∧ w' = w := by
  go_enter Tryz.func208, Tryz.ntmps208
  go_wp2_with fail
  go_ret
  exact ⟨ret_int (by unfold szB; omega), rfl⟩
def BxP (q : Nat) (p : PK) (W : World) : Prop := W.heap[q]? = some (.cells #[.int .u32 (p.1 : Int), .int .i64 p.2] 58)
theorem BxP.cells {q : Nat} {p : PK} {W : World} (h : BxP q p W) : W.cell? ⟨q, 0, none⟩ = some (.int .u32 (p.1 : Int)) ∧ W.cell? ⟨q, 1, none⟩ = some (.int .i64 p.2) := ⟨cell_of h rfl, cell_of h rfl⟩
theorem BxP.keep {q : Nat} {p : PK} {W W' : World} (h : BxP q p W) (hb : Below W.heap.size W W') : BxP q p W' := (hb.block _ (lt_of_blk h)).trans h
set_option maxRecDepth 100000 in
set_option maxHeartbeats 1000000 in
theorem aput_any (a m : Nat) (ha : a < 4294967296) (hok : okP a m = true) (w : World) : Calls Tryz.prog 187 #[pfx a m] w fun e w' => ∃ v, e = .returned (.tuple #[v, .int .i64 0]) ∧ RB.Own w' w.heap.size v (pb a m) ∧ Below w.heap.size w w' := by
  have hm : m ≤ 32 := by have := (okP_iff.1 hok).2.1; omega
  have HK := Lib.hid (show ∀ W, Calls Tryz.prog 54 #[pfx a m] W fun e w' => e = .returned (.int .i64 0) ∧ Below W.heap.size W w' from fun W => by have := check_any a m ha W; rw [hok] at this; exact this)
  have HP := Lib.hid (put4_any a ha)
  have HS := Lib.hid (size_any m hm)
  have HPB := Lib.hid (show pb a m = m :: (be 4 a).take (szB m) from rfl)
  have hk4 := szB_le hm
  generalize pb a m = PBL at *
  have hal := (Below.refl w.heap.size w).alloc (Nat.le_refl _) (.cells #[.int .u32 (a : Int), .int .i64 (m : Int)] 58)
  have hx : BxP w.heap.size ((a, (m : Int)) : PK) (w.alloc (.cells #[.int .u32 (a : Int), .int .i64 (m : Int)] 58)) := hnew _ _
  have F0 := Lib.hid (And.intro hal hx)
  obtain ⟨c0, c1⟩ := hx.cells
  dsimp only at c0 c1
  generalize szB m = k at *
  unfold pfx at HK ⊢
  clear hal hx hok
  go_enter Tryz.func187, Tryz.ntmps187
  go_wp2_with fail
  refine (HK.out _).mono ?_
  rintro e w1 ⟨rfl, hb⟩
  have F1 := Lib.hid (And.intro (bcall F0.out.1 (by simp) hb) (F0.out.2.keep hb))
  clear hb c0 c1 F0
  obtain ⟨c0, c1⟩ := F1.out.2.cells
  dsimp only at c0 c1
  go_wp2_with fail
  refine (HP.out _).mono ?_
  rintro e w2 ⟨v2, rfl, hown, hb⟩
  obtain ⟨oa, c, rfl, hs⟩ := bs_own hown
  rw [be_length] at hs ⊢
  have F2 := Lib.hid (And.intro (bcall F1.out.1 (Nat.le_refl _) hb) (And.intro (F1.out.2.keep hb) hs))
  clear hb c0 c1 F1 hown hs
  go_wp2_with fail
  refine wp_region_heldP (BxP w.heap.size ((a, (m : Int)) : PK)) (by kernel_rfl) ?_
  have hd := (Below.refl w2.heap.size w2).drew
  have F3 := Lib.hid (And.intro (bcall F2.out.1 (Nat.le_refl _) hd) (And.intro (F2.out.2.1.keep hd) (F2.out.2.2.below hd)))
  clear hd F2
  obtain ⟨sa, hr1, hr2, hst, hsn, -⟩ := Rep.cut_to T27 F3.out.2.2.sl F3.out.2.2.le F3.out.2.2.nil (i := k) (by omega)
  have FS := Lib.hid (And.intro hst hsn)
  clear hst hsn
  generalize w2.drew = W2 at *
  refine held_reads [0, 1, 2, 4, 5, 6] (g := 7) rfl (by kernel_rfl) F3.out.2.1 (fun _ _ d _ _ h => by cases d <;> exact h) ?_
  simp only [pick, List.getD_cons_zero, List.getD_cons_succ]
  ((with_reducible refine wpRead_step (fun K hK => ?_)); go_simp; first | ((with_reducible refine hK _ ?_); clear hK K) | (apply Exists.intro; (with_reducible refine ⟨fun w' hw' => ?_, hK _ ?_⟩); (first | exact rfl | exact ⟨rfl, rfl⟩); clear hK K))
  ((with_reducible refine wpRead_step (fun K hK => ?_)); go_simp; first | ((with_reducible refine hK _ ?_); clear hK K) | (apply Exists.intro; (with_reducible refine ⟨fun w' hw' => ?_, hK _ ?_⟩); (obtain ⟨f0, f1⟩ := BxP.cells hw'; dsimp only at f0 f1; go_simp; first | exact rfl | exact ⟨rfl, rfl⟩); clear hK K))
  iterate 3 ((with_reducible refine wpRead_step (fun K hK => ?_)); go_simp; first | ((with_reducible refine hK _ ?_); clear hK K) | (apply Exists.intro; (with_reducible refine ⟨fun w' hw' => ?_, hK _ ?_⟩); (first | exact rfl | exact ⟨rfl, rfl⟩); clear hK K))
  ((with_reducible refine wpRead_step (fun K hK => ?_)); go_simp; first | ((with_reducible refine hK _ ?_); clear hK K) | (apply Exists.intro; (with_reducible refine ⟨fun w' hw' => ?_, hK _ ?_⟩); (obtain ⟨f0, f1⟩ := BxP.cells hw'; dsimp only at f0 f1; go_simp; first | exact rfl | exact ⟨rfl, rfl⟩); clear hK K))
  with_reducible refine wpRead_nil ?_
  refine held_two 3 7 (by kernel_rfl) ?_ ?_
  · simp only [pick, List.getD_cons_zero, List.getD_cons_succ]
    have hal := (Below.refl W2.heap.size W2).alloc (Nat.le_refl _) (.cells #[.int .u8 (m : Int)] 5)
    have hone : RB.Sl (W2.alloc (.cells #[.int .u8 (m : Int)] 5)) (some ⟨W2.heap.size, 0, none⟩) 1 1 [m] := Rep.sl_one (R := RB) (y := m) (hnew _ _)
    have F4 := Lib.hid (And.intro (bcall F3.out.1 (Nat.le_refl _) hal) (And.intro (F3.out.2.1.keep hal) (And.intro (FS.out.1.keep hal) (And.intro hone FS.out.2))))
    clear hal hone
    go_wp2_with fail
    refine ⟨F4.out.2.1, ?_⟩
    generalize W2.alloc (.cells #[.int .u8 (m : Int)] 5) = W3 at *
    generalize W2.heap.size = q1 at *
    refine held_one 7 (by kernel_rfl) ?_
    simp only [pick, List.getD_cons_zero, List.getD_cons_succ]
    go_wp2_with fail
    refine (HS.out _).mono ?_
    rintro e W9 ⟨rfl, hw⟩
    have hw := hw.symm
    subst hw
    go_wp2_with fail
    refine ⟨F4.out.2.1, ?_⟩
    refine held_reads [8] (g := 4) rfl (by kernel_rfl) F4.out.2.1 (fun _ _ d _ _ h => by cases d <;> exact h) ?_
    simp only [pick, List.getD_cons_zero, List.getD_cons_succ]
    ((with_reducible refine wpRead_step (fun K hK => ?_)); go_simp; first | ((with_reducible refine hK _ ?_); clear hK K) | (apply Exists.intro; (with_reducible refine ⟨fun w' hw' => ?_, hK _ ?_⟩); (first | exact rfl | exact ⟨rfl, rfl⟩); clear hK K))
    with_reducible refine wpRead_nil ?_
    clear hr1 hr2
    refine held_one 9 (by kernel_rfl) ?_
    simp only [pick, List.getD_cons_zero, List.getD_cons_succ]
    have hal := (Below.refl W3.heap.size W3).alloc (Nat.le_refl _) (.cells #[.slice (some ⟨q1, 0, none⟩) 1 1, .slice sa k c] 110)
    have hvs : RH.Sl (W3.alloc (.cells #[.slice (some ⟨q1, 0, none⟩) 1 1, .slice sa k c] 110)) (some ⟨W3.heap.size, 0, none⟩) 2 2 [(some ⟨q1, 0, none⟩, 1, 1), (sa, k, c)] := rh_two (hnew _ _)
    have hbs : BSS (W3.alloc (.cells #[.slice (some ⟨q1, 0, none⟩) 1 1, .slice sa k c] 110)) [(some ⟨q1, 0, none⟩, 1, 1), (sa, k, c)] [[m], (be 4 a).take k] := bss_two (F4.out.2.2.2.1.keep hal) (fun h => by cases h) (F4.out.2.2.1.keep hal) F4.out.2.2.2.2
    have F5 := Lib.hid (And.intro (bcall F4.out.1 (Nat.le_refl _) hal) (And.intro (F4.out.2.1.keep hal) (And.intro hvs hbs)))
    clear hal hvs hbs
    go_wp2_with fail
    refine ⟨F5.out.2.1, ?_⟩
    generalize W3.alloc (.cells #[.slice (some ⟨q1, 0, none⟩) 1 1, .slice sa k c] 110) = W4 at *
    generalize W3.heap.size = q2 at *
    clear F4
    refine held_one 10 (by kernel_rfl) ?_
    simp only [pick, List.getD_cons_zero, List.getD_cons_succ]
    go_wp2_with fail
    refine (concat_any F5.out.2.2.1 F5.out.2.2.2 (by omega) (by unfold lsum; simp; omega)).mono ?_
    rintro e W5 ⟨v5, rfl, hown5, hb5⟩
    have F6 := Lib.hid (And.intro (bcall F5.out.1 (Nat.le_refl _) hb5) (And.intro (F5.out.2.1.keep hb5) (hown5.mono F5.out.1.size)))
    clear hown5 hb5 F5
    go_wp2_with fail
    refine ⟨F6.out.2.1, ?_⟩
    refine held_one 11 (by kernel_rfl) ?_
    simp only [pick, List.getD_cons_zero, List.getD_cons_succ]
    go_wp2_with fail
    refine ⟨F6.out.2.1, ?_⟩
    refine held_one 12 (by kernel_rfl) ?_
    simp only [pick, List.getD_cons_zero, List.getD_cons_succ]
    go_wp2_with fail
    refine ⟨F6.out.2.1, ?_⟩
    refine wpAnyH_done (by kernel_rfl) ?_ _
    go_wp2_with fail
    go_ret2
    exact ⟨_, rfl, by rw [HPB.out]; simpa using F6.out.2.2, F6.out.1⟩
  · simp only [pick, List.getD_cons_zero, List.getD_cons_succ]
    go_wp2_with fail
    refine (HS.out _).mono ?_
    rintro e W9 ⟨rfl, hw⟩
    have hw := hw.symm
    subst hw
    go_wp2_with fail
    refine ⟨F3.out.2.1, ?_⟩
    refine held_reads [8] (g := 5) rfl (by kernel_rfl) F3.out.2.1 (fun _ _ d _ _ h => by cases d <;> exact h) ?_
    simp only [pick, List.getD_cons_zero, List.getD_cons_succ]
    ((with_reducible refine wpRead_step (fun K hK => ?_)); go_simp; first | ((with_reducible refine hK _ ?_); clear hK K) | (apply Exists.intro; (with_reducible refine ⟨fun w' hw' => ?_, hK _ ?_⟩); (first | exact rfl | exact ⟨rfl, rfl⟩); clear hK K))
    with_reducible refine wpRead_nil ?_
    clear hr1 hr2
    refine held_one 3 (by kernel_rfl) ?_
    simp only [pick, List.getD_cons_zero, List.getD_cons_succ]
    have hal := (Below.refl W2.heap.size W2).alloc (Nat.le_refl _) (.cells #[.int .u8 (m : Int)] 5)
    have hone : RB.Sl (W2.alloc (.cells #[.int .u8 (m : Int)] 5)) (some ⟨W2.heap.size, 0, none⟩) 1 1 [m] := Rep.sl_one (R := RB) (y := m) (hnew _ _)
    have F4 := Lib.hid (And.intro (bcall F3.out.1 (Nat.le_refl _) hal) (And.intro (F3.out.2.1.keep hal) (And.intro (FS.out.1.keep hal) (And.intro hone FS.out.2))))
    clear hal hone
    go_wp2_with fail
    refine ⟨F4.out.2.1, ?_⟩
    generalize W2.alloc (.cells #[.int .u8 (m : Int)] 5) = W3 at *
    generalize W2.heap.size = q1 at *
    refine held_one 9 (by kernel_rfl) ?_
    simp only [pick, List.getD_cons_zero, List.getD_cons_succ]
    have hal := (Below.refl W3.heap.size W3).alloc (Nat.le_refl _) (.cells #[.slice (some ⟨q1, 0, none⟩) 1 1, .slice sa k c] 110)
    have hvs : RH.Sl (W3.alloc (.cells #[.slice (some ⟨q1, 0, none⟩) 1 1, .slice sa k c] 110)) (some ⟨W3.heap.size, 0, none⟩) 2 2 [(some ⟨q1, 0, none⟩, 1, 1), (sa, k, c)] := rh_two (hnew _ _)
    have hbs : BSS (W3.alloc (.cells #[.slice (some ⟨q1, 0, none⟩) 1 1, .slice sa k c] 110)) [(some ⟨q1, 0, none⟩, 1, 1), (sa, k, c)] [[m], (be 4 a).take k] := bss_two (F4.out.2.2.2.1.keep hal) (fun h => by cases h) (F4.out.2.2.1.keep hal) F4.out.2.2.2.2
    have F5 := Lib.hid (And.intro (bcall F4.out.1 (Nat.le_refl _) hal) (And.intro (F4.out.2.1.keep hal) (And.intro hvs hbs)))
    clear hal hvs hbs
    go_wp2_with fail
    refine ⟨F5.out.2.1, ?_⟩
    generalize W3.alloc (.cells #[.slice (some ⟨q1, 0, none⟩) 1 1, .slice sa k c] 110) = W4 at *
    generalize W3.heap.size = q2 at *
    clear F4
    refine held_one 10 (by kernel_rfl) ?_
    simp only [pick, List.getD_cons_zero, List.getD_cons_succ]
    go_wp2_with fail
    refine (concat_any F5.out.2.2.1 F5.out.2.2.2 (by omega) (by unfold lsum; simp; omega)).mono ?_
    rintro e W5 ⟨v5, rfl, hown5, hb5⟩
    have F6 := Lib.hid (And.intro (bcall F5.out.1 (Nat.le_refl _) hb5) (And.intro (F5.out.2.1.keep hb5) (hown5.mono F5.out.1.size)))
    clear hown5 hb5 F5
    go_wp2_with fail
    refine ⟨F6.out.2.1, ?_⟩
    refine held_one 11 (by kernel_rfl) ?_
    simp only [pick, List.getD_cons_zero, List.getD_cons_succ]
    go_wp2_with fail
    refine ⟨F6.out.2.1, ?_⟩
    refine held_one 12 (by kernel_rfl) ?_
    simp only [pick, List.getD_cons_zero, List.getD_cons_succ]
    go_wp2_with fail
    refine ⟨F6.out.2.1, ?_⟩
    refine wpAnyH_done (by kernel_rfl) ?_ _
    go_wp2_with fail
    go_ret2
    exact ⟨_, rfl, by rw [HPB.out]; simpa using F6.out.2.2, F6.out.1⟩
end Go.Proofs.YtadoflcomienoaaGreat
/- The bytes of a prefix, as the reference tells them; which ones may be told. -/
namespace Go.Proofs.YtadoflcomienoaaGreat
open Go.RowKit

def okN (paths : Bool) (n : Nl) : Bool := decide (0 ≤ n.id) && decide (n.id ≤ 4294967295) && (paths || decide (n.id = 0)) && okP n.a n.ln
def nb (paths : Bool) (n : Nl) : List Nat := (if paths then be 4 n.id.toNat else []) ++ pb n.a n.ln.toNat
theorem okN_iff {paths : Bool} {n : Nl} : okN paths n = true ↔ (0 ≤ n.id ∧ n.id ≤ 4294967295 ∧ (paths = true ∨ n.id = 0)) ∧ okP n.a n.ln = true := by
  unfold okN
  simp [and_assoc]
def BxN (q : Nat) (n : Nl) (W : World) : Prop := W.heap[q]? = some (.cells #[.int .i64 n.id, .int .u32 (n.a : Int), .int .i64 n.ln] 60)
theorem BxN.cells {q : Nat} {n : Nl} {W : World} (h : BxN q n W) : W.cell? ⟨q, 0, none⟩ = some (.int .i64 n.id) ∧ W.cell? ⟨q, 1, none⟩ = some (.int .u32 (n.a : Int)) ∧ W.cell? ⟨q, 2, none⟩ = some (.int .i64 n.ln) := ⟨cell_of h rfl, cell_of h rfl, cell_of h rfl⟩
theorem BxN.keep {q : Nat} {n : Nl} {W W' : World} (h : BxN q n W) (hb : Below W.heap.size W W') : BxN q n W' := (hb.block _ (lt_of_blk h)).trans h
set_option maxRecDepth 100000 in
theorem odd_any (paths : Bool) (n : Nl) (ha : n.a < 4294967296) (w : World) : Calls Tryz.prog 152 #[n.v, .bool paths] w fun e w' => e = .returned (.bool (!okN paths n)) ∧ Below w.heap.size w w' := by
  have HK := Lib.hid (check_any n.a n.ln ha)
  have hcase : (n.id < 0 ∧ okN paths n = false) ∨ (¬ n.id < 0 ∧ (if paths then (4294967295 : Int) else 0) < n.id ∧ okN paths n = false) ∨ (¬ n.id < 0 ∧ ¬ (if paths then (4294967295 : Int) else 0) < n.id ∧ okN paths n = okP n.a n.ln) := by
    by_cases h1 : n.id < 0
    · exact .inl ⟨h1, by unfold okN; simp; omega⟩
    · by_cases h2 : (if paths then (4294967295 : Int) else 0) < n.id
      · refine .inr (.inl ⟨h1, h2, ?_⟩)
        rw [Bool.eq_false_iff, Ne, okN_iff]
        cases paths <;> simp at h2 ⊢ <;> intros <;> omega
      · refine .inr (.inr ⟨h1, h2, ?_⟩)
        have h3 : (0 ≤ n.id ∧ n.id ≤ 4294967295 ∧ (paths = true ∨ n.id = 0)) := by
          cases paths <;> simp at h2 ⊢ <;> omega
        rw [Bool.eq_iff_iff, okN_iff]
        exact ⟨fun h => h.2, fun h => ⟨h3, h⟩⟩
  have hal := (Below.refl w.heap.size w).alloc (Nat.le_refl _) (.cells #[.int .i64 n.id, .int .u32 (n.a : Int), .int .i64 n.ln] 60)
  have hx : BxN w.heap.size n (w.alloc (.cells #[.int .i64 n.id, .int .u32 (n.a : Int), .int .i64 n.ln] 60)) := hnew _ _
  have F0 := Lib.hid (And.intro hal hx)
  obtain ⟨c0, c1, c2⟩ := hx.cells
  unfold Nl.v
  generalize okN paths n = v at *
  unfold pfx at HK
  clear hal hx
  rcases hcase with ⟨h1, rfl⟩ | ⟨h1, h2, rfl⟩ | ⟨h1, h2, rfl⟩
  · have e1 : (n.id < 0) = True := eq_true h1
    clear h1
    cases paths <;>
    · go_enter Tryz.func152, Tryz.ntmps152
      go_wp2_with fail
      go_ret
      exact ⟨rfl, F0.out.1⟩
  · have e1 : (n.id < 0) = False := eq_false h1
    clear h1
    cases paths
    all_goals
      have e2 := eq_true h2
      simp only [Bool.false_eq_true, if_false, if_true] at e2
      clear h2
      go_enter Tryz.func152, Tryz.ntmps152
      go_wp2_with fail
      go_ret
      exact ⟨rfl, F0.out.1⟩
  · have e1 : (n.id < 0) = False := eq_false h1
    clear h1
    generalize okP n.a n.ln = o at *
    cases paths
    all_goals
      have e2 := eq_false h2
      simp only [Bool.false_eq_true, if_false, if_true] at e2
      clear h2
      go_enter Tryz.func152, Tryz.ntmps152
      go_wp2_with fail
      refine (HK.out _).mono ?_
      rintro e w1 ⟨rfl, hb⟩
      have HB := Lib.hid (bcall F0.out.1 (by simp) hb)
      clear hb c0 c1 c2 F0
      cases o
      all_goals
        go_wp2_with fail
        go_ret
        exact ⟨rfl, HB.out⟩
set_option maxRecDepth 100000 in
theorem one_any (paths : Bool) (n : Nl) (ha : n.a < 4294967296) (w : World) : Calls Tryz.prog 90 #[n.v, .bool paths] w fun e w' => e = .returned (.bool (okN paths n)) ∧ Below w.heap.size w w' := by
  have HK := Lib.hid (rcheck_any n.a n.ln ha)
  have hcase : (¬ 0 ≤ n.id ∧ okN paths n = false) ∨ (0 ≤ n.id ∧ ¬ n.id ≤ 4294967295 ∧ okN paths n = false) ∨ (0 ≤ n.id ∧ n.id ≤ 4294967295 ∧ paths = false ∧ (n.id == 0) = false ∧ okN paths n = false) ∨ (0 ≤ n.id ∧ n.id ≤ 4294967295 ∧ paths = false ∧ (n.id == 0) = true ∧ okN paths n = okP n.a n.ln) ∨ (0 ≤ n.id ∧ n.id ≤ 4294967295 ∧ paths = true ∧ okN paths n = okP n.a n.ln) := by
    unfold okN
    by_cases h1 : 0 ≤ n.id <;> by_cases h2 : n.id ≤ 4294967295 <;> by_cases h3 : n.id = 0 <;> cases paths <;> simp [h1, h2, h3] <;> omega
  have hal := (Below.refl w.heap.size w).alloc (Nat.le_refl _) (.cells #[.int .i64 n.id, .int .u32 (n.a : Int), .int .i64 n.ln] 60)
  have hx : BxN w.heap.size n (w.alloc (.cells #[.int .i64 n.id, .int .u32 (n.a : Int), .int .i64 n.ln] 60)) := hnew _ _
  have F0 := Lib.hid (And.intro hal hx)
  obtain ⟨c0, c1, c2⟩ := hx.cells
  unfold Nl.v
  generalize okN paths n = v at *
  unfold pfx at HK
  clear hal hx
  rcases hcase with ⟨h1, rfl⟩ | ⟨h1, h2, rfl⟩ | ⟨h1, h2, rfl, h3, rfl⟩ | ⟨h1, h2, rfl, h3, rfl⟩ | ⟨h1, h2, rfl, rfl⟩
  · have e1 : (0 ≤ n.id) = False := eq_false h1
    clear h1
    cases paths <;>
    · go_enter Tryz.func90, Tryz.ntmps90
      go_wp2_with fail
      go_ret
      exact ⟨rfl, F0.out.1⟩
  · have e1 : (0 ≤ n.id) = True := eq_true h1
    have e2 : (n.id ≤ 4294967295) = False := eq_false h2
    clear h1 h2
    cases paths <;>
    · go_enter Tryz.func90, Tryz.ntmps90
      go_wp2_with fail
      go_ret
      exact ⟨rfl, F0.out.1⟩
  all_goals
    have e1 : (0 ≤ n.id) = True := eq_true h1
    have e2 : (n.id ≤ 4294967295) = True := eq_true h2
    clear h1 h2
  · go_enter Tryz.func90, Tryz.ntmps90
    go_wp2_with fail
    go_ret
    exact ⟨rfl, F0.out.1⟩
  all_goals
    generalize okP n.a n.ln = o at *
    go_enter Tryz.func90, Tryz.ntmps90
    go_wp2_with fail
    refine (HK.out _).mono ?_
    rintro e w1 ⟨rfl, hb⟩
    have HB := Lib.hid (bcall F0.out.1 (by simp) hb)
    clear hb c0 c1 c2 F0
    go_wp2_with fail
    go_ret
    exact ⟨rfl, HB.out⟩
end Go.Proofs.YtadoflcomienoaaGreat
/- The bytes of one that may be told; Check. -/
namespace Go.Proofs.YtadoflcomienoaaGreat
open Go.RowKit

set_option maxRecDepth 100000 in
set_option maxHeartbeats 1000000 in
theorem nbytes_at (paths : Bool) (i a m : Nat) (hi : i < 4294967296) (ha : a < 4294967296) (hok : okP a m = true) (w : World) : Calls Tryz.prog 153 #[.agg #[.int .i64 i, .int .u32 (a : Int), .int .i64 m], .bool paths] w fun e w' => ∃ v, e = .returned v ∧ RB.Own w' w.heap.size v ((if paths then be 4 (i : Int).toNat else []) ++ pb a (m : Int).toNat) ∧ Below w.heap.size w w' := by
  have hm : m ≤ 32 := by have := (okP_iff.1 hok).2.1; omega
  have HP := Lib.hid (put4_any i hi)
  have HA := Lib.hid (aput_any a m ha hok)
  have HL := Lib.hid (show (pb a m).length ≤ 5 by rw [pb_len hm]; have := szB_le hm; omega)
  rw [Int.toNat_natCast, Int.toNat_natCast]
  generalize pb a m = PBL at *
  have hal := (Below.refl w.heap.size w).alloc (Nat.le_refl _) (.cells #[.int .i64 i, .int .u32 (a : Int), .int .i64 m] 60)
  have hx : BxN w.heap.size ⟨i, a, m⟩ (w.alloc (.cells #[.int .i64 i, .int .u32 (a : Int), .int .i64 m] 60)) := hnew _ _
  have F0 := Lib.hid (And.intro hal hx)
  obtain ⟨c0, c1, c2⟩ := hx.cells
  dsimp only at c0 c1 c2
  unfold pfx at HA
  clear hal hx hok
  cases paths with
  | false =>
    simp only [Bool.false_eq_true, if_false, List.nil_append]
    go_enter Tryz.func153, Tryz.ntmps153
    go_wp2_with fail
    refine (HA.out _).mono ?_
    rintro e w1 ⟨v1, rfl, hown, hb⟩
    have hb1 := bcall F0.out.1 (by simp) hb
    obtain ⟨oa, c, rfl, hs, hn⟩ := hown.sl0
    have F1 := Lib.hid (And.intro hb1 (And.intro hs hn))
    have hL := HL.out
    obtain ⟨ll, hll⟩ : ∃ ll, PBL.length = ll := ⟨_, rfl⟩
    rw [hll] at F1 hL ⊢
    clear hb hown hb1 c0 c1 c2 F0 hs hll
    go_wp2_with (at_builtin; refine halt ?_)
    refine Halted.go ?_
    refine Rep.append_list T27 rfl _ _ rfl rfl (Rep.Own.nil _ _) (L := []) (M := PBL) rfl F1.out.2.1 F1.out.2.2 (by unfold maxLen; simp; omega) (by simp; omega) F1.out.1.size ?_
    intro v2 w2 hown2 hb2 _
    have F2 := Lib.hid (And.intro hown2 (F1.out.1.trans hb2))
    clear hown2 hb2 F1
    go_wp2_with fail
    go_ret
    exact ⟨_, rfl, F2.out.1, F2.out.2⟩
  | true =>
    simp only [if_true]
    go_enter Tryz.func153, Tryz.ntmps153
    go_wp2_with fail
    refine (HP.out _).mono ?_
    rintro e w1 ⟨v1, rfl, hown, hb⟩
    have F1 := Lib.hid (And.intro (bcall F0.out.1 (by simp) hb) (And.intro (F0.out.2.keep hb) (hown.mono (show w.heap.size ≤ _ by simp))))
    clear hb c0 c1 c2 F0 hown
    obtain ⟨c0, c1, c2⟩ := F1.out.2.1.cells
    dsimp only at c0 c1 c2
    go_wp2_with fail
    refine (HA.out _).mono ?_
    rintro e w2 ⟨v2, rfl, hown, hb⟩
    have hb1 := bcall F1.out.1 (Nat.le_refl _) hb
    obtain ⟨oa, c, rfl, hs, hn⟩ := hown.sl0
    have F2 := Lib.hid (And.intro hb1 (And.intro hs (And.intro hn (F1.out.2.2.below hb))))
    have hL := HL.out
    obtain ⟨ll, hll⟩ : ∃ ll, PBL.length = ll := ⟨_, rfl⟩
    rw [hll] at F2 hL ⊢
    clear hb hown hb1 c0 c1 c2 F1 hs hll
    go_wp2_with (at_builtin; refine halt ?_)
    refine Halted.go ?_
    refine Rep.append_list T27 rfl _ _ rfl rfl F2.out.2.2.2 (M := PBL) rfl F2.out.2.1 F2.out.2.2.1 (by rw [be_length]; unfold maxLen; omega) (by rw [be_length]; omega) F2.out.1.size ?_
    intro v3 w3 hown3 hb3 _
    have F3 := Lib.hid (And.intro hown3 (F2.out.1.trans hb3))
    clear hown3 hb3 F2
    go_wp2_with fail
    go_ret
    exact ⟨_, rfl, F3.out.1, F3.out.2⟩
theorem okN_nat {paths : Bool} {n : Nl} (h : okN paths n = true) : ∃ i m : Nat, n.id = i ∧ n.ln = m ∧ i < 4294967296 ∧ m ≤ 32 ∧ okP n.a m = true := by
  obtain ⟨⟨h1, h2, _⟩, h3⟩ := okN_iff.1 h
  obtain ⟨k0, k1, k2⟩ := okP_iff.1 h3
  obtain ⟨i, hi⟩ := Int.eq_ofNat_of_zero_le h1
  obtain ⟨m, hm⟩ := Int.eq_ofNat_of_zero_le k0
  refine ⟨i, m, hi, hm, by omega, by omega, ?_⟩
  rw [hm] at h3
  exact h3
theorem nbytes_any (paths : Bool) {n : Nl} (ha : n.a < 4294967296) (hok : okN paths n = true) (w : World) : Calls Tryz.prog 153 #[n.v, .bool paths] w fun e w' => ∃ v, e = .returned v ∧ RB.Own w' w.heap.size v (nb paths n) ∧ Below w.heap.size w w' := by
  obtain ⟨i, m, h1, h2, h3, h4, h5⟩ := okN_nat hok
  have := nbytes_at paths i n.a m h3 ha h5 w
  unfold Nl.v nb
  rw [h1, h2]
  exact this
theorem nb_len (paths : Bool) {n : Nl} (hok : okN paths n = true) : (nb paths n).length ≤ 9 := by
  obtain ⟨i, m, h1, h2, h3, h4, h5⟩ := okN_nat hok
  have := pb_len (a := n.a) h4
  have h6 := szB_le h4
  unfold nb
  rw [h1, h2, List.length_append, Int.toNat_natCast, Int.toNat_natCast, this]
  cases paths <;> simp [be_length] <;> omega
set_option maxRecDepth 100000 in
theorem nsize_any (paths : Bool) (n : Nl) (ha : n.a < 4294967296) (w : World) : Calls Tryz.prog 122 #[n.v, .bool paths] w fun e w' => e = .returned (.int .i64 (if okN paths n then (nb paths n).length else 0 : Nat)) ∧ Below w.heap.size w w' := by
  have HO := Lib.hid (odd_any paths n ha)
  have HB := Lib.hid (nbytes_any paths ha (n := n))
  have hal := (Below.refl w.heap.size w).alloc (Nat.le_refl _) (.cells #[.int .i64 n.id, .int .u32 (n.a : Int), .int .i64 n.ln] 60)
  have hx : BxN w.heap.size n (w.alloc (.cells #[.int .i64 n.id, .int .u32 (n.a : Int), .int .i64 n.ln] 60)) := hnew _ _
  have F0 := Lib.hid (And.intro hal hx)
  obtain ⟨c0, c1, c2⟩ := hx.cells
  obtain ⟨o, ho⟩ : ∃ o, okN paths n = o := ⟨_, rfl⟩
  rw [ho] at HO HB ⊢
  obtain ⟨N, hN⟩ : ∃ N, nb paths n = N := ⟨_, rfl⟩
  rw [hN] at HB ⊢
  unfold Nl.v at *
  clear hal hx ho hN
  go_enter Tryz.func122, Tryz.ntmps122
  go_wp2_with fail
  refine (HO.out _).mono ?_
  rintro e w1 ⟨rfl, hb⟩
  have F1 := Lib.hid (And.intro (bcall F0.out.1 (by simp) hb) (F0.out.2.keep hb))
  clear hb c0 c1 c2 F0
  obtain ⟨c0, c1, c2⟩ := F1.out.2.cells
  cases o with
  | false =>
    go_wp2_with fail
    go_ret
    exact ⟨rfl, F1.out.1⟩
  | true =>
    go_wp2_with fail
    refine (HB.out (by first | exact rfl | trivial) _).mono ?_
    rintro e w2 ⟨v, rfl, hown, hb⟩
    obtain ⟨oa, c, rfl, -⟩ := bs_own hown
    have F2 := Lib.hid (bcall F1.out.1 (Nat.le_refl _) hb)
    clear hb hown c0 c1 c2 F1
    go_wp2_with fail
    go_ret
    exact ⟨rfl, F2.out⟩
end Go.Proofs.YtadoflcomienoaaGreat
/- Check. -/
namespace Go.Proofs.YtadoflcomienoaaGreat
open Go.RowKit

/-- a slice of such -/
structure Nls (w : World) (oa : Option Addr) (n c : Nat) (L : List Nl) : Prop where
  sl : RNl.Sl w oa n c L
  ad : ∀ x ∈ L, x.a < 4294967296
  nil : oa = none → c = 0
  le : n ≤ c
  cap : c ≤ maxLen
theorem Nls.keep {w w' : World} {oa : Option Addr} {n c : Nat} {L : List Nl} (h : Nls w oa n c L) (hb : Below w.heap.size w w') : Nls w' oa n c L := ⟨h.sl.keep hb, h.ad, h.nil, h.le, h.cap⟩
theorem all_take_s {α : Type} [Inhabited α] (l : List α) (p : α → Bool) (i : Nat) (h : i < l.length) : (l.take (i + 1)).all p = ((l.take i).all p && p (l.getD i default)) := by
  rw [List.take_succ_eq_append_getElem h, List.all_append]
  simp [List.getD_eq_getElem?_getD, h]
def BxB (q : Nat) (b : Bool) (W : World) : Prop := W.heap[q]? = some (.cells #[.bool b] 4)
theorem BxB.cell {q : Nat} {b : Bool} {W : World} (h : BxB q b W) : W.cell? ⟨q, 0, none⟩ = some (.bool b) := cell_of h rfl
theorem BxB.keep {q : Nat} {b : Bool} {W W' : World} (h : BxB q b W) (hb : Below W.heap.size W W') : BxB q b W' := (hb.block _ (lt_of_blk h)).trans h
end Go.Proofs.YtadoflcomienoaaGreat
/- Attributes: what they are in memory, what they say; which ones are the same. -/
namespace Go.Proofs.YtadoflcomienoaaGreat
open Go.RowKit

def I64 (n : Int) : Prop := -9223372036854775808 ≤ n ∧ n ≤ 9223372036854775807
def OkI (_ : World) (n : Int) : Prop := I64 n
instance {α : Type} : Inhabited (SlV α) := ⟨⟨none, 0, 0, []⟩⟩
def RI : Rep Int := ⟨3, 1, by decide, fun n => [.int .i64 n], fun _ => rfl, fun _ => rfl⟩
theorem TI : Rep.Ty Tryz.prog 38 RI 8 := Rep.Ty.mk' Tryz.underlying38 (z := .int .i64 0) (by kernel_rfl) rfl
theorem SlOk.keep {α : Type} [Inhabited α] {R : Rep α} {ok : World → α → Prop} {w w' : World} {s : SlV α} (h : SlOk R ok w s) (hb : Below w.heap.size w w') (hok : ∀ x ∈ s.l, ok w x → ok w' x) : SlOk R ok w' s :=
  ⟨h.sl.keep hb, h.nil, h.nc, h.cm, fun x hx => hok x hx (h.all x hx)⟩
theorem SlOk.keepI {w w' : World} {s : SlV Int} (h : SlOk RI OkI w s) (hb : Below w.heap.size w w') : SlOk RI OkI w' s := h.keep hb fun _ _ h => h
/-- a segment -/
structure SgV where
  set : Bool
  s : SlV Int
deriving Inhabited
def SgV.sg (x : SgV) : Sg := (x.set, x.s.l)
def SgV.v (x : SgV) : Value := .agg #[.bool x.set, .slice x.s.a x.s.n x.s.c]
def RSg : Rep SgV := ⟨134, 2, by decide, fun x => [.bool x.set, .slice x.s.a x.s.n x.s.c], fun _ => rfl, fun _ => rfl⟩
theorem TSg : Rep.Ty Tryz.prog 36 RSg 32 := Rep.Ty.mk' Tryz.underlying36 (z := .agg #[.bool false, .slice none 0 0]) (by kernel_rfl) rfl
def SgOk (w : World) (x : SgV) : Prop := SlOk RI OkI w x.s
theorem SgOk.keep {w w' : World} {x : SgV} (h : SgOk w x) (hb : Below w.heap.size w w') : SgOk w' x := SlOk.keepI h hb
/-- attributes -/
structure AtV where
  o : Int
  p : SlV SgV
  nx : Int
  md : Int
  pf : Int
  c : SlV Int
deriving Inhabited
def AtV.at (x : AtV) : At := ⟨x.o, x.p.l.map SgV.sg, x.nx, x.md, x.pf, x.c.l⟩
def AtV.v (x : AtV) : Value := .agg #[.int .i64 x.o, .slice x.p.a x.p.n x.p.c, .int .u32 x.nx, .int .i64 x.md, .int .i64 x.pf, .slice x.c.a x.c.n x.c.c]
structure AtOk (w : World) (x : AtV) : Prop where
  p : SlOk RSg SgOk w x.p
  c : SlOk RI OkI w x.c
  o : I64 x.o
  nx : 0 ≤ x.nx ∧ x.nx ≤ 4294967295
  md : I64 x.md
  pf : I64 x.pf
theorem SlOk.keepS {w w' : World} {s : SlV SgV} (h : SlOk RSg SgOk w s) (hb : Below w.heap.size w w') : SlOk RSg SgOk w' s := h.keep hb fun _ _ h => h.keep hb
theorem AtOk.keep {w w' : World} {x : AtV} (h : AtOk w x) (hb : Below w.heap.size w w') : AtOk w' x := ⟨h.p.keepS hb, h.c.keepI hb, h.o, h.nx, h.md, h.pf⟩
def BxA (q : Nat) (x : AtV) (W : World) : Prop := W.heap[q]? = some (.cells #[.int .i64 x.o, .slice x.p.a x.p.n x.p.c, .int .u32 x.nx, .int .i64 x.md, .int .i64 x.pf, .slice x.c.a x.c.n x.c.c] 40)
theorem BxA.keep {q : Nat} {x : AtV} {W W' : World} (h : BxA q x W) (hb : Below W.heap.size W W') : BxA q x W' := (hb.block _ (lt_of_blk h)).trans h
theorem BxA.cells {q : Nat} {x : AtV} {W : World} (h : BxA q x W) : W.cell? ⟨q, 0, none⟩ = some (.int .i64 x.o) ∧ W.cell? ⟨q, 1, none⟩ = some (.slice x.p.a x.p.n x.p.c) ∧ W.cell? ⟨q, 2, none⟩ = some (.int .u32 x.nx) ∧ W.cell? ⟨q, 3, none⟩ = some (.int .i64 x.md) ∧ W.cell? ⟨q, 4, none⟩ = some (.int .i64 x.pf) ∧ W.cell? ⟨q, 5, none⟩ = some (.slice x.c.a x.c.n x.c.c) := ⟨cell_of h rfl, cell_of h rfl, cell_of h rfl, cell_of h rfl, cell_of h rfl, cell_of h rfl⟩
def BxS (q : Nat) (x : SgV) (W : World) : Prop := W.heap[q]? = some (.cells #[.bool x.set, .slice x.s.a x.s.n x.s.c] 134)
theorem BxS.keep {q : Nat} {x : SgV} {W W' : World} (h : BxS q x W) (hb : Below W.heap.size W W') : BxS q x W' := (hb.block _ (lt_of_blk h)).trans h
theorem BxS.cells {q : Nat} {x : SgV} {W : World} (h : BxS q x W) : W.cell? ⟨q, 0, none⟩ = some (.bool x.set) ∧ W.cell? ⟨q, 1, none⟩ = some (.slice x.s.a x.s.n x.s.c) := ⟨cell_of h rfl, cell_of h rfl⟩
def inI (n lo hi : Int) : Bool := decide (lo ≤ n) && decide (n ≤ hi)
theorem within_any (n lo hi : Int) (w : World) : Calls Tryz.prog 107 #[.int .i64 n, .int .i64 lo, .int .i64 hi] w fun e w' => e = .returned (.bool (inI n lo hi)) ∧ w' = w := by
  obtain ⟨v, hv⟩ : ∃ v, inI n lo hi = v := ⟨_, rfl⟩
  rw [hv]
  unfold inI at hv
  have HV := Lib.hid hv
  clear hv
  by_cases h1 : lo ≤ n
  · have e1 : (lo ≤ n) = True := eq_true h1
    by_cases h2 : n ≤ hi
    · have e2 : (n ≤ hi) = True := eq_true h2
      clear h1 h2
      go_enter Tryz.func107, Tryz.ntmps107
      go_wp2_with fail
      go_ret
      exact ⟨ret_bool (by rw [← HV.out]; simp [of_eq_true e1, of_eq_true e2]), rfl⟩
    · have e2 : (n ≤ hi) = False := eq_false h2
      clear h1 h2
      go_enter Tryz.func107, Tryz.ntmps107
      go_wp2_with fail
      go_ret
      exact ⟨ret_bool (by rw [← HV.out]; simp [of_eq_true e1, of_eq_false e2]), rfl⟩
  · have e1 : (lo ≤ n) = False := eq_false h1
    clear h1
    go_enter Tryz.func107, Tryz.ntmps107
    go_wp2_with fail
    go_ret
    exact ⟨ret_bool (by rw [← HV.out]; simp [of_eq_false e1]), rfl⟩
def wd (four : Bool) : Nat := if four then 4 else 2
theorem asize_any (four : Bool) (w : World) : Calls Tryz.prog 143 #[.bool four] w fun e w' => e = .returned (.int .i64 (wd four : Nat)) ∧ w' = w := by
  cases four <;>
  · go_enter Tryz.func143, Tryz.ntmps143
    go_wp2_with fail
    go_ret
    exact ⟨rfl, rfl⟩

theorem getD_ext {α : Type} [Inhabited α] {L M : List α} (hl : L.length = M.length) (h : ∀ i, i < L.length → L.getD i default = M.getD i default) : L = M := by
  refine List.ext_getElem hl fun i h1 h2 => ?_
  have := h i h1
  rw [List.getD_eq_getElem?_getD, List.getD_eq_getElem?_getD, List.getElem?_eq_getElem h1, List.getElem?_eq_getElem h2] at this
  simpa using this
structure TwoC (a b : Addr) (x y : Value) (W : World) : Prop where
  l : W.cell? a = some x
  r : W.cell? b = some y
set_option maxRecDepth 100000 in
set_option maxHeartbeats 1000000 in
/-- slices.Equal of ints -/
theorem equalI_any {w : World} {oa ob : Option Addr} {n c m d : Nat} {L M : List Int} (h : RI.Sl w oa n c L) (k : RI.Sl w ob m d M) : Calls Tryz.prog 94 #[.slice oa n c, .slice ob m d] w fun e w' => e = .returned (.bool (decide (L = M))) ∧ Below w.heap.size w w' := by
  by_cases hnm : n = m
  · subst hnm
    have HL := Lib.hid h.len
    have HM := Lib.hid k.len
    have hmax := h.max
    have F := Lib.hid (And.intro h k)
    obtain ⟨v, hv⟩ : ∃ v, decide (L = M) = v := ⟨_, rfl⟩
    rw [hv]
    have HV := Lib.hid hv
    have e0 : ((n : Int) == (n : Int)) = true := by simp
    clear h k hv
    go_enter Tryz.func94, Tryz.ntmps94
    go_wp2_with fail
    go_loopw [13] (fun iv wr => ∃ i : Nat, i ≤ n ∧ iv = .int .i64 i ∧ (∀ j, j < i → L.getD j default = M.getD j default) ∧ Below w.heap.size w wr) (fun iv _ => n - (intOf iv).toNat)
    case atStart => exact ⟨0, Nat.zero_le _, rfl, fun j hj => absurd hj (Nat.not_lt_zero _), Below.refl _ _⟩
    case round =>
      obtain ⟨i, hi, rfl, hall, hb⟩ := hrel
      obtain ⟨w2, rfl⟩ : ∃ w2 : World, w2 = wr := ⟨_, rfl⟩
      by_cases hlt : i < n
      · have hil : ((i : Int) < (n : Int)) = True := by simp; omega
        have hi0 : ((0 : Int) ≤ (i : Int)) = True := by simp
        have hw3 := wrapS hlt hmax
        obtain ⟨b0, o0, rfl, hbb, hat⟩ := (F.out.1.keep hb).at hlt
        obtain ⟨b1, o1, rfl, hbb1, hat1⟩ := (F.out.2.keep hb).at hlt
        have c0 := hat 0 (by decide)
        have d0 := hat1 0 (by decide)
        simp only [RI, Nat.add_zero, List.getElem?_cons_zero, Nat.mul_one] at c0 d0
        obtain ⟨x, hx⟩ : ∃ x, L.getD i default = x := ⟨_, rfl⟩
        obtain ⟨y, hy⟩ : ∃ y, M.getD i default = y := ⟨_, rfl⟩
        rw [hx] at c0
        rw [hy] at d0
        have hd := (Below.refl w2.heap.size w2).drew
        have K := Lib.hid (And.intro (show TwoC ⟨b0, o0 + i, none⟩ ⟨b1, o1 + i, none⟩ (.int .i64 x) (.int .i64 y) w2.drew from ⟨c0, d0⟩) (And.intro (bcall hb (Nat.le_refl _) hd) (And.intro hall (And.intro hx hy))))
        clear hb hat hat1 hall hx hy c0 d0 hd hbb hbb1
        by_cases hxy : x = y
        · subst hxy
          have e1 : (x == x) = true := by simp
          go_wp2_with fail
          refine wp_region_heldP (TwoC ⟨b0, o0 + i, none⟩ ⟨b1, o1 + i, none⟩ (.int .i64 x) (.int .i64 x)) (by kernel_rfl) ?_
          generalize w2.drew = V at *
          refine held_reads [0, 1, 2, 3, 4, 5, 6, 7, 8] (g := 0) rfl (by kernel_rfl) K.out.1 (fun _ _ d _ _ h => by cases d <;> exact h) ?_
          simp only [pick, List.getD_cons_zero, List.getD_cons_succ]
          iterate 3 ((with_reducible refine wpRead_step (fun K hK => ?_)); go_simp; first | ((with_reducible refine hK _ ?_); clear hK K) | (apply Exists.intro; (with_reducible refine ⟨fun w' hw' => ?_, hK _ ?_⟩); (first | exact rfl | exact ⟨rfl, rfl⟩); clear hK K))
          ((with_reducible refine wpRead_step (fun K hK => ?_)); go_simp; first | ((with_reducible refine hK _ ?_); clear hK K) | (apply Exists.intro; (with_reducible refine ⟨fun w' hw' => ?_, hK _ ?_⟩); (obtain ⟨f0, f1⟩ := hw'; go_simp; first | exact rfl | exact ⟨rfl, rfl⟩); clear hK K))
          iterate 3 ((with_reducible refine wpRead_step (fun K hK => ?_)); go_simp; first | ((with_reducible refine hK _ ?_); clear hK K) | (apply Exists.intro; (with_reducible refine ⟨fun w' hw' => ?_, hK _ ?_⟩); (first | exact rfl | exact ⟨rfl, rfl⟩); clear hK K))
          ((with_reducible refine wpRead_step (fun K hK => ?_)); go_simp; first | ((with_reducible refine hK _ ?_); clear hK K) | (apply Exists.intro; (with_reducible refine ⟨fun w' hw' => ?_, hK _ ?_⟩); (obtain ⟨f0, f1⟩ := hw'; go_simp; first | exact rfl | exact ⟨rfl, rfl⟩); clear hK K))
          ((with_reducible refine wpRead_step (fun K hK => ?_)); go_simp; first | ((with_reducible refine hK _ ?_); clear hK K) | (apply Exists.intro; (with_reducible refine ⟨fun w' hw' => ?_, hK _ ?_⟩); (first | exact rfl | exact ⟨rfl, rfl⟩); clear hK K))
          with_reducible refine wpRead_nil ?_
          refine wpAnyH_done (by kernel_rfl) ?_ _
          go_wp2_with fail
          exact ⟨⟨i + 1, hlt, by first | rw [hw3] | rw [Int.natCast_succ], fun j hj => (Nat.lt_succ_iff_lt_or_eq.1 hj).elim (K.out.2.2.1 j) (fun e => by rw [e, K.out.2.2.2.1, K.out.2.2.2.2]), K.out.2.1⟩, by first | (rw [hw3]; exact mSucc hlt) | (rw [← Int.natCast_succ]; exact mSucc hlt)⟩
        · have e1 : (x == y) = false := by simpa using hxy
          have HXY := Lib.hid hxy
          clear hxy
          go_wp2_with fail
          refine wp_region_heldP (TwoC ⟨b0, o0 + i, none⟩ ⟨b1, o1 + i, none⟩ (.int .i64 x) (.int .i64 y)) (by kernel_rfl) ?_
          generalize w2.drew = V at *
          refine held_reads [0, 1, 2, 3, 4, 5, 6, 7, 8] (g := 0) rfl (by kernel_rfl) K.out.1 (fun _ _ d _ _ h => by cases d <;> exact h) ?_
          simp only [pick, List.getD_cons_zero, List.getD_cons_succ]
          iterate 3 ((with_reducible refine wpRead_step (fun K hK => ?_)); go_simp; first | ((with_reducible refine hK _ ?_); clear hK K) | (apply Exists.intro; (with_reducible refine ⟨fun w' hw' => ?_, hK _ ?_⟩); (first | exact rfl | exact ⟨rfl, rfl⟩); clear hK K))
          ((with_reducible refine wpRead_step (fun K hK => ?_)); go_simp; first | ((with_reducible refine hK _ ?_); clear hK K) | (apply Exists.intro; (with_reducible refine ⟨fun w' hw' => ?_, hK _ ?_⟩); (obtain ⟨f0, f1⟩ := hw'; go_simp; first | exact rfl | exact ⟨rfl, rfl⟩); clear hK K))
          iterate 3 ((with_reducible refine wpRead_step (fun K hK => ?_)); go_simp; first | ((with_reducible refine hK _ ?_); clear hK K) | (apply Exists.intro; (with_reducible refine ⟨fun w' hw' => ?_, hK _ ?_⟩); (first | exact rfl | exact ⟨rfl, rfl⟩); clear hK K))
          ((with_reducible refine wpRead_step (fun K hK => ?_)); go_simp; first | ((with_reducible refine hK _ ?_); clear hK K) | (apply Exists.intro; (with_reducible refine ⟨fun w' hw' => ?_, hK _ ?_⟩); (obtain ⟨f0, f1⟩ := hw'; go_simp; first | exact rfl | exact ⟨rfl, rfl⟩); clear hK K))
          ((with_reducible refine wpRead_step (fun K hK => ?_)); go_simp; first | ((with_reducible refine hK _ ?_); clear hK K) | (apply Exists.intro; (with_reducible refine ⟨fun w' hw' => ?_, hK _ ?_⟩); (first | exact rfl | exact ⟨rfl, rfl⟩); clear hK K))
          with_reducible refine wpRead_nil ?_
          refine wpAnyH_done (by kernel_rfl) ?_ _
          go_wp2_with fail
          go_ret
          exact ⟨ret_bool (by
            rw [← HV.out]
            refine (decide_eq_false fun h => HXY.out ?_).symm
            rw [← K.out.2.2.2.1, ← K.out.2.2.2.2, h]), K.out.2.1⟩
      · obtain rfl : n = i := by omega
        have hil : ((n : Int) < (n : Int)) = False := by simp
        have HB := Lib.hid (And.intro hb hall)
        clear hb hall
        go_wp2_with fail
        go_ret
        exact ⟨ret_bool (by rw [← HV.out]; exact (decide_eq_true (getD_ext (HL.out.symm.trans HM.out) fun j hj => HB.out.2 j (by rw [HL.out]; exact hj))).symm), HB.out.1⟩
  · have e1 : ((n : Int) == (m : Int)) = false := by simpa using fun e : (n : Int) = m => hnm (by omega)
    have HV := Lib.hid (show decide (L = M) = false from decide_eq_false fun e => hnm (by rw [h.len, k.len, e]))
    generalize decide (L = M) = v at *
    clear h k hnm
    go_enter Tryz.func94, Tryz.ntmps94
    go_wp2_with fail
    go_ret
    exact ⟨ret_bool HV.out.symm, Below.refl _ _⟩
set_option maxRecDepth 100000 in
set_option maxHeartbeats 1000000 in
/-- the reference's of ints -/
theorem rsame_ints {w : World} {oa ob : Option Addr} {n c m d : Nat} {L M : List Int} (h : RI.Sl w oa n c L) (k : RI.Sl w ob m d M) : Calls Tryz.prog 78 #[.slice oa n c, .slice ob m d] w fun e w' => e = .returned (.bool (decide (L = M))) ∧ Below w.heap.size w w' := by
  by_cases hnm : n = m
  · subst hnm
    have HL := Lib.hid h.len
    have HM := Lib.hid k.len
    have hmax := h.max
    have F := Lib.hid (And.intro h k)
    obtain ⟨v, hv⟩ : ∃ v, decide (L = M) = v := ⟨_, rfl⟩
    rw [hv]
    have HV := Lib.hid hv
    have e0 : ((n : Int) == (n : Int)) = true := by simp
    clear h k hv
    go_enter Tryz.func78, Tryz.ntmps78
    go_wp2_with fail
    go_loopw [5] (fun iv wr => ∃ i : Nat, i ≤ n ∧ iv = .int .i64 i ∧ (∀ j, j < i → L.getD j default = M.getD j default) ∧ Below w.heap.size w wr) (fun iv _ => n - (intOf iv).toNat)
    case atStart => exact ⟨0, Nat.zero_le _, rfl, fun j hj => absurd hj (Nat.not_lt_zero _), Below.refl _ _⟩
    case round =>
      obtain ⟨i, hi, rfl, hall, hb⟩ := hrel
      obtain ⟨w2, rfl⟩ : ∃ w2 : World, w2 = wr := ⟨_, rfl⟩
      by_cases hlt : i < n
      · have hil : ((i : Int) < (n : Int)) = True := by simp; omega
        have hi0 : ((0 : Int) ≤ (i : Int)) = True := by simp
        have hw3 := wrapS hlt hmax
        obtain ⟨b0, o0, rfl, hbb, hat⟩ := (F.out.1.keep hb).at hlt
        obtain ⟨b1, o1, rfl, hbb1, hat1⟩ := (F.out.2.keep hb).at hlt
        have c0 := hat 0 (by decide)
        have d0 := hat1 0 (by decide)
        simp only [RI, Nat.add_zero, List.getElem?_cons_zero, Nat.mul_one] at c0 d0
        obtain ⟨x, hx⟩ : ∃ x, L.getD i default = x := ⟨_, rfl⟩
        obtain ⟨y, hy⟩ : ∃ y, M.getD i default = y := ⟨_, rfl⟩
        rw [hx] at c0
        rw [hy] at d0
        have hd := (Below.refl w2.heap.size w2).drew
        have K := Lib.hid (And.intro (show TwoC ⟨b0, o0 + i, none⟩ ⟨b1, o1 + i, none⟩ (.int .i64 x) (.int .i64 y) w2.drew from ⟨c0, d0⟩) (And.intro (bcall hb (Nat.le_refl _) hd) (And.intro hall (And.intro hx hy))))
        clear hb hat hat1 hall hx hy c0 d0 hd hbb hbb1
        by_cases hxy : x = y
        · subst hxy
          have e1 : (x == x) = true := by simp
          go_wp2_with fail
          refine wp_region_heldP (TwoC ⟨b0, o0 + i, none⟩ ⟨b1, o1 + i, none⟩ (.int .i64 x) (.int .i64 x)) (by kernel_rfl) ?_
          generalize w2.drew = V at *
          refine held_reads [0, 1, 2, 3, 4, 5, 6, 7, 8] (g := 0) rfl (by kernel_rfl) K.out.1 (fun _ _ d _ _ h => by cases d <;> exact h) ?_
          simp only [pick, List.getD_cons_zero, List.getD_cons_succ]
          iterate 3 ((with_reducible refine wpRead_step (fun K hK => ?_)); go_simp; first | ((with_reducible refine hK _ ?_); clear hK K) | (apply Exists.intro; (with_reducible refine ⟨fun w' hw' => ?_, hK _ ?_⟩); (first | exact rfl | exact ⟨rfl, rfl⟩); clear hK K))
          ((with_reducible refine wpRead_step (fun K hK => ?_)); go_simp; first | ((with_reducible refine hK _ ?_); clear hK K) | (apply Exists.intro; (with_reducible refine ⟨fun w' hw' => ?_, hK _ ?_⟩); (obtain ⟨f0, f1⟩ := hw'; go_simp; first | exact rfl | exact ⟨rfl, rfl⟩); clear hK K))
          iterate 3 ((with_reducible refine wpRead_step (fun K hK => ?_)); go_simp; first | ((with_reducible refine hK _ ?_); clear hK K) | (apply Exists.intro; (with_reducible refine ⟨fun w' hw' => ?_, hK _ ?_⟩); (first | exact rfl | exact ⟨rfl, rfl⟩); clear hK K))
          ((with_reducible refine wpRead_step (fun K hK => ?_)); go_simp; first | ((with_reducible refine hK _ ?_); clear hK K) | (apply Exists.intro; (with_reducible refine ⟨fun w' hw' => ?_, hK _ ?_⟩); (obtain ⟨f0, f1⟩ := hw'; go_simp; first | exact rfl | exact ⟨rfl, rfl⟩); clear hK K))
          ((with_reducible refine wpRead_step (fun K hK => ?_)); go_simp; first | ((with_reducible refine hK _ ?_); clear hK K) | (apply Exists.intro; (with_reducible refine ⟨fun w' hw' => ?_, hK _ ?_⟩); (first | exact rfl | exact ⟨rfl, rfl⟩); clear hK K))
          with_reducible refine wpRead_nil ?_
          refine wpAnyH_done (by kernel_rfl) ?_ _
          go_wp2_with fail
          exact ⟨⟨i + 1, hlt, by first | rw [hw3] | rw [Int.natCast_succ], fun j hj => (Nat.lt_succ_iff_lt_or_eq.1 hj).elim (K.out.2.2.1 j) (fun e => by rw [e, K.out.2.2.2.1, K.out.2.2.2.2]), K.out.2.1⟩, by first | (rw [hw3]; exact mSucc hlt) | (rw [← Int.natCast_succ]; exact mSucc hlt)⟩
        · have e1 : (x == y) = false := by simpa using hxy
          have HXY := Lib.hid hxy
          clear hxy
          go_wp2_with fail
          refine wp_region_heldP (TwoC ⟨b0, o0 + i, none⟩ ⟨b1, o1 + i, none⟩ (.int .i64 x) (.int .i64 y)) (by kernel_rfl) ?_
          generalize w2.drew = V at *
          refine held_reads [0, 1, 2, 3, 4, 5, 6, 7, 8] (g := 0) rfl (by kernel_rfl) K.out.1 (fun _ _ d _ _ h => by cases d <;> exact h) ?_
          simp only [pick, List.getD_cons_zero, List.getD_cons_succ]
          iterate 3 ((with_reducible refine wpRead_step (fun K hK => ?_)); go_simp; first | ((with_reducible refine hK _ ?_); clear hK K) | (apply Exists.intro; (with_reducible refine ⟨fun w' hw' => ?_, hK _ ?_⟩); (first | exact rfl | exact ⟨rfl, rfl⟩); clear hK K))
          ((with_reducible refine wpRead_step (fun K hK => ?_)); go_simp; first | ((with_reducible refine hK _ ?_); clear hK K) | (apply Exists.intro; (with_reducible refine ⟨fun w' hw' => ?_, hK _ ?_⟩); (obtain ⟨f0, f1⟩ := hw'; go_simp; first | exact rfl | exact ⟨rfl, rfl⟩); clear hK K))
          iterate 3 ((with_reducible refine wpRead_step (fun K hK => ?_)); go_simp; first | ((with_reducible refine hK _ ?_); clear hK K) | (apply Exists.intro; (with_reducible refine ⟨fun w' hw' => ?_, hK _ ?_⟩); (first | exact rfl | exact ⟨rfl, rfl⟩); clear hK K))
          ((with_reducible refine wpRead_step (fun K hK => ?_)); go_simp; first | ((with_reducible refine hK _ ?_); clear hK K) | (apply Exists.intro; (with_reducible refine ⟨fun w' hw' => ?_, hK _ ?_⟩); (obtain ⟨f0, f1⟩ := hw'; go_simp; first | exact rfl | exact ⟨rfl, rfl⟩); clear hK K))
          ((with_reducible refine wpRead_step (fun K hK => ?_)); go_simp; first | ((with_reducible refine hK _ ?_); clear hK K) | (apply Exists.intro; (with_reducible refine ⟨fun w' hw' => ?_, hK _ ?_⟩); (first | exact rfl | exact ⟨rfl, rfl⟩); clear hK K))
          with_reducible refine wpRead_nil ?_
          refine wpAnyH_done (by kernel_rfl) ?_ _
          go_wp2_with fail
          go_ret
          exact ⟨ret_bool (by
            rw [← HV.out]
            refine (decide_eq_false fun h => HXY.out ?_).symm
            rw [← K.out.2.2.2.1, ← K.out.2.2.2.2, h]), K.out.2.1⟩
      · obtain rfl : n = i := by omega
        have hil : ((n : Int) < (n : Int)) = False := by simp
        have HB := Lib.hid (And.intro hb hall)
        clear hb hall
        go_wp2_with fail
        go_ret
        exact ⟨ret_bool (by rw [← HV.out]; exact (decide_eq_true (getD_ext (HL.out.symm.trans HM.out) fun j hj => HB.out.2 j (by rw [HL.out]; exact hj))).symm), HB.out.1⟩
  · have e1 : ((n : Int) == (m : Int)) = false := by simpa using fun e : (n : Int) = m => hnm (by omega)
    have HV := Lib.hid (show decide (L = M) = false from decide_eq_false fun e => hnm (by rw [h.len, k.len, e]))
    generalize decide (L = M) = v at *
    clear h k hnm
    go_enter Tryz.func78, Tryz.ntmps78
    go_wp2_with fail
    go_ret
    exact ⟨ret_bool HV.out.symm, Below.refl _ _⟩
end Go.Proofs.YtadoflcomienoaaGreat
