/- alike: a trie and the reference's tell the same. -/
import Derived.Test.YtdhebjeajdohoaaRi
import Derived.Test.YtdhebjeajdohoaaPy
import Derived.Test.YtdhebjeajdohoaaRc
namespace Go.Proofs.Ytdhebjeajdohoaa
open Go.RowKit

theorem refOk_same {α : Type} {E : List ((Nat × Nat) × α)} {M M' : Nat → Nat → Option α} (h : RefOk E M) (k : RefOk E M') : M = M' := by
  funext x d
  apply Option.ext
  intro v
  rw [h.is, k.is]
theorem GI.trieM {w0 : World} {b c : Nat} {w : World} {N : Nat → Nat → Option Nat} {E Ex : List ((Nat × Nat) × Int)} {M : Nat → Nat → Option Int} (h : GI w0 b c w N E Ex) (hr : RefOk E M) : TrieI w b N E.length M := by
  obtain ⟨M', h1, h2⟩ := h.trie
  obtain rfl := refOk_same hr h2
  exact h1
theorem get_both (w0 : World) (b c : Nat) (N : Nat → Nat → Option Nat) {E : List ((Nat × Nat) × Int)} {M : Nat → Nat → Option Int} (hr : RefOk E M) (p : Nat) (l : Int) (hp : p < 4294967296) : ∃ (g : Int) (f : Bool),
    (∀ w', GI w0 b c w' N E E → Calls Try.prog 21 #[.pointer (some ⟨b, 0, none⟩), pfx p l] w' fun e w2 => e = .returned (.tuple #[.int .i64 g, .bool f]) ∧ Below w'.heap.size w' w2) ∧
    (∀ w', GI w0 b c w' N E E → Calls Try.prog 20 #[.pointer (some ⟨c, 0, none⟩), pfx p l] w' fun e w2 => e = .returned (.tuple #[.int .i64 g, .bool f]) ∧ Below w'.heap.size w' w2) := by
  obtain ⟨h1, h2⟩ := get_same hr p l hp
  refine ⟨_, _, fun w' h => getI_any (h.trieM hr) p l hp, fun w' h => ?_⟩
  have := rget_any h.refT p l
  rw [h2, h1] at this
  exact this
theorem long_both (w0 : World) (b c : Nat) (N : Nat → Nat → Option Nat) {E : List ((Nat × Nat) × Int)} {M : Nat → Nat → Option Int} (hr : RefOk E M) (hE : E.length ≤ 1000000) (a : Nat) (ha : a < 4294967296) : ∃ (p q x : Int) (f : Bool),
    (∀ w', GI w0 b c w' N E E → Calls Try.prog 18 #[.pointer (some ⟨b, 0, none⟩), .int .u32 a] w' fun e w2 => e = .returned (.tuple #[.agg #[.int .u32 p, .int .i64 q], .int .i64 x, .bool f]) ∧ Below w'.heap.size w' w2) ∧
    (∀ w', GI w0 b c w' N E E → Calls Try.prog 43 #[.pointer (some ⟨c, 0, none⟩), .int .u32 a] w' fun e w2 => e = .returned (.tuple #[.agg #[.int .u32 p, .int .i64 q], .int .i64 x, .bool f]) ∧ Below w'.heap.size w' w2) := by
  have hs := long_same hr a
  have h1 : ∀ w', GI w0 b c w' N E E → _ := fun w' h => longI_any (h.trieM hr) a ha
  have h2 : ∀ w', GI w0 b c w' N E E → _ := fun w' h => rlong_any h.refT (fun e he => (h.trie.key e he).lt) hE a ha
  cases hl : lng M a 33 with
  | none =>
    cases hb : bst E a E.length with
    | none =>
      rw [hl, hb] at hs
      rw [hl] at h1
      rw [hb] at h2
      dsimp only at hs h1 h2
      rw [hs] at h2
      exact ⟨_, _, _, _, h1, h2⟩
    | some k =>
      rw [hl, hb] at hs
      rw [hl] at h1
      rw [hb] at h2
      dsimp only at hs h1 h2
      rw [hs] at h2
      exact ⟨_, _, _, _, h1, h2⟩
  | some j =>
    cases hb : bst E a E.length with
    | none =>
      rw [hl, hb] at hs
      rw [hl] at h1
      rw [hb] at h2
      dsimp only at hs h1 h2
      rw [hs] at h2
      exact ⟨_, _, _, _, h1, h2⟩
    | some k =>
      rw [hl, hb] at hs
      rw [hl] at h1
      rw [hb] at h2
      dsimp only at hs h1 h2
      rw [hs] at h2
      exact ⟨_, _, _, _, h1, h2⟩
/-- what the end of alike reads -/
structure AlS (p6 p3 p5 c : Nat) (v : Value) (p l x y : Int) (w : World) : Prop where
  b6 : w.heap[p6]? = some (.cells #[.int .u32 p, .int .i64 l] 32)
  b3 : w.heap[p3]? = some (.cells #[.int .u32 x, .int .i64 y] 32)
  b5 : w.heap[p5]? = some (.cells #[.int .u32 x, .int .i64 y] 32)
  bc : w.heap[c]? = some (.cells #[v] 29)
theorem AlS.on {p6 p3 p5 c : Nat} {v : Value} {p l x y : Int} {w w' : World} (h : AlS p6 p3 p5 c v p l x y w) (hb : Below w.heap.size w w') : AlS p6 p3 p5 c v p l x y w' :=
  ⟨(hb.block _ (lt_of_blk h.b6)).trans h.b6, (hb.block _ (lt_of_blk h.b3)).trans h.b3, (hb.block _ (lt_of_blk h.b5)).trans h.b5, (hb.block _ (lt_of_blk h.bc)).trans h.bc⟩
theorem AlS.cells {p6 p3 p5 c : Nat} {v : Value} {p l x y : Int} {w : World} (h : AlS p6 p3 p5 c v p l x y w) : w.cell? ⟨p6, 0, none⟩ = some (.int .u32 p) ∧ w.cell? ⟨p6, 1, none⟩ = some (.int .i64 l) ∧ w.cell? ⟨p3, 0, none⟩ = some (.int .u32 x) ∧ w.cell? ⟨p3, 1, none⟩ = some (.int .i64 y) ∧ w.cell? ⟨p5, 0, none⟩ = some (.int .u32 x) ∧ w.cell? ⟨p5, 1, none⟩ = some (.int .i64 y) ∧ w.cell? ⟨c, 0, none⟩ = some v :=
  ⟨cell_of h.b6 rfl, cell_of h.b6 rfl, cell_of h.b3 rfl, cell_of h.b3 rfl, cell_of h.b5 rfl, cell_of h.b5 rfl, cell_of h.bc rfl⟩
set_option maxRecDepth 100000 in
set_option maxHeartbeats 2000000 in
theorem alike_any {w0 : World} {b c : Nat} {w : World} {N : Nat → Nat → Option Nat} {E : List ((Nat × Nat) × Int)} (h : GI w0 b c w N E E) (hE : E.length ≤ 1000000) (p : Nat) (l : Int) (hp : p < 4294967296) (a : Nat) (ha : a < 4294967296) :
    Calls Try.prog 14 #[.pointer (some ⟨b, 0, none⟩), .pointer (some ⟨c, 0, none⟩), pfx p l, .int .u32 a] w fun e w' => e = .returned (.bool true) ∧ Below w.heap.size w w' := by
  obtain ⟨M, -, hr⟩ := h.trie
  obtain ⟨g, f, G1, G2⟩ := get_both w0 b c N hr p l hp
  obtain ⟨x, y, z, f2, L1, L2⟩ := long_both w0 b c N hr hE a ha
  have hb0 := ((Below.refl w.heap.size w).alloc (Nat.le_refl _) (.cells #[.int .u32 p, .int .i64 l] 32))
  have hbx := hnew w (.cells #[.int .u32 p, .int .i64 l] 32)
  have HA := Lib.hid (And.intro (h.on hb0) (And.intro hb0 hbx))
  have H1 := Lib.hid (G1 _ (h.on hb0))
  have HG2 := Lib.hid G2
  have HL1 := Lib.hid L1
  have HL2 := Lib.hid L2
  clear h hb0 hbx G1 G2 L1 L2
  unfold pfx at H1 HG2 ⊢
  go_enter Try.func14, Try.ntmps14
  go_wp2_with (go_at_call 21; refine (H1.out).mono ?_; rintro e w1 ⟨rfl, hb1⟩; have hbx1 := (hb1.block _ (lt_of_blk HA.out.2.2)).trans HA.out.2.2; have d0 : w1.cell? ⟨w.heap.size, 0, none⟩ = some (.int .u32 p) := cell_of hbx1 rfl; have d1 : w1.cell? ⟨w.heap.size, 1, none⟩ = some (.int .i64 l) := cell_of hbx1 rfl)
  clear H1 d0 d1
  have hB1 := HA.out.2.1.trans (hb1.mono HA.out.2.1.size)
  have h1 := HA.out.1.on hb1
  have HA1 := Lib.hid (And.intro h1 (And.intro hB1 hbx1))
  have H2 := Lib.hid (HG2.out _ h1)
  clear HA HG2 hb1 hbx1 hB1 h1
  go_wp2_with fail
  refine (H2.out).mono ?_
  rintro e w2 ⟨rfl, hb2⟩
  have hB2 := HA1.out.2.1.trans (hb2.mono HA1.out.2.1.size)
  have h2 := HA1.out.1.on hb2
  have HA2 := Lib.hid (And.intro h2 (And.intro hB2 ((hb2.block _ (lt_of_blk HA1.out.2.2)).trans HA1.out.2.2)))
  have H3 := Lib.hid (HL1.out _ h2)
  clear HA1 HL1 H2 hb2 hB2 h2
  go_wp2_with fail
  refine (H3.out).mono ?_
  rintro e w3 ⟨rfl, hb3⟩
  have hal := (Below.refl w3.heap.size w3).alloc (Nat.le_refl _) (.cells #[.int .u32 x, .int .i64 y] 32)
  have hb34 := hb3.trans (hal.mono hb3.size)
  have hB4 := HA2.out.2.1.trans (hb34.mono HA2.out.2.1.size)
  have h4 := HA2.out.1.on hb34
  have HA4 := Lib.hid (And.intro h4 (And.intro hB4 (And.intro ((hb34.block _ (lt_of_blk HA2.out.2.2)).trans HA2.out.2.2) (hnew w3 (.cells #[.int .u32 x, .int .i64 y] 32)))))
  have H4 := Lib.hid (HL2.out _ h4)
  clear HA2 HL2 H3 hb3 hal hb34 hB4 h4
  go_wp2_with fail
  refine (H4.out).mono ?_
  rintro e w5 ⟨rfl, hb5⟩
  have hal := (Below.refl w5.heap.size w5).alloc (Nat.le_refl _) (.cells #[.int .u32 x, .int .i64 y] 32)
  have hb56 := hb5.trans (hal.mono hb5.size)
  have hB6 := HA4.out.2.1.trans (hb56.mono HA4.out.2.1.size)
  have h6 := HA4.out.1.on hb56
  obtain ⟨v, hcv, hov, -⟩ := h6.ref
  obtain ⟨oa, cc, rfl, -, -, -, -⟩ := hov.sl
  have hS : AlS w.heap.size w3.heap.size w5.heap.size c (.slice oa E.length cc) p l x y (w5.alloc (.cells #[.int .u32 x, .int .i64 y] 32)) := ⟨(hb56.block _ (lt_of_blk HA4.out.2.2.1)).trans HA4.out.2.2.1, (hb56.block _ (lt_of_blk HA4.out.2.2.2)).trans HA4.out.2.2.2, hnew _ _, hcv⟩
  have HA6 := Lib.hid (And.intro h6 (And.intro hB6 hS))
  clear HA4 H4 hb5 hal hb56 hB6 h6 hcv hov hS
  go_wp2_with fail
  refine wp_region_heldP (AlS w.heap.size w3.heap.size w5.heap.size c (.slice oa E.length cc) p l x y) (by kernel_rfl) ?_
  have HA := Lib.hid (And.intro (HA6.out.1.on (Below.drew (Below.refl _ _))) (And.intro HA6.out.2.1.drew (HA6.out.2.2.on (Below.drew (Below.refl _ _)))))
  clear HA6
  generalize (w5.alloc (.cells #[.int .u32 x, .int .i64 y] 32)).drew = w6 at *
  refine held_reads [0, 1, 2, 3, 4, 5, 6, 7, 8, 9, 10, 11, 12, 13, 14, 15, 16, 17, 18, 19, 20, 21, 22, 23, 24, 26, 27, 28, 29, 30] (g := 13) rfl (by kernel_rfl) HA.out.2.2 (fun _ _ d _ _ h => by cases d <;> exact h) ?_
  simp only [pick, List.getD_cons_zero, List.getD_cons_succ]
  iterate 30 ((with_reducible refine wpRead_step (fun K hK => ?_)); go_simp; first | ((with_reducible refine hK _ ?_); clear hK K) | (apply Exists.intro; (with_reducible refine ⟨fun w' hw' => ?_, hK _ ?_⟩); (obtain ⟨f1, f2, f3, f4, f5, f6, f7⟩ := hw'.cells; go_simp; first | exact rfl | exact ⟨rfl, rfl⟩); clear hK K))
  with_reducible refine wpRead_nil ?_
  refine held_one 25 (by kernel_rfl) ?_
  simp only [pick, List.getD_cons_zero, List.getD_cons_succ]
  have HL := Lib.hid (lenI_any (HA.out.1.trieM hr))
  go_wp2_with fail
  refine (HL.out).mono ?_
  rintro e _ ⟨rfl, rfl⟩
  go_wp2_with fail
  refine ⟨HA.out.2.2, ?_⟩
  clear HL
  refine held_reads [31, 32, 33, 34, 35, 37, 38] (g := 5) rfl (by kernel_rfl) HA.out.2.2 (fun _ _ d _ _ h => by cases d <;> exact h) ?_
  simp only [pick, List.getD_cons_zero, List.getD_cons_succ]
  iterate 7 ((with_reducible refine wpRead_step (fun K hK => ?_)); go_simp; first | ((with_reducible refine hK _ ?_); clear hK K) | (apply Exists.intro; (with_reducible refine ⟨fun w' hw' => ?_, hK _ ?_⟩); (obtain ⟨f1, f2, f3, f4, f5, f6, f7⟩ := hw'.cells; go_simp; first | exact rfl | exact ⟨rfl, rfl⟩); clear hK K))
  with_reducible refine wpRead_nil ?_
  refine held_one 36 (by kernel_rfl) ?_
  simp only [pick, List.getD_cons_zero, List.getD_cons_succ]
  have HW := Lib.hid (withinEI HA.out.1.trie (by omega) p l hp)
  unfold pfx at HW
  go_wp2_with fail
  refine (HW.out).mono ?_
  rintro e w7 ⟨v7, rfl, hown7, hb7⟩
  have HA7 := Lib.hid (And.intro (HA.out.1.on hb7) (And.intro (HA.out.2.1.trans (hb7.mono HA.out.2.1.size)) (And.intro (HA.out.2.2.on hb7) hown7)))
  clear HA HW hown7 hb7
  go_wp2_with fail
  refine ⟨HA7.out.2.2.1, ?_⟩
  refine held_one 39 (by kernel_rfl) ?_
  simp only [pick, List.getD_cons_zero, List.getD_cons_succ]
  have HW := Lib.hid (rwithinT_any HA7.out.1.refT (fun e he => (HA7.out.1.trie.key e he).lt) hE p l hp)
  unfold pfx at HW
  go_wp2_with fail
  refine (HW.out).mono ?_
  rintro e w8 ⟨v8, rfl, hown8, hb8⟩
  obtain ⟨a7, c7, rfl, -, -, hs7, -⟩ := (HA7.out.2.2.2.below hb8).sl
  obtain ⟨a8, c8, rfl, -, -, hs8, -⟩ := hown8.sl
  have hsame := same_any _ _ _ _ _ _ _ _ _ hs7 hs8
  rw [decide_eq_true rfl] at hsame
  have HS := Lib.hid hsame
  have HA8 := Lib.hid (And.intro (HA7.out.1.on hb8) (And.intro (HA7.out.2.1.trans (hb8.mono HA7.out.2.1.size)) (HA7.out.2.2.1.on hb8)))
  clear HA7 HW hown8 hb8 hs7 hs8 hsame
  go_wp2_with fail
  refine ⟨HA8.out.2.2, ?_⟩
  refine held_one 40 (by kernel_rfl) ?_
  simp only [pick, List.getD_cons_zero, List.getD_cons_succ]
  go_wp2_with fail
  refine (HS.out).mono ?_
  rintro e w9 ⟨rfl, hb9⟩
  have HA9 := Lib.hid (And.intro (HA8.out.2.1.trans (hb9.mono HA8.out.2.1.size)) (HA8.out.2.2.on hb9))
  clear HA8 HS hb9
  go_wp2_with fail
  refine ⟨HA9.out.2, ?_⟩
  refine held_reads [41, 42] (g := 0) rfl (by kernel_rfl) HA9.out.2 (fun _ _ d _ _ h => by cases d <;> exact h) ?_
  simp only [pick, List.getD_cons_zero, List.getD_cons_succ]
  iterate 2 ((with_reducible refine wpRead_step (fun K hK => ?_)); go_simp; first | ((with_reducible refine hK _ ?_); clear hK K) | (apply Exists.intro; (with_reducible refine ⟨fun w' hw' => ?_, hK _ ?_⟩); (obtain ⟨f1, f2, f3, f4, f5, f6, f7⟩ := hw'.cells; go_simp; first | exact rfl | exact ⟨rfl, rfl⟩); clear hK K))
  with_reducible refine wpRead_nil ?_
  refine wpAnyH_done (by kernel_rfl) ?_ _
  go_wp2_with fail
  go_ret
  exact ⟨rfl, HA9.out.1⟩
end Go.Proofs.Ytdhebjeajdohoaa
