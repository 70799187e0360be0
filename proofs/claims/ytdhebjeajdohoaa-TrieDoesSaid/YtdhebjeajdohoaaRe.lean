/- The reference's trie: Get, Set. -/
import Derived.Test.YtdhebjeajdohoaaRd
namespace Go.Proofs.Ytdhebjeajdohoaa
open Go.RowKit

theorem RefT.keep {w w' : World} {c base : Nat} {E : List ((Nat × Nat) × Int)} (h : RefT w c base E) (hb : Below w.heap.size w w') : RefT w' c base E := by
  obtain ⟨⟨v, h1, h2⟩, h3⟩ := h
  exact ⟨⟨v, (hb.block c (lt_of_blk h1)).trans h1, h2.below hb⟩, h3⟩
theorem fnd_lt {E : List ((Nat × Nat) × Int)} {a : Nat} {l : Int} (h : fnd E a l = true) : idx E a l < E.length := by
  unfold fnd at h
  simp only [Bool.and_eq_true, decide_eq_true_eq] at h
  exact h.1.1
set_option maxHeartbeats 1000000 in
theorem rget_any {w : World} {c base : Nat} {E : List ((Nat × Nat) × Int)} (h : RefT w c base E) (a : Nat) (l : Int) : Calls Try.prog 20 #[.pointer (some ⟨c, 0, none⟩), pfx a l] w fun e w' => e = .returned (.tuple #[.int .i64 (if fnd E a l then (E.getD (idx E a l) default).2 else 0), .bool (fnd E a l)]) ∧ Below w.heap.size w w' := by
  have hb0 := ((Below.refl w.heap.size w).alloc (Nat.le_refl _) (.cells #[.int .u32 a, .int .i64 l] 32))
  have hf := Lib.hid (rfind_any (h.keep hb0) a l)
  have hlt := fun hh => fnd_lt (E := E) (a := a) (l := l) hh
  obtain ⟨⟨v, hbox, hown⟩, hle⟩ := h
  obtain ⟨oa, cc, rfl, -, -, hsl, -⟩ := hown.sl
  have hcl := lt_of_blk hbox
  have H0 := Lib.hid (And.intro hbox (And.intro hsl hb0))
  clear hbox hown hsl hb0 hle
  unfold pfx at hf ⊢
  generalize idx E a l = i at *
  cases hfv : fnd E a l with
  | false =>
    rw [hfv] at hf
    simp only [Bool.false_eq_true, if_false]
    clear hfv hlt
    go_enter Try.func20, Try.ntmps20
    go_wp2_with (go_at_call 40; refine (hf.out).mono ?_; rintro e w1 ⟨rfl, hb1⟩)
    go_ret2
    exact ⟨rfl, H0.out.2.2.trans (hb1.mono H0.out.2.2.size)⟩
  | true =>
    have hi := hlt hfv
    obtain ⟨bb, oo, rfl, hbb, hat⟩ := H0.out.2.1.at hi
    rw [hfv] at hf
    simp only [if_true]
    have hil : ((i : Int) < (E.length : Int)) = True := by simp; omega
    generalize E.getD i default = x at *
    clear hfv hlt
    go_enter Try.func20, Try.ntmps20
    go_wp2_with (go_at_call 40; refine (hf.out).mono ?_; rintro e w1 ⟨rfl, hb1⟩; have hbw := H0.out.2.2.trans (hb1.mono H0.out.2.2.size); have f1 : w1.cell? ⟨c, 0, none⟩ = some (.slice (some ⟨bb, oo, none⟩) E.length cc) := cell_of ((hbw.block c hcl).trans H0.out.1) rfl; obtain ⟨f2, f3, f4⟩ := ro_cells (hat.keep (hbw.block bb hbb)); simp only [RO] at f2 f3 f4; clear hb1)
    go_ret2
    exact ⟨rfl, hbw⟩
theorem sl_take {w : World} {oa : Option Addr} {n c i : Nat} {L : List ((Nat × Nat) × Int)} (h : RO.Sl w oa n c L) (hi : i ≤ n) : RO.Sl w oa i c (L.take i) :=
  ⟨by rw [List.length_take, ← h.len]; omega, Nat.le_trans hi h.max, fun h0 => by obtain ⟨b, o, e, hr⟩ := h.row (by omega); exact ⟨b, o, e, hr.take i⟩⟩
theorem ro_empty (w : World) : RO.Own (w.alloc (.cells #[] 74)) w.heap.size (.slice (some ⟨w.heap.size, 0, none⟩) 0 0) [] := by
  exact ⟨rfl, .inr ⟨w.heap.size, 0, #[], rfl, Nat.le_refl _, hnew _ _, Nat.le_refl _, by unfold maxLen; omega, rfl, rfl⟩⟩
/-- a list with a thing set, by where it stands -/
def putAt (E : List ((Nat × Nat) × Int)) (a : Nat) (l : Int) (e : (Nat × Nat) × Int) : List ((Nat × Nat) × Int) := E.take (idx E a l) ++ [e] ++ E.drop (idx E a l + (if fnd E a l then 1 else 0))
set_option maxHeartbeats 2000000 in
theorem rset_any {w : World} {c base : Nat} {E : List ((Nat × Nat) × Int)} (h : RefT w c base E) (hE : E.length ≤ 1000000) (a : Nat) (m : Nat) (ha : a < 4294967296) (hok : okP a m = true) (x : Int) : Calls Try.prog 11 #[.pointer (some ⟨c, 0, none⟩), pfx a m, .int .i64 x] w fun e w' => e = .returned (.bool true) ∧ RefT w' c w.heap.size (putAt E a m ((a, m), x)) ∧ But w w' [c] := by
  have hb0 := ((Below.refl w.heap.size w).alloc (Nat.le_refl _) (.cells #[.int .u32 a, .int .i64 m] 32))
  have hpb := hnew w (.cells #[.int .u32 a, .int .i64 m] 32)
  have hck := Lib.hid (rcheck_any a m ha)
  rw [hok] at hck
  have hR := Lib.hid h
  obtain ⟨⟨v, hbox, hown⟩, hle⟩ := h
  obtain ⟨oa, cc, rfl, hlc, hcm, hsl, hbs⟩ := hown.sl
  have hnil : oa = none → cc = 0 := by
    rintro rfl
    rcases hown.cases with ⟨hv, _⟩ | ⟨g, cap, hv, _⟩
    · injection hv
    · cases hv
  have hoa : oa = none ∨ ∃ g, oa = some ⟨g, 0, none⟩ := by
    rcases hown.cases with ⟨hv, _⟩ | ⟨g, cap, hv, _⟩
    · injection hv; exact .inl ‹_›
    · injection hv; exact .inr ⟨g, ‹_›⟩
  have hcl := lt_of_blk hbox
  have hil := idx_le E a m
  have H0 := Lib.hid (And.intro hbox (And.intro hsl (And.intro hb0 hpb)))
  clear hbox hown hsl hb0 hpb hok ha
  unfold pfx at hck ⊢
  go_enter Try.func11, Try.ntmps11
  go_wp2_with (go_at_call 39; refine (hck.out _).mono ?_; rintro e w1 ⟨rfl, hb1⟩; have hbw := H0.out.2.2.1.trans (hb1.mono H0.out.2.2.1.size); have hpw := (hb1.block w.heap.size (by simp)).trans H0.out.2.2.2; have p0 : w1.cell? ⟨w.heap.size, 0, none⟩ = some (.int .u32 a) := cell_of hpw rfl; have p1 : w1.cell? ⟨w.heap.size, 1, none⟩ = some (.int .i64 m) := cell_of hpw rfl; clear hb1)
  have hfd := Lib.hid (rfind_any (hR.out.keep hbw) a m)
  have HB1 := Lib.hid (And.intro hbw hpw)
  unfold pfx at hfd
  clear hbw hpw p0 p1
  have hput : putAt E a m ((a, m), x) = E.take (idx E a m) ++ [((a, m), x)] ++ E.drop (idx E a m + (if fnd E a m then 1 else 0)) := rfl
  generalize hE' : putAt E a m ((a, m), x) = E' at *
  have HE' := Lib.hid hE'
  clear hE'
  have hfl := fun hh => fnd_lt (E := E) (a := a) (l := m) hh
  generalize idx E a m = i at *
  generalize fnd E a m = f at *
  have HPut := Lib.hid hput
  clear hput
  go_wp2_with (first | (go_at_call 40; refine (hfd.out).mono ?_; clear hfd; rintro e w2 ⟨rfl, hb2⟩; have hbw := HB1.out.1.trans (hb2.mono HB1.out.1.size); have hpw := (hb2.block w.heap.size (lt_of_blk HB1.out.2)).trans HB1.out.2; have p0 : w2.cell? ⟨w.heap.size, 0, none⟩ = some (.int .u32 a) := cell_of hpw rfl; have p1 : w2.cell? ⟨w.heap.size, 1, none⟩ = some (.int .i64 m) := cell_of hpw rfl; have hcw := (hbw.block c hcl).trans H0.out.1; have f1 : w2.cell? ⟨c, 0, none⟩ = some (.slice oa E.length cc) := cell_of hcw rfl; have f1' := cell_hold f1 (.cells #[] 74); clear hb2) | (at_builtin; refine halt ?_))
  refine Halted.go ?_
  have hal := (Below.refl w2.heap.size w2).alloc (Nat.le_refl _) (.cells #[] 74)
  refine Rep.append_list T27 rfl _ _ rfl (base := w2.heap.size) (L := []) (M := E.take i) rfl (ro_empty w2) rfl (sl_take (H0.out.2.1.keep (hbw.trans (hal.mono hbw.size))) hil) hnil (by unfold maxLen; simp; omega) (by simp; omega) (by simp) ?_
  intro v3 w3 hown3 hb3 _
  have hb23 : Below w2.heap.size w2 w3 := hal.trans hb3
  have hp3 := (hb23.block w.heap.size (lt_of_blk hpw)).trans hpw
  have hc3 := (hb23.block c (lt_of_blk hcw)).trans hcw
  have q0 : w3.cell? ⟨w.heap.size, 0, none⟩ = some (.int .u32 a) := cell_of hp3 rfl
  have q1 : w3.cell? ⟨w.heap.size, 1, none⟩ = some (.int .i64 m) := cell_of hp3 rfl
  have H3 := Lib.hid (And.intro hown3 (And.intro hb23 (And.intro hp3 (And.intro hc3 (And.intro hbw hcw)))))
  clear hown3 hb23 hp3 hc3 hpw hcw p0 p1 f1 f1' hal hb3 hbw
  have hti : (E.take i).length = i := by rw [List.length_take]; omega
  go_wp2_with (at_builtin; refine halt ?_)
  refine Halted.go ?_
  refine Rep.append_one T27 rfl _ _ rfl rfl (H3.out.1.alloc _) ((a, m), x) w3.heap.size 1 rfl (hnew _ _) (n := i) (by rw [List.nil_append]; exact hti) (by unfold maxLen; omega) (by omega) (by have := H3.out.2.1.size; simp; omega) ?_
  intro v4 w4 hown4 hb4 _
  have hb24 : Below w2.heap.size w2 w4 := H3.out.2.1.trans (((Below.refl _ _).alloc H3.out.2.1.size _).trans hb4)
  have hc4 := (hb24.block c (lt_of_blk H3.out.2.2.2.2.2)).trans H3.out.2.2.2.2.2
  have f1 : w4.cell? ⟨c, 0, none⟩ = some (.slice oa E.length cc) := cell_of hc4 rfl
  have e1 : w4.frozen? ⟨c, 0, none⟩ = false := free_of hc4
  have H4 := Lib.hid (And.intro hown4 (And.intro hb24 (And.intro H3.out.2.2.2.2.1 hc4)))
  clear hown4 hb24 hc4 hb4 q0 q1 H3
  have hcc : (cc : Int) ≤ 9223372036854775807 := by unfold maxLen at hcm; omega
  rcases hoa with rfl | ⟨g, rfl⟩
  · have hc0 := hnil rfl
    subst hc0
    have hE0 : E.length = 0 := by omega
    have hi0 : i = 0 := by omega
    have hf0 : f = false := by cases f with | false => rfl | true => have := hfl rfl; omega
    subst hf0
    rw [hE0] at f1
    go_wp2_with (at_builtin; refine halt ?_)
    refine Halted.go ?_
    refine Rep.append_list T27 rfl _ _ rfl (base := w2.heap.size) (M := E.drop (0)) rfl H4.out.1 rfl (⟨by simp [hE0], by unfold maxLen; omega, fun h => absurd h (by omega)⟩) (fun _ => rfl) (by unfold maxLen; simp; omega) (by simp; omega) H4.out.2.1.size ?_
    intro v5 w5 hown5 hb5 _
    have hcl2 := Nat.lt_of_lt_of_le hcl H4.out.2.2.1.size
    have hc5 := (hb5.block c hcl2).trans H4.out.2.2.2
    obtain ⟨a5, n5, c5, rfl⟩ : ∃ a5 n5 c5, v5 = Value.slice a5 n5 c5 := by
      obtain ⟨a9, c9, h9, -⟩ := hown5.sl
      exact ⟨a9, _, c9, h9⟩
    have f5 : w5.cell? ⟨c, 0, none⟩ = some (.slice none E.length 0) := cell_of hc5 rfl
    have e5 : w5.frozen? ⟨c, 0, none⟩ = false := free_of hc5
    have HF := Lib.hid (And.intro hown5 (And.intro hb5 (And.intro hc5 hcl2)))
    clear hown5 hb5 hc5 f1 e1
    go_wp2_with fail
    go_ret
    obtain ⟨hown5, hb5, hc5, hcl2⟩ := HF.out
    have hs := (SetB.self hc5).store (o := 0) (lt_of_blk hc5) (.slice a5 n5 c5)
    have he : [] ++ E.take i ++ [((a, m), x)] ++ E.drop (0) = E' := by rw [HPut.out]; simp [hi0]
    rw [he] at hown5
    rw [HE'.out]
    refine ⟨rfl, ⟨⟨_, hs.at (lt_of_blk hc5), ?_⟩, hle⟩, ?_⟩
    · refine (hown5.keep fun q hq => hs.other ?_).mono H4.out.2.2.1.size
      rcases hown5.cases with ⟨hv, _⟩ | ⟨q', _, hv, h1, _⟩
      · rw [hv] at hq; cases hq
      · rw [hv] at hq; injection hq with hq; dsimp only at hq; omega
    · exact ((But.of_below H4.out.2.2.1 [c]).trans (But.of_below (H4.out.2.1.trans hb5) [c])).thenSet hs (.inr (by simp))
  · have hgw : ∀ w', Below w.heap.size w w' → RO.Sl w' (some ⟨g, 0, none⟩) E.length cc E := fun w' hb => H0.out.2.1.keep hb
    have hj1 : i + 1 ≤ E.length ∨ f = false := by cases f with | false => exact .inr rfl | true => exact .inl (hfl rfl)
    cases f with
    | false =>
      by_cases hjc : i = cc
      · have hjc' : ((i : Int) = (cc : Int)) = True := by simp [hjc]
        have hl0 : E.length = i := by omega
        go_wp2_with (at_builtin; refine halt ?_)
        refine Halted.go ?_
        refine Rep.append_list T27 rfl _ _ rfl (base := w2.heap.size) (M := E.drop (i)) rfl H4.out.1 rfl (⟨by simp; omega, by unfold maxLen; omega, fun h => absurd h (by omega)⟩) (fun h => (by cases h)) (by unfold maxLen; simp; omega) (by simp; omega) H4.out.2.1.size ?_
        intro v5 w5 hown5 hb5 _
        have hcl2 := Nat.lt_of_lt_of_le hcl H4.out.2.2.1.size
        have hc5 := (hb5.block c hcl2).trans H4.out.2.2.2
        obtain ⟨a5, n5, c5, rfl⟩ : ∃ a5 n5 c5, v5 = Value.slice a5 n5 c5 := by
          obtain ⟨a9, c9, h9, -⟩ := hown5.sl
          exact ⟨a9, _, c9, h9⟩
        have f5 : w5.cell? ⟨c, 0, none⟩ = some (.slice (some ⟨g, 0, none⟩) E.length cc) := cell_of hc5 rfl
        have e5 : w5.frozen? ⟨c, 0, none⟩ = false := free_of hc5
        have HF := Lib.hid (And.intro hown5 (And.intro hb5 (And.intro hc5 hcl2)))
        clear hown5 hb5 hc5 f1 e1
        go_wp2_with fail
        go_ret
        obtain ⟨hown5, hb5, hc5, hcl2⟩ := HF.out
        have hs := (SetB.self hc5).store (o := 0) (lt_of_blk hc5) (.slice a5 n5 c5)
        have he : [] ++ E.take i ++ [((a, m), x)] ++ E.drop (i) = E' := by rw [HPut.out]; simp
        rw [he] at hown5
        rw [HE'.out]
        refine ⟨rfl, ⟨⟨_, hs.at (lt_of_blk hc5), ?_⟩, hle⟩, ?_⟩
        · refine (hown5.keep fun q hq => hs.other ?_).mono H4.out.2.2.1.size
          rcases hown5.cases with ⟨hv, _⟩ | ⟨q', _, hv, h1, _⟩
          · rw [hv] at hq; cases hq
          · rw [hv] at hq; injection hq with hq; dsimp only at hq; omega
        · exact ((But.of_below H4.out.2.2.1 [c]).trans (But.of_below (H4.out.2.1.trans hb5) [c])).thenSet hs (.inr (by simp))
      · have hjc' : ((i : Int) = (cc : Int)) = False := by simp; omega
        go_wp2_with (at_builtin; refine halt ?_)
        refine Halted.go ?_
        refine Rep.append_list T27 rfl _ _ rfl (base := w2.heap.size) (M := E.drop (i)) rfl H4.out.1 rfl (⟨by simp, by unfold maxLen; omega, fun _ => ⟨g, _, rfl, by have h := ((hgw w4 (H4.out.2.2.1.trans (H4.out.2.1.mono H4.out.2.2.1.size))).row (by omega)); obtain ⟨b9, o9, h9, hr9⟩ := h; injection h9 with h9; injection h9 with h91 h92; subst h91; subst h92; have h10 := hr9.drop i; rw [Nat.zero_add] at h10; exact h10⟩⟩) (fun h => (by cases h)) (by unfold maxLen; simp; omega) (by simp; omega) H4.out.2.1.size ?_
        intro v5 w5 hown5 hb5 _
        have hcl2 := Nat.lt_of_lt_of_le hcl H4.out.2.2.1.size
        have hc5 := (hb5.block c hcl2).trans H4.out.2.2.2
        obtain ⟨a5, n5, c5, rfl⟩ : ∃ a5 n5 c5, v5 = Value.slice a5 n5 c5 := by
          obtain ⟨a9, c9, h9, -⟩ := hown5.sl
          exact ⟨a9, _, c9, h9⟩
        have f5 : w5.cell? ⟨c, 0, none⟩ = some (.slice (some ⟨g, 0, none⟩) E.length cc) := cell_of hc5 rfl
        have e5 : w5.frozen? ⟨c, 0, none⟩ = false := free_of hc5
        have HF := Lib.hid (And.intro hown5 (And.intro hb5 (And.intro hc5 hcl2)))
        clear hown5 hb5 hc5 f1 e1
        go_wp2_with fail
        go_ret
        obtain ⟨hown5, hb5, hc5, hcl2⟩ := HF.out
        have hs := (SetB.self hc5).store (o := 0) (lt_of_blk hc5) (.slice a5 n5 c5)
        have he : [] ++ E.take i ++ [((a, m), x)] ++ E.drop (i) = E' := by rw [HPut.out]; simp
        rw [he] at hown5
        rw [HE'.out]
        refine ⟨rfl, ⟨⟨_, hs.at (lt_of_blk hc5), ?_⟩, hle⟩, ?_⟩
        · refine (hown5.keep fun q hq => hs.other ?_).mono H4.out.2.2.1.size
          rcases hown5.cases with ⟨hv, _⟩ | ⟨q', _, hv, h1, _⟩
          · rw [hv] at hq; cases hq
          · rw [hv] at hq; injection hq with hq; dsimp only at hq; omega
        · exact ((But.of_below H4.out.2.2.1 [c]).trans (But.of_below (H4.out.2.1.trans hb5) [c])).thenSet hs (.inr (by simp))
    | true =>
      have hj2 : i + 1 ≤ E.length := hfl rfl
      by_cases hjc : i + 1 = cc
      · have hjc' : ((i : Int) + 1 = (cc : Int)) = True := by simp; omega
        have hl0 : E.length = i + 1 := by omega
        go_wp2_with (at_builtin; refine halt ?_)
        refine Halted.go ?_
        refine Rep.append_list T27 rfl _ _ rfl (base := w2.heap.size) (M := E.drop (i + 1)) rfl H4.out.1 rfl (⟨by simp; omega, by unfold maxLen; omega, fun h => absurd h (by omega)⟩) (fun h => (by cases h)) (by unfold maxLen; simp; omega) (by simp; omega) H4.out.2.1.size ?_
        intro v5 w5 hown5 hb5 _
        have hcl2 := Nat.lt_of_lt_of_le hcl H4.out.2.2.1.size
        have hc5 := (hb5.block c hcl2).trans H4.out.2.2.2
        obtain ⟨a5, n5, c5, rfl⟩ : ∃ a5 n5 c5, v5 = Value.slice a5 n5 c5 := by
          obtain ⟨a9, c9, h9, -⟩ := hown5.sl
          exact ⟨a9, _, c9, h9⟩
        have f5 : w5.cell? ⟨c, 0, none⟩ = some (.slice (some ⟨g, 0, none⟩) E.length cc) := cell_of hc5 rfl
        have e5 : w5.frozen? ⟨c, 0, none⟩ = false := free_of hc5
        have HF := Lib.hid (And.intro hown5 (And.intro hb5 (And.intro hc5 hcl2)))
        clear hown5 hb5 hc5 f1 e1
        go_wp2_with fail
        go_ret
        obtain ⟨hown5, hb5, hc5, hcl2⟩ := HF.out
        have hs := (SetB.self hc5).store (o := 0) (lt_of_blk hc5) (.slice a5 n5 c5)
        have he : [] ++ E.take i ++ [((a, m), x)] ++ E.drop (i + 1) = E' := by rw [HPut.out]; simp
        rw [he] at hown5
        rw [HE'.out]
        refine ⟨rfl, ⟨⟨_, hs.at (lt_of_blk hc5), ?_⟩, hle⟩, ?_⟩
        · refine (hown5.keep fun q hq => hs.other ?_).mono H4.out.2.2.1.size
          rcases hown5.cases with ⟨hv, _⟩ | ⟨q', _, hv, h1, _⟩
          · rw [hv] at hq; cases hq
          · rw [hv] at hq; injection hq with hq; dsimp only at hq; omega
        · exact ((But.of_below H4.out.2.2.1 [c]).trans (But.of_below (H4.out.2.1.trans hb5) [c])).thenSet hs (.inr (by simp))
      · have hjc' : ((i : Int) + 1 = (cc : Int)) = False := by simp; omega
        go_wp2_with (at_builtin; refine halt ?_)
        refine Halted.go ?_
        refine Rep.append_list T27 rfl _ _ rfl (base := w2.heap.size) (M := E.drop (i + 1)) rfl H4.out.1 rfl (⟨by simp, by unfold maxLen; omega, fun _ => ⟨g, _, rfl, by have h := ((hgw w4 (H4.out.2.2.1.trans (H4.out.2.1.mono H4.out.2.2.1.size))).row (by omega)); obtain ⟨b9, o9, h9, hr9⟩ := h; injection h9 with h9; injection h9 with h91 h92; subst h91; subst h92; have h10 := hr9.drop (i + 1); rw [Nat.zero_add] at h10; exact h10⟩⟩) (fun h => (by cases h)) (by unfold maxLen; simp; omega) (by simp; omega) H4.out.2.1.size ?_
        intro v5 w5 hown5 hb5 _
        have hcl2 := Nat.lt_of_lt_of_le hcl H4.out.2.2.1.size
        have hc5 := (hb5.block c hcl2).trans H4.out.2.2.2
        obtain ⟨a5, n5, c5, rfl⟩ : ∃ a5 n5 c5, v5 = Value.slice a5 n5 c5 := by
          obtain ⟨a9, c9, h9, -⟩ := hown5.sl
          exact ⟨a9, _, c9, h9⟩
        have f5 : w5.cell? ⟨c, 0, none⟩ = some (.slice (some ⟨g, 0, none⟩) E.length cc) := cell_of hc5 rfl
        have e5 : w5.frozen? ⟨c, 0, none⟩ = false := free_of hc5
        have HF := Lib.hid (And.intro hown5 (And.intro hb5 (And.intro hc5 hcl2)))
        clear hown5 hb5 hc5 f1 e1
        go_wp2_with fail
        go_ret
        obtain ⟨hown5, hb5, hc5, hcl2⟩ := HF.out
        have hs := (SetB.self hc5).store (o := 0) (lt_of_blk hc5) (.slice a5 n5 c5)
        have he : [] ++ E.take i ++ [((a, m), x)] ++ E.drop (i + 1) = E' := by rw [HPut.out]; simp
        rw [he] at hown5
        rw [HE'.out]
        refine ⟨rfl, ⟨⟨_, hs.at (lt_of_blk hc5), ?_⟩, hle⟩, ?_⟩
        · refine (hown5.keep fun q hq => hs.other ?_).mono H4.out.2.2.1.size
          rcases hown5.cases with ⟨hv, _⟩ | ⟨q', _, hv, h1, _⟩
          · rw [hv] at hq; cases hq
          · rw [hv] at hq; injection hq with hq; dsimp only at hq; omega
        · exact ((But.of_below H4.out.2.2.1 [c]).trans (But.of_below (H4.out.2.1.trans hb5) [c])).thenSet hs (.inr (by simp))
end Go.Proofs.Ytdhebjeajdohoaa
