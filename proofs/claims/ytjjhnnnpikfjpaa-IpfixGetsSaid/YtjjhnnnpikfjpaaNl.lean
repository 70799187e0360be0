/- The reference's reader. -/
import Derived.Test.YtjjhnnnpikfjpaaNk
namespace Go.Proofs.Ytjjhnnnpikfjpaa
open Go.RowKit

set_option maxRecDepth 100000 in
set_option maxHeartbeats 400000 in
theorem fbytes_any {g : Nat} {l : List Nat} {bad : Bool} {w : World} (h : RdAt 73 g l bad w) (n : Int) : Calls Try.prog 40 #[.pointer (some ⟨g, 0, none⟩), .int .i64 n] w fun e w' => (∃ v, e = .returned v ∧ RB.Own w' w.heap.size v (rdB n l bad).1) ∧ RdAt 73 g (rdB n l bad).2.1 (rdB n l bad).2.2 w' ∧ But w w' [g] := by
  obtain ⟨⟨oa, m, c, hg, hbs, hne⟩, hby, hle, -⟩ := h
  have hlen := hbs.sl.len.symm
  have e0 := cell_of (o := 0) hg rfl
  have e1 := cell_of (o := 1) hg rfl
  have f0 : w.frozen? ⟨g, 0, none⟩ = false := free_of hg
  have f1 : w.frozen? ⟨g, 1, none⟩ = false := free_of hg
  have HB := Lib.hid (And.intro hg (And.intro hbs (And.intro hne (And.intro hby hle))))
  clear hg hbs hne hby
  have hm : m ≤ 100000 := by omega
  have HL := Lib.hid hlen
  clear hle hlen
  go_enter Try.func40, Try.ntmps40
  have hs := RdAt.spoil HB.out.1 (by decide) HB.out.2.1 HB.out.2.2.1 HB.out.2.2.2.1 HB.out.2.2.2.2
  have HS := Lib.hid hs
  clear hs
  cases bad with
  | true =>
    have hr : rdB n l true = ([], l, true) := by simp [rdB]
    rw [hr]
    dsimp only
    clear hr
    go_wp2_with fail
    go_ret
    exact ⟨⟨_, rfl, Rep.Own.nil _ _⟩, HS.out.1, HS.out.2⟩
  | false =>
    by_cases h0 : n < 0
    · have hr : rdB n l false = ([], l, true) := by simp [rdB, h0]
      rw [hr]
      dsimp only
      have g0 : (n < 0) = True := by simp [h0]
      clear hr h0
      go_wp2_with fail
      go_ret
      exact ⟨⟨_, rfl, Rep.Own.nil _ _⟩, HS.out.1, HS.out.2⟩
    · obtain ⟨k, rfl⟩ := Int.eq_ofNat_of_zero_le (a := n) (by omega)
      have g0 : ((k : Int) < 0) = False := by simp
      clear h0
      by_cases h1 : m < k
      · have hr : rdB k l false = ([], l, true) := by have := HL.out; simp [rdB]; omega
        rw [hr]
        dsimp only
        have g1 : ((m : Int) < (k : Int)) = True := by simp [h1]
        clear hr
        go_wp2_with fail
        go_ret
        exact ⟨⟨_, rfl, Rep.Own.nil _ _⟩, HS.out.1, HS.out.2⟩
      · have hr : rdB k l false = (l.take k, l.drop k, false) := by have := HL.out; simp [rdB]; omega
        rw [hr]
        dsimp only
        have g1 : ((m : Int) < (k : Int)) = False := by simp; omega
        have hkm : k ≤ m := by omega
        have hmc := HB.out.2.1.le
        have hcm := HB.out.2.1.cap
        clear hr HS
        have fin : ∀ (w1 : World) (v1 : Value) (oa' : Option Addr) (n' c' : Nat), w1.heap[g]? = some (.cells #[.slice oa m c, .bool false] 73) → RB.Own w1 w.heap.size v1 (l.take k) → Below w.heap.size w w1 → B5 w1 oa' n' c' (l.drop k) → (∀ b o, oa' = some ⟨b, o, none⟩ → b ≠ g) → (∃ v, Ending.returned v1 = .returned v ∧ RB.Own (w1.setCell ⟨g, 0, none⟩ (.slice oa' n' c')) w.heap.size v (l.take k)) ∧ RdAt 73 g (l.drop k) false (w1.setCell ⟨g, 0, none⟩ (.slice oa' n' c')) ∧ But w (w1.setCell ⟨g, 0, none⟩ (.slice oa' n' c')) [g] := by
          intro w1 v1 oa' n' c' q1 q2 q3 q4 q5
          have h := RdAt.adv q1 (by decide) q4 q5 (HB.out.2.2.2.1.drop k) (by rw [List.length_drop]; have := HB.out.2.2.2.2; omega)
          have hglt := lt_of_blk HB.out.1
          exact ⟨⟨_, rfl, q2.but h.2 (by intro x hx; simp at hx; omega)⟩, h.1, (But.of_below q3 [g]).trans h.2⟩
        have HI := Lib.hid fin
        clear fin
        cases oa with
        | none =>
          obtain rfl : c = 0 := HB.out.2.1.nil rfl
          obtain rfl : m = 0 := by omega
          obtain rfl : k = 0 := by omega
          have hal := (Below.refl w.heap.size w).alloc (Nat.le_refl _) (.cells #[] 5)
          have HA := Lib.hid (And.intro hal ((HB.out.2.1.init hkm).keep hal))
          have e0' := cell_hold e0 (.cells #[] 5)
          clear hal
          go_wp2_with (at_builtin; refine halt ?_)
          refine Halted.go ?_
          refine Rep.append_list T27 rfl _ _ rfl (base := w.heap.size) (L := []) (M := l.take 0) rfl (rb_empty w) rfl HA.out.2 (fun h => rfl) (by unfold maxLen; simp) (by simp) (by simp) ?_
          intro v1 w1 ho1 hb0 _
          have hb1 := HA.out.1.trans hb0
          clear e0' hb0
          rw [List.nil_append] at ho1
          have hg1 := (hb1.block g (lt_of_blk HB.out.1)).trans HB.out.1
          clear e0 e1 f0 f1
          have e0 := cell_of (o := 0) hg1 rfl
          have f0 : w1.frozen? ⟨g, 0, none⟩ = false := free_of hg1
          have hbs1 := HB.out.2.1.below hb1
          have HC := Lib.hid (And.intro hg1 (And.intro ho1 (And.intro hb1 hbs1)))
          clear hg1 ho1 hb1 hbs1
          go_wp2_with fail
          go_ret
          exact HI.out _ _ _ _ _ HC.out.1 HC.out.2.1 HC.out.2.2.1 HC.out.2.2.2 (by intro b o h; cases h)
        | some ad =>
          obtain ⟨b, o, had⟩ : ∃ b o, ad = ⟨b, o, none⟩ := by
            rcases HB.out.2.1.ad with h | ⟨b, o, h⟩
            · cases h
            · exact ⟨b, o, by injection h⟩
          subst had
          have hbg : b ≠ g := HB.out.2.2.1 b o rfl
          have hal := (Below.refl w.heap.size w).alloc (Nat.le_refl _) (.cells #[] 5)
          have HA := Lib.hid (And.intro hal ((HB.out.2.1.init hkm).keep hal))
          have e0' := cell_hold e0 (.cells #[] 5)
          clear hal
          go_wp2_with (at_builtin; refine halt ?_)
          refine Halted.go ?_
          refine Rep.append_list T27 rfl _ _ rfl (base := w.heap.size) (L := []) (M := l.take k) rfl (rb_empty w) rfl HA.out.2 (fun h => by cases h) (by unfold maxLen; simp; omega) (by simp; omega) (by simp) ?_
          intro v1 w1 ho1 hb0 _
          have hb1 := HA.out.1.trans hb0
          clear e0' hb0
          rw [List.nil_append] at ho1
          have hg1 := (hb1.block g (lt_of_blk HB.out.1)).trans HB.out.1
          clear e0 e1 f0 f1
          have e0 := cell_of (o := 0) hg1 rfl
          have f0 : w1.frozen? ⟨g, 0, none⟩ = false := free_of hg1
          have hbs1 := HB.out.2.1.below hb1
          have HC := Lib.hid (And.intro hg1 (And.intro ho1 (And.intro hb1 (And.intro hbs1 hbg))))
          clear hg1 ho1 hb1 hbs1 hbg
          by_cases hck : c = k
          · subst hck
            obtain rfl : m = c := by omega
            go_wp2_with fail
            go_ret
            refine HI.out _ _ _ _ _ HC.out.1 HC.out.2.1 HC.out.2.2.1 ?_ (by intro b' o' h; injection h with h; injection h with h1 _ _; rw [← h1]; exact HC.out.2.2.2.2)
            rw [List.drop_eq_nil_of_le (by have := HL.out; omega)]
            exact ⟨⟨⟨by simp, by unfold maxLen; omega, fun h0 => absurd h0 (by omega)⟩, by simp, by omega, by unfold maxLen; omega, .inr ⟨_, _, rfl⟩⟩, HC.out.2.2.2.1.t5⟩
          · go_wp2_with fail
            go_ret
            exact HI.out _ _ _ _ _ HC.out.1 HC.out.2.1 HC.out.2.2.1 (HC.out.2.2.2.1.tail hkm) (by intro b' o' h; injection h with h; injection h with h1 _ _; rw [← h1]; exact HC.out.2.2.2.2)
set_option maxRecDepth 100000 in
set_option maxHeartbeats 400000 in
theorem fnum_any {k : Nat} (hk : k = 2 ∨ k = 4) {g : Nat} {l : List Nat} {bad : Bool} {w : World} (h : RdAt 73 g l bad w) : Calls Try.prog 38 #[.pointer (some ⟨g, 0, none⟩), .int .i64 k] w fun e w' => e = .returned (.int .i64 (getN (rdB k l bad).1 : Nat)) ∧ RdAt 73 g (rdB k l bad).2.1 (rdB k l bad).2.2 w' ∧ But w w' [g] := by
  have HB := Lib.hid h
  clear h
  have h1 : ((k : Int) < 1) = False := by simp; omega
  have h2 : ((4 : Int) < (k : Int)) = False := by simp; omega
  have hrl := rdB_len k l bad
  have hby := rdB_bytes k l bad HB.out.bytes
  have hrb := fbytes_any HB.out (k : Int)
  generalize rdB k l bad = R at *
  have HR := Lib.hid (And.intro hrl (And.intro hby hrb))
  clear hrl hby hrb
  go_enter Try.func38, Try.ntmps38
  go_wp2_with fail
  refine (HR.out.2.2).mono ?_
  rintro e w1 ⟨⟨v1, rfl, ho1⟩, hr1, hb1⟩
  obtain ⟨oa1, c1, rfl, hs1⟩ := bs_own ho1
  have HC := Lib.hid (And.intro hs1 (And.intro hr1 hb1))
  clear hs1 hr1 hb1 ho1
  go_wp2_with fail
  refine (rget_any _ _ _ _ _ HC.out.1.sl HR.out.2.1 (by have := HR.out.1; omega)).mono ?_
  rintro e w2 ⟨rfl, rfl⟩
  go_wp2_with fail
  go_ret
  exact ⟨rfl, HC.out.2.1, HC.out.2.2⟩
theorem fleft_any {g : Nat} {l : List Nat} {bad : Bool} {w : World} (h : RdAt 73 g l bad w) : Calls Try.prog 39 #[.pointer (some ⟨g, 0, none⟩)] w fun e w' => e = .returned (.int .i64 (if bad then 0 else l.length : Nat)) ∧ w' = w := by
  obtain ⟨⟨oa, m, c, hg, hbs, -⟩, -, -, -⟩ := h
  have e0 := cell_of (o := 0) hg rfl
  have e1 := cell_of (o := 1) hg rfl
  have H := Lib.hid hbs.sl.len
  clear hg hbs
  go_enter Try.func39, Try.ntmps39
  cases bad with
  | true =>
    go_wp2_with fail
    go_ret
    exact ⟨rfl, rfl⟩
  | false =>
    go_wp2_with fail
    go_ret
    exact ⟨by rw [← H.out]; rfl, rfl⟩
end Go.Proofs.Ytjjhnnnpikfjpaa
