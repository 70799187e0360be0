/- The reference's Get. -/
import Derived.Test.YtjjhnnnpikfjpaaNn
namespace Go.Proofs.Ytjjhnnnpikfjpaa
open Go.RowKit

theorem f2_rd {g : Nat} {l : List Nat} {bad : Bool} {w : World} (h : RdAt 73 g l bad w) : Calls Try.prog 38 #[.pointer (some ⟨g, 0, none⟩), .int .i64 2] w fun e w' => e = .returned (.int .i64 (getN (rdB 2 l bad).1 : Nat)) ∧ RdAt 73 g (rdB 2 l bad).2.1 (rdB 2 l bad).2.2 w' ∧ But w w' [g] := fnum_any (k := 2) (.inl rfl) h
theorem f4_rd {g : Nat} {l : List Nat} {bad : Bool} {w : World} (h : RdAt 73 g l bad w) : Calls Try.prog 38 #[.pointer (some ⟨g, 0, none⟩), .int .i64 4] w fun e w' => e = .returned (.int .i64 (getN (rdB 4 l bad).1 : Nat)) ∧ RdAt 73 g (rdB 4 l bad).2.1 (rdB 4 l bad).2.2 w' ∧ But w w' [g] := fnum_any (k := 4) (.inr rfl) h
theorem fleftN_any {g : Nat} {l : List Nat} {bad : Bool} {w : World} (h : RdAt 73 g l bad w) : Calls Try.prog 39 #[.pointer (some ⟨g, 0, none⟩)] w fun e w' => e = .returned (.int .i64 (leftN l bad : Nat)) ∧ w' = w := fleft_any h
theorem RdAt.cells {T : TypeId} {g : Nat} {l : List Nat} {bad : Bool} {w : World} (h : RdAt T g l bad w) : w.cell? ⟨g, 1, none⟩ = some (.bool bad) := by
  obtain ⟨⟨oa, n, c, h1, h2, h3⟩, h4, h5⟩ := h
  exact cell_of h1 rfl
set_option maxRecDepth 100000 in
set_option maxHeartbeats 1000000 in
theorem rget_pk {w : World} {oa : Option Addr} {n c : Nat} {l : List Nat} (h : RB.Sl w oa n c l) (hnil : oa = none → c = 0) (hby : Bytes l) (hn : n ≤ 100000) : Calls Try.prog 14 #[.slice oa n c] w fun e w' => GotP (getP l) e w' (.bool true) (.bool false) ∧ Below w.heap.size w w' := by
  have hal := (Below.refl w.heap.size w).alloc (Nat.le_refl _) (.cells #[.int .i64 0, .int .i64 0, .int .i64 0, .slice none 0 0] 24)
  have h2 : PkS w.heap.size #[.int .i64 0, .int .i64 0, .int .i64 0, .slice none 0 0] (w.alloc (.cells #[.int .i64 0, .int .i64 0, .int .i64 0, .slice none 0 0] 24)) := hnew _ _
  have hlen := h.len.symm
  have HH := Lib.hid (And.intro (h.keep (hal.alloc hal.size (.cells #[] 5))) (And.intro hnil (And.intro hby hlen)))
  have F0 := Lib.hid (And.intro hal h2)
  have hsz : w.heap.size < (w.alloc (.cells #[.int .i64 0, .int .i64 0, .int .i64 0, .slice none 0 0] 24)).heap.size := lt_of_blk h2
  clear h hnil hby hal h2 hlen
  obtain ⟨A, hA⟩ : ∃ A, A = rdB 2 l false := ⟨_, rfl⟩
  obtain ⟨B, hB⟩ : ∃ B, B = rdB 2 A.2.1 A.2.2 := ⟨_, rfl⟩
  obtain ⟨C, hC⟩ : ∃ C, C = rdB 4 B.2.1 B.2.2 := ⟨_, rfl⟩
  obtain ⟨D, hD⟩ : ∃ D, D = rdB 4 C.2.1 C.2.2 := ⟨_, rfl⟩
  obtain ⟨E, hE⟩ : ∃ E, E = rdB 4 D.2.1 D.2.2 := ⟨_, rfl⟩
  have hG : getP l = if getN A.1 ≠ 10 ∨ getN B.1 ≠ l.length then none else if (gs (E.2.1.length + 1) E.2.1 E.2.2).2 = true ∨ okP (PP.pk ⟨getN C.1, getN D.1, getN E.1, (gs (E.2.1.length + 1) E.2.1 E.2.2).1⟩) = false then none else some ⟨getN C.1, getN D.1, getN E.1, (gs (E.2.1.length + 1) E.2.1 E.2.2).1⟩ := by subst hE; subst hD; subst hC; subst hB; subst hA; rfl
  generalize getP l = GP at *
  have HE := Lib.hid (And.intro hA (And.intro hB (And.intro hC (And.intro hD hE))))
  have HG := Lib.hid hG
  clear hA hB hC hD hE hG
  go_enter Try.func14, Try.ntmps14
  have hsz1 : (w.alloc (.cells #[.int .i64 0, .int .i64 0, .int .i64 0, .slice none 0 0] 24)).heap.size = w.heap.size + 1 := Array.size_push _
  have hre := rb_empty (w.alloc (.cells #[.int .i64 0, .int .i64 0, .int .i64 0, .slice none 0 0] 24))
  have hal1 := (Below.refl (w.alloc (.cells #[.int .i64 0, .int .i64 0, .int .i64 0, .slice none 0 0] 24)).heap.size (w.alloc (.cells #[.int .i64 0, .int .i64 0, .int .i64 0, .slice none 0 0] 24))).alloc (Nat.le_refl _) (.cells #[] 5)
  have hss := hal1.size
  rw [hsz1] at hre hss
  have HRE := Lib.hid (And.intro hre (And.intro hal1 hss))
  have HSZ := Lib.hid hsz1
  clear hre hal1 hsz1 hss hsz
  go_wp2_with (at_builtin; refine halt ?_)
  refine Halted.go ?_
  refine Rep.append_list T27 rfl _ _ rfl (base := w.heap.size + 1) (L := []) (M := l) rfl HRE.out.1 rfl HH.out.1 HH.out.2.1 (by unfold maxLen; simp; omega) (by simp; omega) HRE.out.2.2 ?_
  intro v1 W1 ho1 hb1 _
  rw [List.nil_append] at ho1
  obtain ⟨oa1, c1, rfl, hs1⟩ := b5_own ho1
  have hlt1 : ∀ b o, oa1 = some ⟨b, o, none⟩ → b ≠ W1.heap.size := by
    rintro b o rfl
    have := (World.ownsRow.lt ho1 b rfl).2
    omega
  have hb2 := HRE.out.2.1.trans (by rw [HSZ.out]; exact hb1)
  have hp1 := F0.out.2.on hb2
  have hbb := bcall F0.out.1 (Nat.le_refl _) hb2
  have hal := (Below.refl W1.heap.size W1).alloc (Nat.le_refl _) (.cells #[.slice oa1 l.length c1, .bool false] 73)
  have hg : w.heap.size < W1.heap.size := lt_of_blk hp1
  have hrd : RdAt 73 W1.heap.size l false (W1.alloc (.cells #[.slice oa1 l.length c1, .bool false] 73)) := ⟨⟨_, _, _, hnew _ _, hs1.below hal, hlt1⟩, HH.out.2.2.1, by have := HH.out.2.2.2; omega, by decide⟩
  have F1 := Lib.hid (And.intro hrd (And.intro (hp1.on hal) (bcall hbb (Nat.le_refl _) hal)))
  clear hs1 hlt1 HRE HSZ hb2 hp1 hbb hal hrd hb1 ho1 F0
  have HN := Lib.hid (show w.heap.size ∉ [W1.heap.size] by simp; omega)
  have HN2 := Lib.hid (show ∀ b ∈ [W1.heap.size], w.heap.size ≤ b by intro b hb; simp at hb; omega)
  clear hg
  go_wp2_with fail
  generalize W1.alloc (.cells #[.slice oa1 l.length c1, .bool false] 73) = W2 at *
  generalize W1.heap.size = g at *
  have c1 := f2_rd F1.out.1
  rw [← HE.out.1] at c1
  have HC1 := Lib.hid c1
  clear c1
  refine (HC1.out).mono ?_
  rintro e W1x ⟨rfl, hr1, hb1⟩
  have F2 := Lib.hid (And.intro hr1 (And.intro (F1.out.2.1.but hb1 HN.out) ((Below.step F1.out.2.2 F1.out.2.2.size hb1 HN2.out))))
  clear F1
  clear hr1 hb1 HC1
  by_cases hA10 : getN A.1 = 10
  · have HA10 := Lib.hid hA10
    have hAA : (getN A.1 : Int) = 10 := by rw [hA10]; rfl
    clear hA10
    have c4 := f2_rd F2.out.1
    rw [← HE.out.2.1] at c4
    have HC4 := Lib.hid c4
    clear c4
    go_wp2_with fail
    refine (HC4.out).mono ?_
    rintro e W4x ⟨rfl, hr4, hb4⟩
    have F5 := Lib.hid (And.intro hr4 (And.intro (F2.out.2.1.but hb4 HN.out) ((Below.step F2.out.2.2 F2.out.2.2.size hb4 HN2.out))))
    clear F2
    clear hr4 hb4 HC4
    clear hAA
    by_cases hBn : getN B.1 = n
    · have hG2 := HG.out.trans (if_neg (by rw [HH.out.2.2.2]; rintro (h | h); exact h HA10.out; exact h hBn))
      have HG2 := Lib.hid hG2
      clear hG2
      have hBi : (getN B.1 : Int) = n := by omega
      clear hBn
      have c7 := f4_rd F5.out.1
      rw [← HE.out.2.2.1] at c7
      have HC7 := Lib.hid c7
      clear c7
      go_wp2_with fail
      refine (HC7.out).mono ?_
      rintro e W7x ⟨rfl, hr7, hb7⟩
      have F8 := Lib.hid (And.intro hr7 (And.intro (F5.out.2.1.but hb7 HN.out) ((Below.step F5.out.2.2 F5.out.2.2.size hb7 HN2.out))))
      clear F5
      clear hr7 hb7 HC7
      clear hBi
      have c9 := f4_rd F8.out.1
      rw [← HE.out.2.2.2.1] at c9
      have HC9 := Lib.hid c9
      clear c9
      go_wp2_with fail
      refine (HC9.out).mono ?_
      rintro e W9x ⟨rfl, hr9, hb9⟩
      have F10 := Lib.hid (And.intro hr9 (And.intro (F8.out.2.1.but hb9 HN.out) ((Below.step F8.out.2.2 F8.out.2.2.size hb9 HN2.out))))
      clear F8
      clear hr9 hb9 HC9
      have c11 := f4_rd F10.out.1
      rw [← HE.out.2.2.2.2] at c11
      have HC11 := Lib.hid c11
      clear c11
      go_wp2_with fail
      refine (HC11.out).mono ?_
      rintro e W11x ⟨rfl, hr11, hb11⟩
      have F12 := Lib.hid (And.intro hr11 (And.intro (F10.out.2.1.but hb11 HN.out) ((Below.step F10.out.2.2 F10.out.2.2.size hb11 HN2.out))))
      clear F10
      clear hr11 hb11 HC11
      have hb5 := (Below.refl W11x.heap.size W11x).alloc (Nat.le_refl _) (.cells #[.int .i64 0, .int .i64 0, .int .i64 0, .slice none 0 0] 24)
      have hp5 : PkS W11x.heap.size #[.int .i64 0, .int .i64 0, .int .i64 0, .slice none 0 0] (W11x.alloc (.cells #[.int .i64 0, .int .i64 0, .int .i64 0, .slice none 0 0] 24)) := hnew _ _
      have he5 : W11x.heap.size ≠ w.heap.size ∧ W11x.heap.size ≠ g := by have h1 := lt_of_blk F12.out.2.1; have h3 := F12.out.1.lt; omega
      have hl5 : w.heap.size ≤ W11x.heap.size := F12.out.2.2.size
      have F13 := Lib.hid (And.intro (F12.out.1.on hb5) (And.intro (F12.out.2.1.on hb5) (And.intro (bcall F12.out.2.2 (Nat.le_refl _) hb5) (And.intro hp5 ((And.intro he5 hl5))))))
      clear F12
      clear hb5 hp5 he5 hl5
      go_wp2_with (with_reducible refine halt_store 24 rfl ?_)
      refine Halted.go ?_
      generalize W11x.alloc (.cells #[.int .i64 0, .int .i64 0, .int .i64 0, .slice none 0 0] 24) = W5 at *
      generalize W11x.heap.size = b5 at *
      refine store_whole rfl 24 _ _ rfl b5 #[.int .i64 (getN C.1 : Nat), .int .i64 (getN D.1 : Nat), .int .i64 (getN E.1 : Nat), .slice none 0 0] rfl rfl F13.out.2.2.2.1 rfl (by kernel_rfl) (by simp [Value.oneCell']) ?_
      intro Wz hwz hsz
      have HE5 := Lib.hid F13.out.2.2.2.2
      have F14 := Lib.hid (And.intro (F13.out.1.keep (.of_set hsz F13.out.2.2.2.1 (by decide)) (hsz.other (Ne.symm HE5.out.1.2))) (And.intro (PkS.same (hsz.other (Ne.symm HE5.out.1.1)) F13.out.2.1) (And.intro (F13.out.2.2.1.trans (hsz.below HE5.out.2)) ((show PkS b5 #[.int .i64 (getN C.1 : Nat), .int .i64 (getN D.1 : Nat), .int .i64 (getN E.1 : Nat), .slice none 0 0] Wz from hwz)))))
      clear F13
      clear hwz hsz
      go_wp2_with fail
      try dsimp only [Act.put]
      obtain ⟨GG, hGG⟩ : ∃ GG, GG = gs (E.2.1.length + 1) E.2.1 E.2.2 := ⟨_, rfl⟩
      have HGG := Lib.hid hGG
      have FI := Lib.hid (show RdAt 73 g E.2.1 E.2.2 Wz ∧ PkS w.heap.size #[.int .i64 0, .int .i64 0, .int .i64 0, .slice none 0 0] Wz ∧ PkS b5 #[.int .i64 (getN C.1 : Nat), .int .i64 (getN D.1 : Nat), .int .i64 (getN E.1 : Nat), .slice none 0 0] Wz ∧ Below w.heap.size w Wz ∧ RSt.Own Wz w.heap.size (.slice none 0 0) ([] : List (Int × SlV Nat)) ∧ ((Value.slice none 0 0).ownBlock ≠ some g ∧ (Value.slice none 0 0).ownBlock ≠ some b5 ∧ (Value.slice none 0 0).ownBlock ≠ some w.heap.size) ∧ SetsOk Wz ([] : List (Int × SlV Nat)) ∧ (GG.1.map (fun x => pj (toS x)) = ([] : List (Int × SlV Nat)).map pj ++ (gs (E.2.1.length + 1) E.2.1 E.2.2).1.map (fun x => pj (toS x)) ∧ GG.2 = (gs (E.2.1.length + 1) E.2.1 E.2.2).2) ∧ (E.2.2 = true ∨ E.2.1.length < E.2.1.length + 1) ∧ ([] : List (Int × SlV Nat)).length + leftN E.2.1 E.2.2 ≤ 100000 from
        ⟨F14.out.1, F14.out.2.1, F14.out.2.2.2, F14.out.2.2.1, Rep.Own.nil _ _, ⟨(by intro h; cases h), (by intro h; cases h), (by intro h; cases h)⟩, ⟨fun x hx => by cases hx⟩, ⟨by rw [hGG]; rfl, by rw [hGG]⟩, .inr (Nat.lt_succ_self _), by have := F14.out.1.le; unfold leftN; split <;> simp; omega⟩)
      clear hGG F14
      go_loopw [6, 7] (fun _ _ wr => ∃ (f : Nat) (lq : List Nat) (bad : Bool) (hs : List (Int × SlV Nat)) (v : Value), RdAt 73 g lq bad wr ∧ PkS w.heap.size #[.int .i64 0, .int .i64 0, .int .i64 0, .slice none 0 0] wr ∧ PkS b5 #[.int .i64 (getN C.1 : Nat), .int .i64 (getN D.1 : Nat), .int .i64 (getN E.1 : Nat), v] wr ∧ Below w.heap.size w wr ∧ RSt.Own wr w.heap.size v hs ∧ (v.ownBlock ≠ some g ∧ v.ownBlock ≠ some b5 ∧ v.ownBlock ≠ some w.heap.size) ∧ SetsOk wr hs ∧ (GG.1.map (fun x => pj (toS x)) = hs.map pj ++ (gs f lq bad).1.map (fun x => pj (toS x)) ∧ GG.2 = (gs f lq bad).2) ∧ (bad = true ∨ lq.length < f) ∧ hs.length + leftN lq bad ≤ 100000) (fun _ _ wr => rdM g wr)
      case atStart => exact ⟨_, _, _, _, _, FI.out⟩
      case round =>
        obtain ⟨f, lq, bad, hs, v, hrel⟩ := hrel
        obtain ⟨w2, rfl⟩ : ∃ w2 : World, w2 = wr := ⟨_, rfl⟩
        have FL := Lib.hid hrel
        have e1 := hrel.1.cells
        clear hrel FI
        cases bad with
        | true =>
          have h0 : leftN lq true = 0 := rfl
          go_wp2_with fail
          refine (fleftN_any FL.out.1).mono ?_
          rintro e w3 ⟨rfl, hw⟩
          subst w3
          have hbad : (gs (E.2.1.length + 1) E.2.1 E.2.2).2 = true := by rw [← HGG.out, FL.out.2.2.2.2.2.2.2.1.2, gs_bad]
          go_wp2_with (with_reducible refine halt_store 24 rfl ?_)
          refine Halted.go ?_
          refine store_whole rfl 24 _ _ rfl w.heap.size #[.int .i64 0, .int .i64 0, .int .i64 0, .slice none 0 0] rfl rfl FL.out.2.1 rfl (by kernel_rfl) (by simp [Value.oneCell']) ?_
          intro Wz hwz hsz
          have HZ := Lib.hid (And.intro hwz (Below.trans FL.out.2.2.2.1 (hsz.below (Nat.le_refl _))))
          clear hwz hsz
          go_wp2_with fail
          refine ret_cell2 rfl rfl rfl HZ.out.1 Try.underlying24 rfl (by kernel_rfl) ?_
          exact ⟨⟨⟨0, 0, 0, ⟨none, 0, 0, []⟩⟩, sts_nil _, .inl ⟨(HG2.out.trans (if_pos (.inl hbad))), rfl, rfl⟩⟩, HZ.out.2⟩
        | false =>
          by_cases hnil : lq = []
          · subst hnil
            have h0 : leftN [] false = 0 := rfl
            go_wp2_with fail
            refine (fleftN_any FL.out.1).mono ?_
            rintro e w3 ⟨rfl, hw⟩
            subst w3
            obtain ⟨oa7, c7, rfl, hst7⟩ := rs_own FL.out.2.2.2.2.1
            have hst := hst7 FL.out.2.2.2.2.2.2.1
            obtain ⟨p, hp⟩ : ∃ p : Pk, p = ⟨(getN C.1 : Nat), (getN D.1 : Nat), (getN E.1 : Nat), ⟨oa7, hs.length, c7, hs⟩⟩ := ⟨_, rfl⟩
            have hpv : p.v = .agg #[.int .i64 (getN C.1 : Nat), .int .i64 (getN D.1 : Nat), .int .i64 (getN E.1 : Nat), .slice oa7 hs.length c7] := by rw [hp]; rfl
            have hps : p.ss = ⟨oa7, hs.length, c7, hs⟩ := by rw [hp]
            have hpi : p.is ⟨getN C.1, getN D.1, getN E.1, GG.1⟩ := by
              rw [hp]
              refine ⟨rfl, rfl, rfl, ?_⟩
              have := FL.out.2.2.2.2.2.2.2.1.1
              rw [gs_nil, List.map_nil, List.append_nil] at this
              exact this.symm
            have hgb : (gs (E.2.1.length + 1) E.2.1 E.2.2).2 = false := by rw [← HGG.out, FL.out.2.2.2.2.2.2.2.1.2, gs_nil]
            have hck := rcheck_any p w2 (by rw [hps]; exact hst) (by rw [hps]; intro x hx; have := (FL.out.2.2.2.2.2.2.1.all x hx).2.2.1; omega)
            rw [hpv] at hck
            have HI := Lib.hid (And.intro hpv (And.intro hps (And.intro hpi (And.intro hgb hpi.eqs.1))))
            clear hp hpv hps hpi hgb hst hst7
            obtain ⟨z0, z1, z2, z3⟩ := FL.out.2.2.1.cells
            cases hok : okP p with
            | false =>
              rw [hok] at hck
              have hnone := HG2.out.trans (if_pos (.inr (by rw [← HGG.out, ← HI.out.2.2.2.2]; exact hok)))
              have HC := Lib.hid (And.intro hck hnone)
              clear hck hok hnone
              go_wp2_with fail
              refine (HC.out.1).mono ?_
              rintro e w3 ⟨rfl, hb3⟩
              have F8 := Lib.hid (And.intro (FL.out.2.1.on hb3) (bcall FL.out.2.2.2.1 (Nat.le_refl _) hb3))
              clear hb3 z0 z1 z2 z3
              go_wp2_with (with_reducible refine halt_store 24 rfl ?_)
              refine Halted.go ?_
              refine store_whole rfl 24 _ _ rfl w.heap.size #[.int .i64 0, .int .i64 0, .int .i64 0, .slice none 0 0] rfl rfl F8.out.1 rfl (by kernel_rfl) (by simp [Value.oneCell']) ?_
              intro Wz hwz hsz
              have HZ := Lib.hid (And.intro hwz (Below.trans F8.out.2 (hsz.below (Nat.le_refl _))))
              clear hwz hsz
              go_wp2_with fail
              refine ret_cell2 rfl rfl rfl HZ.out.1 Try.underlying24 rfl (by kernel_rfl) ?_
              exact ⟨⟨⟨0, 0, 0, ⟨none, 0, 0, []⟩⟩, sts_nil _, .inl ⟨HC.out.2, rfl, rfl⟩⟩, HZ.out.2⟩
            | true =>
              rw [hok] at hck
              have hsome := HG2.out.trans (if_neg (by rw [← HGG.out, ← HI.out.2.2.2.2, hok, HGG.out, HI.out.2.2.2.1]; simp))
              have HC := Lib.hid (And.intro hck hsome)
              clear hck hok hsome
              go_wp2_with fail
              refine (HC.out.1).mono ?_
              rintro e w3 ⟨rfl, hb3⟩
              have F8 := Lib.hid (And.intro (FL.out.2.1.on hb3) (And.intro (bcall FL.out.2.2.2.1 (Nat.le_refl _) hb3) (And.intro (FL.out.2.2.1.on hb3) (And.intro (FL.out.2.2.2.2.1.below hb3) (FL.out.2.2.2.2.2.2.1.keep (.of_below hb3))))))
              clear hb3 z0 z1 z2 z3
              obtain ⟨z0, z1, z2, z3⟩ := F8.out.2.2.1.cells
              go_wp2_with (with_reducible refine halt_store 24 rfl ?_)
              refine Halted.go ?_
              refine store_whole rfl 24 _ _ rfl w.heap.size #[.int .i64 (getN C.1 : Nat), .int .i64 (getN D.1 : Nat), .int .i64 (getN E.1 : Nat), .slice oa7 hs.length c7] rfl rfl F8.out.1 rfl (by kernel_rfl) (by simp [Value.oneCell']) ?_
              intro Wz hwz hsz
              have hown := F8.out.2.2.2.1.keep (w' := Wz) (fun b hb => hsz.other (fun e => FL.out.2.2.2.2.2.1.2.2 (e ▸ hb)))
              have hsets := F8.out.2.2.2.2.keep (.of_set hsz F8.out.1 (by decide))
              have HZ := Lib.hid (And.intro hwz (And.intro (F8.out.2.1.trans (hsz.below (Nat.le_refl _))) (And.intro hown hsets)))
              clear hwz hsz hown hsets z0 z1 z2 z3
              go_wp2_with fail
              refine ret_cell2 rfl rfl rfl HZ.out.1 Try.underlying24 rfl (by kernel_rfl) ?_
              refine ⟨⟨p, ?_, .inr ⟨⟨getN C.1, getN D.1, getN E.1, GG.1⟩, ?_, HI.out.2.2.1, by rw [HI.out.1]; rfl⟩⟩, HZ.out.2.1⟩
              · rw [HI.out.2.1]
                obtain ⟨oa8, c8, hv8, hst8⟩ := rs_own HZ.out.2.2.1
                simp only [Value.slice.injEq] at hv8
                obtain ⟨rfl, -, rfl⟩ := hv8
                exact hst8 HZ.out.2.2.2
              · rw [HC.out.2, HGG.out]
          · have h0 : leftN lq false = lq.length := rfl
            have hposN := List.length_pos_iff.2 hnil
            have hpos : (0 < lq.length) = True := by simp [hposN]
            clear hposN
            obtain ⟨A1, hA1⟩ : ∃ A1, A1 = rdB 2 lq false := ⟨_, rfl⟩
            obtain ⟨B1, hB1⟩ : ∃ B1, B1 = rdB 2 A1.2.1 A1.2.2 := ⟨_, rfl⟩
            obtain ⟨D1, hD1⟩ : ∃ D1, D1 = rdB ((getN B1.1 : Int) - 4) B1.2.1 B1.2.2 := ⟨_, rfl⟩
            have hS : rdSet lq false = ((getN A1.1, D1.1), D1.2) := by subst hD1; subst hB1; subst hA1; rfl
            obtain ⟨S1, hS1⟩ : ∃ S1, S1 = rdSet lq false := ⟨_, rfl⟩
            have HS1 := Lib.hid (And.intro hS1 (And.intro hnil (And.intro hA1 (And.intro hB1 (And.intro hD1 (show S1 = ((getN A1.1, D1.1), D1.2) from hS1.trans hS))))))
            have HM := Lib.hid (show rdM g w2 = lq.length + 1 from FL.out.1.m)
            clear hnil hS1 hS hA1 hB1 hD1 e1
            go_wp2_with fail
            refine (fleftN_any FL.out.1).mono ?_
            rintro e w3 ⟨rfl, hw⟩
            subst w3
            have hby1 : Bytes D1.1 ∧ D1.1.length ≤ 100000 ∧ (0 : Int) ≤ (getN A1.1 : Nat) ∧ ((getN A1.1 : Nat) : Int) ≤ 65535 ∧ getN B1.1 < 65536 := by
              have h0 := HS1.out
              have h1 := rdSet_le lq false
              have h2 := FL.out.1.le
              have h3 := rdSet_id (bad := false) FL.out.1.bytes
              have h4 := rdSet_by (bad := false) FL.out.1.bytes
              rw [← h0.1, h0.2.2.2.2.2] at h1 h3 h4
              dsimp only at h1 h3 h4
              have h6 : getN B1.1 < 65536 := by rw [h0.2.2.2.1]; refine getN_two ?_ (by omega); rw [h0.2.2.1]; exact rdB_rest _ _ _ FL.out.1.bytes
              exact ⟨h4, by omega, by omega, by omega, h6⟩
            have HBY := Lib.hid hby1
            clear hby1
            have c17 := f2_rd FL.out.1
            rw [← HS1.out.2.2.1] at c17
            have HC17 := Lib.hid c17
            clear c17
            go_wp2_with fail
            refine (HC17.out).mono ?_
            rintro e w3 ⟨rfl, hr17, hb17⟩
            have hk17 := FL.out.1.k5 hb17
            have F18 := Lib.hid (And.intro hr17 (And.intro (FL.out.2.1.but hb17 HN.out) (And.intro (FL.out.2.2.1.but hb17 (by simp; exact HE5.out.1.2)) (And.intro (Below.step FL.out.2.2.2.1 FL.out.2.2.2.1.size hb17 HN2.out) (And.intro (FL.out.2.2.2.2.1.keep (fun b hb => hb17.block b (World.ownsRow.lt FL.out.2.2.2.2.1 b hb).2 (by intro hm; simp at hm; exact FL.out.2.2.2.2.2.1.1 (hm ▸ hb)))) (And.intro FL.out.2.2.2.2.2.1 (And.intro (FL.out.2.2.2.2.2.2.1.keep hk17) (And.intro FL.out.2.2.2.2.2.2.2.1 (And.intro FL.out.2.2.2.2.2.2.2.2.1 (FL.out.2.2.2.2.2.2.2.2.2))))))))))
            clear FL
            clear hr17 hb17 hk17 HC17
            have c19 := f2_rd F18.out.1
            rw [← HS1.out.2.2.2.1] at c19
            have HC19 := Lib.hid c19
            clear c19
            go_wp2_with fail
            refine (HC19.out).mono ?_
            rintro e w4 ⟨rfl, hr19, hb19⟩
            have hk19 := F18.out.1.k5 hb19
            have F20 := Lib.hid (And.intro hr19 (And.intro (F18.out.2.1.but hb19 HN.out) (And.intro (F18.out.2.2.1.but hb19 (by simp; exact HE5.out.1.2)) (And.intro (Below.step F18.out.2.2.2.1 F18.out.2.2.2.1.size hb19 HN2.out) (And.intro (F18.out.2.2.2.2.1.keep (fun b hb => hb19.block b (World.ownsRow.lt F18.out.2.2.2.2.1 b hb).2 (by intro hm; simp at hm; exact F18.out.2.2.2.2.2.1.1 (hm ▸ hb)))) (And.intro F18.out.2.2.2.2.2.1 (And.intro (F18.out.2.2.2.2.2.2.1.keep hk19) (And.intro F18.out.2.2.2.2.2.2.2.1 (And.intro F18.out.2.2.2.2.2.2.2.2.1 (F18.out.2.2.2.2.2.2.2.2.2))))))))))
            clear F18
            clear hr19 hb19 hk19 HC19
            have hlt : getN B1.1 < 65536 := HBY.out.2.2.2.2
            have hw1 : IntKind.i64.wrap ((getN B1.1 : Int) - 4) = (getN B1.1 : Int) - 4 := IntWalk.i64_in _ (by omega)
            go_wp2_with fail
            have hd := (Below.refl w4.heap.size w4).drew
            refine wp_region_T 11 (PkS b5 #[.int .i64 (getN C.1 : Nat), .int .i64 (getN D.1 : Nat), .int .i64 (getN E.1 : Nat), v]) (by kernel_rfl) ?_
            have F21 := Lib.hid (And.intro (F20.out.1.on hd) (And.intro (F20.out.2.1.on hd) (And.intro (F20.out.2.2.1.on hd) (And.intro (bcall F20.out.2.2.2.1 (Nat.le_refl _) hd) (And.intro (F20.out.2.2.2.2.1.below hd) (And.intro F20.out.2.2.2.2.2.1 (And.intro (F20.out.2.2.2.2.2.2.1.keep (.of_below hd)) (And.intro F20.out.2.2.2.2.2.2.2.1 (And.intro F20.out.2.2.2.2.2.2.2.2.1 (F20.out.2.2.2.2.2.2.2.2.2))))))))))
            clear F20
            clear hd
            generalize w4.drew = Wd at *
            refine T_reads [0, 1, 2, 3, 4, 5] (g := 6) rfl (by kernel_rfl) F21.out.2.2.1 (fun _ _ d _ _ h => by cases d <;> exact h) ?_
            simp only [pick, List.getD_cons_zero, List.getD_cons_succ]
            iterate 6 ((with_reducible refine wpRead_step (fun K hK => ?_)); go_simp; first | ((with_reducible refine hK _ ?_); clear hK K) | (apply Exists.intro; (with_reducible refine ⟨fun w' hw' => ?_, hK _ ?_⟩); (obtain ⟨f0, f1, f2, f3⟩ := hw'.cells; go_simp; first | exact rfl | exact ⟨rfl, rfl⟩); clear hK K))
            with_reducible refine wpRead_nil ?_
            clear hw1 hlt
            refine T_one 6 (by kernel_rfl) ?_
            simp only [pick, List.getD_cons_zero, List.getD_cons_succ]
            have c3 := fbytes_any F21.out.1 ((getN B1.1 : Int) - 4)
            rw [← HS1.out.2.2.2.2.1] at c3
            have HC := Lib.hid c3
            clear c3
            go_wp2_with fail
            refine (HC.out).mono ?_
            rintro e w5 ⟨⟨v5, rfl, ho5⟩, hr5, hb5⟩
            obtain ⟨oa3, c3, rfl, hs3⟩ := b5_own ho5
            have hk5 := F21.out.1.k5 hb5
            have F22 := Lib.hid (And.intro hr5 (And.intro (F21.out.2.1.but hb5 HN.out) (And.intro (F21.out.2.2.1.but hb5 (by simp; exact HE5.out.1.2)) (And.intro (Below.step F21.out.2.2.2.1 F21.out.2.2.2.1.size hb5 HN2.out) (And.intro (F21.out.2.2.2.2.1.keep (fun b hb => hb5.block b (World.ownsRow.lt F21.out.2.2.2.2.1 b hb).2 (by intro hm; simp at hm; exact F21.out.2.2.2.2.2.1.1 (hm ▸ hb)))) (And.intro F21.out.2.2.2.2.2.1 (And.intro (F21.out.2.2.2.2.2.2.1.keep hk5) (And.intro F21.out.2.2.2.2.2.2.2.1 (And.intro F21.out.2.2.2.2.2.2.2.2.1 (And.intro F21.out.2.2.2.2.2.2.2.2.2 (hs3)))))))))))
            clear F21
            clear hr5 hb5 hk5 hs3 ho5 HC
            go_wp2_with fail
            refine ⟨fun _ => F22.out.2.2.1, ?_⟩
            refine T_one 7 (by kernel_rfl) ?_
            simp only [pick, List.getD_cons_zero, List.getD_cons_succ]
            go_wp2_with fail
            refine ⟨fun _ => F22.out.2.2.1, ?_⟩
            refine T_one 8 (by kernel_rfl) ?_
            simp only [pick, List.getD_cons_zero, List.getD_cons_succ]
            have hb4 := (Below.refl w5.heap.size w5).alloc (Nat.le_refl _) (.cells #[.int .i64 (getN A1.1 : Nat), .slice oa3 D1.1.length c3] 51)
            have ho4 : RSt.Own (w5.alloc (.cells #[.int .i64 (getN A1.1 : Nat), .slice oa3 D1.1.length c3] 51)) w.heap.size (.slice (some ⟨w5.heap.size, 0, none⟩) 1 1) [(((getN A1.1 : Nat) : Int), (⟨oa3, D1.1.length, c3, D1.1⟩ : SlV Nat))] := ⟨rfl, .inr ⟨w5.heap.size, 1, #[.int .i64 (getN A1.1 : Nat), .slice oa3 D1.1.length c3], rfl, F22.out.2.2.2.1.size, hnew _ _, Nat.le_refl _, by unfold maxLen; omega, rfl, rfl⟩⟩
            have F23 := Lib.hid (And.intro (F22.out.1.on hb4) (And.intro (F22.out.2.1.on hb4) (And.intro (F22.out.2.2.1.on hb4) (And.intro (bcall F22.out.2.2.2.1 (Nat.le_refl _) hb4) (And.intro (F22.out.2.2.2.2.1.below hb4) (And.intro F22.out.2.2.2.2.2.1 (And.intro (F22.out.2.2.2.2.2.2.1.keep (.of_below hb4)) (And.intro F22.out.2.2.2.2.2.2.2.1 (And.intro F22.out.2.2.2.2.2.2.2.2.1 (And.intro F22.out.2.2.2.2.2.2.2.2.2.1 (And.intro (F22.out.2.2.2.2.2.2.2.2.2.2.below hb4) (ho4))))))))))))
            clear F22
            clear hb4 ho4
            go_wp2_with fail
            refine ⟨fun _ => F23.out.2.2.1, ?_⟩
            generalize hq4 : w5.heap.size = q9 at *
            clear hq4
            generalize w5.alloc (.cells #[.int .i64 (getN A1.1 : Nat), .slice oa3 D1.1.length c3] 51) = w6 at *
            refine T_one 9 (by kernel_rfl) ?_
            simp only [pick, List.getD_cons_zero, List.getD_cons_succ]
            obtain ⟨oa9, c9, hv9, -, -, hs9, -⟩ := F23.out.2.2.2.2.2.2.2.2.2.2.2.sl
            simp only [Value.slice.injEq] at hv9
            obtain ⟨rfl, -, rfl⟩ := hv9
            have hlen9 : hs.length ≤ 100000 := by have := F23.out.2.2.2.2.2.2.2.2.2.1; omega
            have HS9 := Lib.hid (And.intro hs9 hlen9)
            clear hs9 hlen9
            go_wp2_with (at_builtin; refine halt ?_)
            refine Halted.go ?_
            refine Rep.append_list2 T22 rfl _ _ rfl (base := w.heap.size) rfl F23.out.2.2.2.2.1 rfl HS9.out.1 (by simp) (by have := HS9.out.2; unfold maxLen; simp; omega) (by have := HS9.out.2; simp; omega) F23.out.2.2.2.1.size ?_
            intro v7 w7 ho7 hb7 he7
            have hk7 := own_keep5 F23.out.2.2.2.2.1 hb7.size (fun bad h1 h2 => (he7 bad h1 h2).2)
            have hg7 := he7 g F23.out.2.2.2.2.2.1.1 F23.out.1.lt
            have hp7 := he7 b5 F23.out.2.2.2.2.2.1.2.1 (lt_of_blk F23.out.2.2.1)
            have hw7 := he7 w.heap.size F23.out.2.2.2.2.2.1.2.2 (lt_of_blk F23.out.2.1)
            have F24 := Lib.hid (And.intro (F23.out.1.keep hk7 hg7.2) (And.intro (PkS.same hw7.2 F23.out.2.1) (And.intro (PkS.same hp7.2 F23.out.2.2.1) (And.intro (F23.out.2.2.2.1.trans hb7) (And.intro ho7 (And.intro (And.intro hg7.1 (And.intro hp7.1 hw7.1)) (And.intro ((F23.out.2.2.2.2.2.2.1.keep hk7).snoc (x := (((getN A1.1 : Nat) : Int), (⟨oa3, D1.1.length, c3, D1.1⟩ : SlV Nat))) (And.intro (F23.out.2.2.2.2.2.2.2.2.2.2.1.keep hk7) (And.intro HBY.out.1 (And.intro HBY.out.2.1 (And.intro HBY.out.2.2.1 HBY.out.2.2.2.1))))) (And.intro F23.out.2.2.2.2.2.2.2.1 (And.intro F23.out.2.2.2.2.2.2.2.2.1 (F23.out.2.2.2.2.2.2.2.2.2.1))))))))))
            clear F23
            clear ho7 hb7 he7 hk7 hg7 hp7 hw7 HS9
            go_wp2_with fail
            refine ⟨fun _ => F24.out.2.2.1, ?_⟩
            refine T_one 10 (by kernel_rfl) ?_
            simp only [pick, List.getD_cons_zero, List.getD_cons_succ]
            go_wp2_with fail
            refine ⟨fun _ => F24.out.2.2.1, ?_⟩
            refine T_one 11 (by kernel_rfl) ?_
            simp only [pick, List.getD_cons_zero, List.getD_cons_succ]
            obtain ⟨oa5, n5, c5, rfl⟩ : ∃ oa n c, v7 = .slice oa n c := by
              obtain ⟨oa, c, h, -⟩ := rs_own F24.out.2.2.2.2.1
              exact ⟨_, _, _, h⟩
            have f3 : w7.frozen? ⟨b5, 3, none⟩ = false := free_of F24.out.2.2.1
            obtain ⟨z0, z1, z2, z3⟩ := F24.out.2.2.1.cells
            have hset : SetB w7 (w7.setCell ⟨b5, 3, none⟩ (.slice oa5 n5 c5)) b5 (.cells #[.int .i64 (getN C.1 : Nat), .int .i64 (getN D.1 : Nat), .int .i64 (getN E.1 : Nat), .slice oa5 n5 c5] 24) := (SetB.self F24.out.2.2.1).store (lt_of_blk F24.out.2.2.1) (.slice oa5 n5 c5)
            have h5z : PkS b5 #[.int .i64 (getN C.1 : Nat), .int .i64 (getN D.1 : Nat), .int .i64 (getN E.1 : Nat), .slice oa5 n5 c5] (w7.setCell ⟨b5, 3, none⟩ (.slice oa5 n5 c5)) := setCell_blk F24.out.2.2.1 3 (.slice oa5 n5 c5)
            have hk6 : Keep5 w7 (w7.setCell ⟨b5, 3, none⟩ (.slice oa5 n5 c5)) := .of_set hset F24.out.2.2.1 (by decide)
            have F25 := Lib.hid (And.intro (F24.out.1.keep hk6 (hset.other (Ne.symm HE5.out.1.2))) (And.intro (PkS.same (hset.other (Ne.symm HE5.out.1.1)) F24.out.2.1) (And.intro h5z (And.intro (F24.out.2.2.2.1.trans (hset.below HE5.out.2)) (And.intro (F24.out.2.2.2.2.1.keep (fun b hb => hset.other (fun e => F24.out.2.2.2.2.2.1.2.1 (e ▸ hb)))) (And.intro F24.out.2.2.2.2.2.1 (And.intro (F24.out.2.2.2.2.2.2.1.keep hk6) (And.intro F24.out.2.2.2.2.2.2.2.1 (And.intro F24.out.2.2.2.2.2.2.2.2.1 (F24.out.2.2.2.2.2.2.2.2.2))))))))))
            clear F24
            clear hset h5z hk6
            go_wp2_with fail
            refine ⟨fun h => absurd rfl h, ?_⟩
            refine T_done (by kernel_rfl) ?_ _
            clear z0 z1 z2 z3 f3
            generalize (w7.setCell ⟨b5, 3, none⟩ (.slice oa5 n5 c5)) = w8 at *
            have hDS : S1.2 = D1.2 ∧ S1.1.1 = getN A1.1 ∧ S1.1.2 = D1.1 := by rw [HS1.out.2.2.2.2.2]; exact ⟨rfl, rfl, rfl⟩
            have hm6 := F25.out.1.m
            obtain ⟨f1, rfl⟩ : ∃ f1, f = f1 + 1 := ⟨f - 1, by have := F25.out.2.2.2.2.2.2.2.2.1; rcases this with h | h; cases h; omega⟩
            have hG := F25.out.2.2.2.2.2.2.2.1
            have hst := gs_step HS1.out.2.1 f1
            rw [← HS1.out.1, hDS.1] at hst
            rw [hst] at hG
            have hlt := rdSet_lt HS1.out.2.1
            rw [← HS1.out.1, hDS.1] at hlt
            have hpos2 := List.length_pos_iff.2 HS1.out.2.1
            have hf : D1.2.2 = true ∨ D1.2.1.length < f1 := by
              rcases hlt with h | h
              · exact .inl h
              · have := F25.out.2.2.2.2.2.2.2.2.1
                rcases this with h1 | h1
                · cases h1
                · exact .inr (by omega)
            have hc : (hs ++ [(((getN A1.1 : Nat) : Int), (⟨oa3, D1.1.length, c3, D1.1⟩ : SlV Nat))]).length + leftN D1.2.1 D1.2.2 ≤ 100000 := by
              have h1 : hs.length + lq.length ≤ 100000 := F25.out.2.2.2.2.2.2.2.2.2
              rw [List.length_append]
              unfold leftN
              rcases hlt with h | h
              · rw [h]; simp; omega
              · split <;> simp <;> omega
            have hGl : GG.1.map (fun x => pj (toS x)) = (hs ++ [(((getN A1.1 : Nat) : Int), (⟨oa3, D1.1.length, c3, D1.1⟩ : SlV Nat))]).map pj ++ (gs f1 D1.2.1 D1.2.2).1.map (fun x => pj (toS x)) ∧ GG.2 = (gs f1 D1.2.1 D1.2.2).2 := by
              refine ⟨?_, hG.2⟩
              rw [hG.1]
              simp [pj, toS, hDS.2.1, hDS.2.2]
            have hmm : rdM g w8 < rdM g w2 := by
              rw [HM.out, hm6]
              rcases hlt with h | h
              · rw [h]; simp
              · split <;> omega
            have HEND := Lib.hid (And.intro hf (And.intro hc (And.intro hGl hmm)))
            clear hDS hm6 hG hst hlt hpos2 hf hc hGl hmm
            have e1 := F25.out.1.cells
            obtain ⟨d1, l8, b8⟩ := D1
            dsimp only at *
            cases b8 with
            | true =>
              have hbad : (gs (E.2.1.length + 1) E.2.1 E.2.2).2 = true := by rw [← HGG.out, HEND.out.2.2.1.2, gs_bad]
              go_wp2_with (with_reducible refine halt_store 24 rfl ?_)
              refine Halted.go ?_
              refine store_whole rfl 24 _ _ rfl w.heap.size #[.int .i64 0, .int .i64 0, .int .i64 0, .slice none 0 0] rfl rfl F25.out.2.1 rfl (by kernel_rfl) (by simp [Value.oneCell']) ?_
              intro Wz hwz hsz
              have HZ := Lib.hid (And.intro hwz (Below.trans F25.out.2.2.2.1 (hsz.below (Nat.le_refl _))))
              clear hwz hsz
              go_wp2_with fail
              refine ret_cell2 rfl rfl rfl HZ.out.1 Try.underlying24 rfl (by kernel_rfl) ?_
              exact ⟨⟨⟨0, 0, 0, ⟨none, 0, 0, []⟩⟩, sts_nil _, .inl ⟨(HG2.out.trans (if_pos (.inl hbad))), rfl, rfl⟩⟩, HZ.out.2⟩
            | false =>
              go_wp2_with fail
              exact ⟨⟨f1, l8, false, hs ++ [(((getN A1.1 : Nat) : Int), (⟨oa3, d1.length, c3, d1⟩ : SlV Nat))], .slice oa5 n5 c5, F25.out.1, F25.out.2.1, F25.out.2.2.1, F25.out.2.2.2.1, F25.out.2.2.2.2.1, F25.out.2.2.2.2.2.1, F25.out.2.2.2.2.2.2.1, HEND.out.2.2.1, HEND.out.1, HEND.out.2.1⟩, HEND.out.2.2.2⟩
    · have hBi : (getN B.1 : Int) ≠ n := by omega
      go_wp2_with (with_reducible refine halt_store 24 rfl ?_)
      refine Halted.go ?_
      refine store_whole rfl 24 _ _ rfl w.heap.size #[.int .i64 0, .int .i64 0, .int .i64 0, .slice none 0 0] rfl rfl F5.out.2.1 rfl (by kernel_rfl) (by simp [Value.oneCell']) ?_
      intro Wz hwz hsz
      have HZ := Lib.hid (And.intro hwz (Below.trans F5.out.2.2 (hsz.below (Nat.le_refl _))))
      clear hwz hsz
      go_wp2_with fail
      refine ret_cell2 rfl rfl rfl HZ.out.1 Try.underlying24 rfl (by kernel_rfl) ?_
      exact ⟨⟨⟨0, 0, 0, ⟨none, 0, 0, []⟩⟩, sts_nil _, .inl ⟨(HG.out.trans (if_pos (.inr (by rw [HH.out.2.2.2]; exact hBn)))), rfl, rfl⟩⟩, HZ.out.2⟩
  · go_wp2_with (with_reducible refine halt_store 24 rfl ?_)
    refine Halted.go ?_
    refine store_whole rfl 24 _ _ rfl w.heap.size #[.int .i64 0, .int .i64 0, .int .i64 0, .slice none 0 0] rfl rfl F2.out.2.1 rfl (by kernel_rfl) (by simp [Value.oneCell']) ?_
    intro Wz hwz hsz
    have HZ := Lib.hid (And.intro hwz (Below.trans F2.out.2.2 (hsz.below (Nat.le_refl _))))
    clear hwz hsz
    go_wp2_with fail
    refine ret_cell2 rfl rfl rfl HZ.out.1 Try.underlying24 rfl (by kernel_rfl) ?_
    exact ⟨⟨⟨0, 0, 0, ⟨none, 0, 0, []⟩⟩, sts_nil _, .inl ⟨(HG.out.trans (if_pos (.inl hA10))), rfl, rfl⟩⟩, HZ.out.2⟩
end Go.Proofs.Ytjjhnnnpikfjpaa
