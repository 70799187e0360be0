/- The reference's table: Set. -/
import Derived.Test.YtfmehahjjgalfaaDg
import Derived.Test.YtfmehahjjgalfaaSc
namespace Go.Proofs.Ytfmehahjjgalfaa
open Go.RowKit

theorem RefT.len {w : World} {base x : Nat} {L : List Ov} (H : RefT w base x L) : ∃ a c, w.heap[x]? = some (.cells #[.slice a L.length c] 55 (0, 0)) ∧ ROv.Sl w a L.length c L ∧ L.length ≤ c ∧ c ≤ maxLen ∧ (a = none → c = 0) := by
  obtain ⟨h1, ⟨v, h2, h3⟩, h4⟩ := H
  rcases h3.cases with ⟨rfl, rfl⟩ | ⟨g, cap, rfl, hg, hgl, hl1, hl2, hr, -⟩
  · exact ⟨none, 0, h2, Rep.sl_nil, Nat.le_refl _, by unfold maxLen; omega, fun _ => rfl⟩
  · exact ⟨_, cap, h2, ⟨rfl, by omega, fun _ => ⟨g, 0, rfl, hr⟩⟩, hl1, hl2, fun e => by cases e⟩
structure RSet (w w' : World) (base x : Nat) (L : List Ov) (o : Ov) : Prop where
  no : setE L o ≠ 0 → RefT w' base x L
  yes : setE L o = 0 → ∃ b', w.heap.size ≤ b' ∧ RefT w' b' x (setO L o)
  but : But w w' [x]
set_option maxRecDepth 100000 in
set_option maxHeartbeats 4000000 in
theorem rtset_any {w : World} {base x : Nat} {L : List Ov} (H : RefT w base x L) (hlen : L.length ≤ 4611686) {o : Ov} (ha : o.ad < 4294967296) : Calls Try.prog 33 #[.pointer (some ⟨x, 0, none⟩), o.v] w fun e w' => e = .returned (.int .i64 (setE L o)) ∧ RSet w w' base x L o := by
  have hal := (Below.refl w.heap.size w).alloc (Nat.le_refl _) (.cells #[.int .i64 o.r, .int .u32 (o.ad : Int), .int .i64 o.ln, .int .i64 o.id, .int .i64 o.till] 62)
  have hos : OvS w.heap.size o (w.alloc (.cells #[.int .i64 o.r, .int .u32 (o.ad : Int), .int .i64 o.ln, .int .i64 o.id, .int .i64 o.till] 62)) := hnew _ _
  have HF := Lib.hid (rtfind_any (H.keep hal) o.key)
  have F0 := Lib.hid (And.intro hal (And.intro (H.keep hal) hos))
  have HCK := Lib.hid (fun w => rcheck_any o.ad o.ln ha w)
  have HX := Lib.hid H.lx
  obtain ⟨z0, z1, z2, z3, z4⟩ := hos.cells
  have HSR := Lib.hid (set_ref H.ord o)
  have HIX := Lib.hid (idx_le L o.key)
  have HOS := Lib.hid (H.ord.set o)
  unfold pfx Ov.key at HF
  clear hal hos
  obtain ⟨hs, hhs⟩ : ∃ hs, hasO L o.key = hs := ⟨_, rfl⟩
  obtain ⟨ix, hix⟩ : ∃ ix, idxO L o.key = ix := ⟨_, rfl⟩
  have HE := Lib.hid (show setE L o = (if okP o.ad o.ln then (if !hs && decide (4096 ≤ L.length) then 2 else 0) else 20) from by unfold setE; rw [hhs])
  rw [show hasO L (o.ad, o.ln) = hs from hhs, show idxO L (o.ad, o.ln) = ix from hix] at HF
  rw [hhs, hix] at HSR
  rw [hix] at HIX
  have HHS := Lib.hid (show hs = true → ix < L.length from fun e => hix ▸ (get_at H.ord (hhs.trans e)).1)
  obtain ⟨ok, hok⟩ : ∃ ok, okP o.ad o.ln = ok := ⟨_, rfl⟩
  rw [hok] at HE
  have hck : ∀ w, Calls Try.prog 70 #[.agg #[.int .u32 (o.ad : Int), .int .i64 o.ln]] w fun e w' => e = .returned (.bool ok) ∧ Below w.heap.size w w' := fun w => by
    have := HCK.out w
    rw [hok] at this
    exact this
  have HC := Lib.hid hck
  clear hhs hix hok hck HCK H
  unfold Ov.v
  go_enter Try.func33, Try.ntmps33
  go_wp2_with fail
  refine HF.out.mono ?_
  rintro e W1 ⟨rfl, hb⟩
  have F1 := Lib.hid (And.intro (bcall F0.out.1 (Nat.le_refl _) hb) (And.intro (F0.out.2.1.keep hb) (F0.out.2.2.on (hb.block _ (lt_of_blk F0.out.2.2)))))
  clear hb HF F0 z0 z1 z2 z3 z4
  obtain ⟨z0, z1, z2, z3, z4⟩ := OvS.cells F1.out.2.2
  go_wp2_with fail
  refine (HC.out _).mono ?_
  rintro e W2 ⟨rfl, hb⟩
  have F2 := Lib.hid (And.intro (bcall F1.out.1 (Nat.le_refl _) hb) (And.intro (F1.out.2.1.keep hb) (F1.out.2.2.on (hb.block _ (lt_of_blk F1.out.2.2)))))
  clear hb HC F1 z0 z1 z2 z3 z4
  cases ok with
  | false =>
    go_wp2_with fail
    go_ret
    exact ⟨ret_int HE.out.symm, fun _ => F2.out.2.1, (fun h => by rw [HE.out] at h; simp at h), But.of_below F2.out.1 _⟩
  | true =>
    obtain ⟨a, c, h0, hsl, hnc, hcm, hn0⟩ := F2.out.2.1.len
    obtain ⟨n, hn⟩ : ∃ n, L.length = n := ⟨_, rfl⟩
    rw [hn] at h0 hsl hnc HE HIX HHS hlen
    have c0 : W2.cell? ⟨x, 0, none⟩ = some (.slice a n c) := cell_of h0 rfl
    have F3 := Lib.hid (And.intro h0 (And.intro hsl (And.intro hnc (And.intro hcm hn0))))
    have HN := Lib.hid hn
    clear h0 hsl hnc hcm hn0 hn
    by_cases hfull : hs = false ∧ 4096 ≤ n
    · obtain ⟨rfl, h4⟩ := hfull
      have h4t : ((4096 : Int) ≤ (n : Int)) = True := by simp; omega
      have hE2 : setE L o = 2 := by rw [HE.out]; simp [h4]
      have HE2 := Lib.hid hE2
      clear h4 hE2
      go_wp2_with fail
      go_ret
      exact ⟨ret_int HE2.out.symm, fun _ => F2.out.2.1, (fun h => by rw [HE2.out] at h; cases h), But.of_below F2.out.1 _⟩
    have hE0 : setE L o = 0 := by
      rw [HE.out]
      cases hs with
      | true => rfl
      | false =>
        have : ¬ 4096 ≤ n := fun h => hfull ⟨rfl, h⟩
        simp [this]
    have HE0 := Lib.hid hE0
    have hway : (hs = true) ∨ (hs = false ∧ ((4096 : Int) ≤ (n : Int)) = False) := by
      cases hs with
      | true => exact .inl rfl
      | false => right; refine ⟨rfl, ?_⟩; have : ¬ 4096 ≤ n := fun h => hfull ⟨rfl, h⟩; simp; omega
    clear hfull hE0
    have hix0 := HIX.out
    have hi0 : ((0 : Int) ≤ (ix : Int)) = True := by simp
    have hixn : ((ix : Int) ≤ (n : Int)) = True := by simp; omega
    rcases hway with rfl | ⟨rfl, h4f⟩
    · have hi1 := HHS.out rfl
      obtain ⟨sa, hr1, hr2, hst, hsn, hsb⟩ := Rep.cut_to T53 F3.out.2.1 F3.out.2.2.1 F3.out.2.2.2.2 hix0
      obtain ⟨j, hj⟩ : ∃ j : Nat, ix + 1 = j := ⟨_, rfl⟩
      have hw3 : wrap64 ((ix : Int) + 1) = (j : Int) := by rw [wrapS hi1 (by unfold maxLen; omega), hj]
      have hje : ((ix : Int) + 1) = (j : Int) := by omega
      have hjn : j ≤ n := by omega
      have hj0 : ((0 : Int) ≤ (j : Int)) = True := by simp
      have hjn2 : ((j : Int) ≤ (n : Int)) = True := by simp; omega
      have HSJ := Lib.hid (show L.take ix ++ [o] ++ L.drop j = setO L o from by rw [← HSR.out, if_pos rfl, hj])
      clear hj
      have hal0 := (Below.refl W2.heap.size W2).alloc (Nat.le_refl _) (.cells #[] 62)
      have hem : ROv.Own (W2.alloc (.cells #[] 62)) W2.heap.size (.slice (some ⟨W2.heap.size, 0, none⟩) 0 0) ([] : List Ov) := Rep.own_empty (hnew _ _) (Nat.le_refl _)
      have c1 : (W2.alloc (.cells #[] 62)).cell? ⟨x, 0, none⟩ = some (.slice a n c) := cell_of ((hal0.block _ (lt_of_blk F3.out.1)).trans F3.out.1) rfl
      have G1 := Lib.hid (And.intro hal0 (And.intro hem (And.intro (hst.keep hal0) hsn)))
      clear hal0 hem hst hsn hsb
      go_wp2_with (at_builtin; refine halt ?_)
      refine Halted.go ?_
      clear hr1 hr2 c0 c1
      generalize W2.alloc (.cells #[] 62) = W3 at *
      refine Rep.append_list T53 rfl _ _ rfl rfl G1.out.2.1 (L := []) (M := L.take ix) rfl G1.out.2.2.1 G1.out.2.2.2 (by rw [List.length_nil]; unfold maxLen; omega) (by rw [List.length_nil]; omega) G1.out.1.size ?_
      intro v4 W4 hown4 hb4 _
      rw [List.nil_append] at hown4
      obtain ⟨a4, c4, rfl, -, -⟩ := hown4.sl0
      have hlt4 : (L.take ix).length = ix := by rw [List.length_take, HN.out]; omega
      rw [hlt4] at hown4 ⊢
      have hbb := G1.out.1.trans hb4
      have G2 := Lib.hid (And.intro hbb hown4)
      obtain ⟨z0, z1, z2, z3, z4⟩ := OvS.cells (F2.out.2.2.on (hbb.block _ (lt_of_blk F2.out.2.2)))
      have HT4 := Lib.hid hlt4
      clear hlt4 hown4 hb4 hbb G1
      go_wp2_with (at_builtin; refine halt ?_)
      refine Halted.go ?_
      have hal := (Below.refl W4.heap.size W4).alloc (Nat.le_refl _) (.cells #[.int .i64 o.r, .int .u32 (o.ad : Int), .int .i64 o.ln, .int .i64 o.id, .int .i64 o.till] 62)
      refine Rep.append_one T53 rfl _ _ rfl rfl (G2.out.2.below hal) o _ 1 rfl (hnew _ _) (n := ix) HT4.out (by unfold maxLen; omega) (by show (ix + 1) * 40 ≤ _; omega) (Nat.le_trans G2.out.1.size hal.size) ?_
      intro v5 W5 hown5 hb5 _
      obtain ⟨a5, c5, rfl, -, -⟩ := hown5.sl0
      have hlt5 : (L.take ix ++ [o]).length = ix + 1 := by rw [List.length_append, HT4.out]; rfl
      obtain ⟨n5, hn5⟩ : ∃ n5, ix + 1 = n5 := ⟨_, rfl⟩
      rw [hlt5, hn5] at hown5 ⊢
      have hbb := G2.out.1.trans ((hal.mono G2.out.1.size).trans hb5)
      have G3 := Lib.hid (And.intro hbb hown5)
      have H5 := Lib.hid (And.intro hlt5 hn5)
      have hx5 := (hbb.block _ (lt_of_blk F3.out.1)).trans F3.out.1
      have c0 : W5.cell? ⟨x, 0, none⟩ = some (.slice a n c) := cell_of hx5 rfl
      obtain ⟨sb, hr1, hr2, hst, hsn, hsb⟩ := Rep.cut_from T53 (F3.out.2.1.keep hbb) F3.out.2.2.1 F3.out.2.2.2.2 hjn
      have G4 := Lib.hid (And.intro hst (And.intro hsn hx5))
      clear z0 z1 z2 z3 z4 hlt5 hn5 hown5 hb5 hbb G2 hal hst hsn hx5 hsb
      go_wp2_with (at_builtin; refine halt ?_)
      refine Halted.go ?_
      clear hr1 hr2
      refine Rep.append_list T53 rfl _ _ rfl rfl G3.out.2 (M := L.drop j) rfl G4.out.1 G4.out.2.1 (by rw [H5.out.1]; unfold maxLen; omega) (by rw [H5.out.1]; have := H5.out.2; omega) G3.out.1.size ?_
      intro v6 W6 hown6 hb6 _
      obtain ⟨a6, c6, rfl, -, -⟩ := hown6.sl0
      rw [HSJ.out] at hown6 ⊢
      obtain ⟨n6, hn6⟩ : ∃ n6, (setO L o).length = n6 := ⟨_, rfl⟩
      rw [hn6] at hown6 ⊢
      clear hn6
      have hbb := G3.out.1.trans hb6
      have hx6 : W6.heap[x]? = some (.cells #[.slice a n c] 55 (0, 0)) := (hbb.block _ (lt_of_blk F3.out.1)).trans F3.out.1
      have f6 : W6.frozen? ⟨x, 0, none⟩ = false := free_of hx6
      have e6 : W6.cell? ⟨x, 0, none⟩ = some (.slice a n c) := cell_of hx6 rfl
      obtain ⟨hR, hbt⟩ := RefT.put hx6 (lt_of_blk F3.out.1) hown6 HOS.out rfl
      have G5 := Lib.hid (show RSet w (W6.setCell ⟨x, 0, none⟩ (.slice a6 n6 c6)) base x L o from ⟨fun h => absurd HE0.out h, fun _ => ⟨_, F2.out.1.size, hR⟩, (But.of_below (F2.out.1.trans (hbb.mono F2.out.1.size)) [x]).trans hbt⟩)
      clear hown6 hb6 hbb hx6 hR hbt
      go_wp2_with fail
      go_ret
      exact ⟨ret_int HE0.out.symm, G5.out⟩
    ·
      obtain ⟨sa, hr1, hr2, hst, hsn, hsb⟩ := Rep.cut_to T53 F3.out.2.1 F3.out.2.2.1 F3.out.2.2.2.2 hix0
      have hjn : ix ≤ n := hix0
      have HSJ := Lib.hid (show L.take ix ++ [o] ++ L.drop ix = setO L o from by rw [← HSR.out, if_neg (by simp), Nat.add_zero])
      have hal0 := (Below.refl W2.heap.size W2).alloc (Nat.le_refl _) (.cells #[] 62)
      have hem : ROv.Own (W2.alloc (.cells #[] 62)) W2.heap.size (.slice (some ⟨W2.heap.size, 0, none⟩) 0 0) ([] : List Ov) := Rep.own_empty (hnew _ _) (Nat.le_refl _)
      have c1 : (W2.alloc (.cells #[] 62)).cell? ⟨x, 0, none⟩ = some (.slice a n c) := cell_of ((hal0.block _ (lt_of_blk F3.out.1)).trans F3.out.1) rfl
      have G1 := Lib.hid (And.intro hal0 (And.intro hem (And.intro (hst.keep hal0) hsn)))
      clear hal0 hem hst hsn hsb
      go_wp2_with (at_builtin; refine halt ?_)
      refine Halted.go ?_
      clear hr1 hr2 c0 c1
      generalize W2.alloc (.cells #[] 62) = W3 at *
      refine Rep.append_list T53 rfl _ _ rfl rfl G1.out.2.1 (L := []) (M := L.take ix) rfl G1.out.2.2.1 G1.out.2.2.2 (by rw [List.length_nil]; unfold maxLen; omega) (by rw [List.length_nil]; omega) G1.out.1.size ?_
      intro v4 W4 hown4 hb4 _
      rw [List.nil_append] at hown4
      obtain ⟨a4, c4, rfl, -, -⟩ := hown4.sl0
      have hlt4 : (L.take ix).length = ix := by rw [List.length_take, HN.out]; omega
      rw [hlt4] at hown4 ⊢
      have hbb := G1.out.1.trans hb4
      have G2 := Lib.hid (And.intro hbb hown4)
      obtain ⟨z0, z1, z2, z3, z4⟩ := OvS.cells (F2.out.2.2.on (hbb.block _ (lt_of_blk F2.out.2.2)))
      have HT4 := Lib.hid hlt4
      clear hlt4 hown4 hb4 hbb G1
      go_wp2_with (at_builtin; refine halt ?_)
      refine Halted.go ?_
      have hal := (Below.refl W4.heap.size W4).alloc (Nat.le_refl _) (.cells #[.int .i64 o.r, .int .u32 (o.ad : Int), .int .i64 o.ln, .int .i64 o.id, .int .i64 o.till] 62)
      refine Rep.append_one T53 rfl _ _ rfl rfl (G2.out.2.below hal) o _ 1 rfl (hnew _ _) (n := ix) HT4.out (by unfold maxLen; omega) (by show (ix + 1) * 40 ≤ _; omega) (Nat.le_trans G2.out.1.size hal.size) ?_
      intro v5 W5 hown5 hb5 _
      obtain ⟨a5, c5, rfl, -, -⟩ := hown5.sl0
      have hlt5 : (L.take ix ++ [o]).length = ix + 1 := by rw [List.length_append, HT4.out]; rfl
      obtain ⟨n5, hn5⟩ : ∃ n5, ix + 1 = n5 := ⟨_, rfl⟩
      rw [hlt5, hn5] at hown5 ⊢
      have hbb := G2.out.1.trans ((hal.mono G2.out.1.size).trans hb5)
      have G3 := Lib.hid (And.intro hbb hown5)
      have H5 := Lib.hid (And.intro hlt5 hn5)
      have hx5 := (hbb.block _ (lt_of_blk F3.out.1)).trans F3.out.1
      have c0 : W5.cell? ⟨x, 0, none⟩ = some (.slice a n c) := cell_of hx5 rfl
      obtain ⟨sb, hr1, hr2, hst, hsn, hsb⟩ := Rep.cut_from T53 (F3.out.2.1.keep hbb) F3.out.2.2.1 F3.out.2.2.2.2 hjn
      have G4 := Lib.hid (And.intro hst (And.intro hsn hx5))
      clear z0 z1 z2 z3 z4 hlt5 hn5 hown5 hb5 hbb G2 hal hst hsn hx5 hsb
      go_wp2_with (at_builtin; refine halt ?_)
      refine Halted.go ?_
      clear hr1 hr2
      refine Rep.append_list T53 rfl _ _ rfl rfl G3.out.2 (M := L.drop ix) rfl G4.out.1 G4.out.2.1 (by rw [H5.out.1]; unfold maxLen; omega) (by rw [H5.out.1]; have := H5.out.2; omega) G3.out.1.size ?_
      intro v6 W6 hown6 hb6 _
      obtain ⟨a6, c6, rfl, -, -⟩ := hown6.sl0
      rw [HSJ.out] at hown6 ⊢
      obtain ⟨n6, hn6⟩ : ∃ n6, (setO L o).length = n6 := ⟨_, rfl⟩
      rw [hn6] at hown6 ⊢
      clear hn6
      have hbb := G3.out.1.trans hb6
      have hx6 : W6.heap[x]? = some (.cells #[.slice a n c] 55 (0, 0)) := (hbb.block _ (lt_of_blk F3.out.1)).trans F3.out.1
      have f6 : W6.frozen? ⟨x, 0, none⟩ = false := free_of hx6
      have e6 : W6.cell? ⟨x, 0, none⟩ = some (.slice a n c) := cell_of hx6 rfl
      obtain ⟨hR, hbt⟩ := RefT.put hx6 (lt_of_blk F3.out.1) hown6 HOS.out rfl
      have G5 := Lib.hid (show RSet w (W6.setCell ⟨x, 0, none⟩ (.slice a6 n6 c6)) base x L o from ⟨fun h => absurd HE0.out h, fun _ => ⟨_, F2.out.1.size, hR⟩, (But.of_below (F2.out.1.trans (hbb.mono F2.out.1.size)) [x]).trans hbt⟩)
      clear hown6 hb6 hbb hx6 hR hbt
      go_wp2_with fail
      go_ret
      exact ⟨ret_int HE0.out.symm, G5.out⟩
end Go.Proofs.Ytfmehahjjgalfaa
