/- The reference's table: Set. -/
import Derived.Test.YtfmehahjjgalfaaQaj
import Derived.Test.YtfmehahjjgalfaaQaa
import Derived.Test.YtfmehahjjgalfaaQah
namespace Go.Proofs.Ytfmehahjjgalfaa
open Go.RowKit

theorem RefT.len {w : World} {base x : Nat} {L : List Ov} (H : RefT w base x L) : ∃ a c, w.heap[x]? = some (.cells #[.slice a L.length c] 55 (0, 0)) ∧ ROv.Sl w a L.length c L ∧ L.length ≤ c ∧ c ≤ maxLen ∧ (a = none → c = 0) := by
  obtain ⟨h1, ⟨v, h2, h3⟩, h4⟩ := H
  rcases h3.cases with ⟨rfl, rfl⟩ | ⟨g, cap, rfl, hg, hgl, hl1, hl2, hr, -⟩
  · exact ⟨none, 0, h2, Rep.sl_nil, Nat.le_refl _, by unfold maxLen; omega, fun _ => rfl⟩
  · exact ⟨_, cap, h2, ⟨rfl, by omega, fun _ => ⟨g, 0, rfl, hr⟩⟩, hl1, hl2, fun e => by cases e⟩
structure RSet (w w' : World) (base x : Nat) (L : List Ov) (o : Ov) : Prop where
  no : setE L o ≠ 0 → RefT w' base x L
  yes : setE L o = 0 → ∃ b', w.heap.size ≤ b' ∧ RefT w' b' x (setO L o)
  but : But w w' [x]
set_option maxRecDepth 100000 in
set_option maxHeartbeats 4000000 in
theorem rtset_any {w : World} {base x : Nat} {L : List Ov} (H : RefT w base x L) (hlen : L.length ≤ 4611686) {o : Ov} (ha : o.ad < 4294967296) : Calls Try.prog 33 #[.pointer (some ⟨x, 0, none⟩), o.v] w fun e w' => e = .returned (.int .i64 (setE L o)) ∧ RSet w w' base x L o := by
  have hal := (Below.refl w.heap.size w).alloc (Nat.le_refl _) (.cells #[.int .i64 o.r, .int .u32 (o.ad : Int), .int .i64 o.ln, .int .i64 o.id, .int .i64 o.till] 62)
  have hos : OvS w.heap.size o (w.alloc (.cells #[.int .i64 o.r, .int .u32 (o.ad : Int), .int .i64 o.ln, .int .i64 o.id, .int .i64 o.till] 62)) := hnew _ _
  have HF := Lib.hid (rtfind_any (H.keep hal) o.key)
  have F0 := Lib.hid (And.intro hal (And.intro (H.keep hal) hos))
  have HCK := Lib.hid (fun w => rcheck_any o.ad o.ln ha w)
  have HX := Lib.hid H.lx
  obtain ⟨z0, z1, z2, z3, z4⟩ := hos.cells
  have HSR := Lib.hid (set_ref H.ord o)
  have HIX := Lib.hid (idx_le L o.key)
  have HOS := Lib.hid (H.ord.set o)
  unfold pfx Ov.key at HF
  clear hal hos
  obtain ⟨hs, hhs⟩ : ∃ hs, hasO L o.key = hs := ⟨_, rfl⟩
  obtain ⟨ix, hix⟩ : ∃ ix, idxO L o.key = ix := ⟨_, rfl⟩
  have HE := Lib.hid (show setE L o = (if okP o.ad o.ln then (if !hs && decide (4096 ≤ L.length) then 2 else 0) else 20) from by unfold setE; rw [hhs])
  rw [show hasO L (o.ad, o.ln) = hs from hhs, show idxO L (o.ad, o.ln) = ix from hix] at HF
  rw [hhs, hix] at HSR
  rw [hix] at HIX
  have HHS := Lib.hid (show hs = true → ix < L.length from fun e => hix ▸ (get_at H.ord (hhs.trans e)).1)
  obtain ⟨ok, hok⟩ : ∃ ok, okP o.ad o.ln = ok := ⟨_, rfl⟩
  rw [hok] at HE
  have hck : ∀ w, Calls Try.prog 70 #[.agg #[.int .u32 (o.ad : Int), .int .i64 o.ln]] w fun e w' => e = .returned (.bool ok) ∧ Below w.heap.size w w' := fun w => by
    have := HCK.out w
    rw [hok] at this
    exact this
  have HC := Lib.hid hck
  clear hhs hix hok hck HCK H
  unfold Ov.v
  go_enter Try.func33, Try.ntmps33
  go_wp2_with fail
  refine HF.out.mono ?_
  rintro e W1 ⟨rfl, hb⟩
  have F1 := Lib.hid (And.intro (bcall F0.out.1 (Nat.le_refl _) hb) (And.intro (F0.out.2.1.keep hb) (F0.out.2.2.on (hb.block _ (lt_of_blk F0.out.2.2)))))
  clear hb HF F0 z0 z1 z2 z3 z4
  obtain ⟨z0, z1, z2, z3, z4⟩ := OvS.cells F1.out.2.2
  go_wp2_with fail
  refine (HC.out _).mono ?_
  rintro e W2 ⟨rfl, hb⟩
  have F2 := Lib.hid (And.intro (bcall F1.out.1 (Nat.le_refl _) hb) (And.intro (F1.out.2.1.keep hb) (F1.out.2.2.on (hb.block _ (lt_of_blk F1.out.2.2)))))
  clear hb HC F1 z0 z1 z2 z3 z4
  cases ok with
  | false =>
    go_wp2_with fail
    go_ret
    exact ⟨ret_int HE.out.symm, fun _ => F2.out.2.1, (fun h => by rw [HE.out] at h; simp at h), But.of_below F2.out.1 _⟩
  | true =>
    obtain ⟨a, c, h0, hsl, hnc, hcm, hn0⟩ := F2.out.2.1.len
    obtain ⟨n, hn⟩ : ∃ n, L.length = n := ⟨_, rfl⟩
    rw [hn] at h0 hsl hnc HE HIX HHS hlen
    have c0 : W2.cell? ⟨x, 0, none⟩ = some (.slice a n c) := cell_of h0 rfl
    have F3 := Lib.hid (And.intro h0 (And.intro hsl (And.intro hnc (And.intro hcm hn0))))
    have HN := Lib.hid hn
    clear h0 hsl hnc hcm hn0 hn
    by_cases hfull : hs = false ∧ 4096 ≤ n
    · obtain ⟨rfl, h4⟩ := hfull
      have h4t : ((4096 : Int) ≤ (n : Int)) = True := by simp; omega
      have hE2 : setE L o = 2 := by rw [HE.out]; simp [h4]
      have HE2 := Lib.hid hE2
      clear h4 hE2
      go_wp2_with fail
      go_ret
      exact ⟨ret_int HE2.out.symm, fun _ => F2.out.2.1, (fun h => by rw [HE2.out] at h; cases h), But.of_below F2.out.1 _⟩
    have hE0 : setE L o = 0 := by
      rw [HE.out]
      cases hs with
      | true => rfl
      | false =>
        have : ¬ 4096 ≤ n := fun h => hfull ⟨rfl, h⟩
        simp [this]
    have HE0 := Lib.hid hE0
    have hway : (hs = true) ∨ (hs = false ∧ ((4096 : Int) ≤ (n : Int)) = False) := by
      cases hs with
      | true => exact .inl rfl
      | false => right; refine ⟨rfl, ?_⟩; have : ¬ 4096 ≤ n := fun h => hfull ⟨rfl, h⟩; simp; omega
    clear hfull hE0
    have hix0 := HIX.out
    have hi0 : ((0 : Int) ≤ (ix : Int)) = True := by simp
    have hixn : ((ix : Int) ≤ (n : Int)) = True := by simp; omega
    rcases hway with rfl | ⟨rfl, h4f⟩
    · have hi1 := HHS.out rfl
      obtain ⟨sa, hr1, hr2, hst, hsn, hsb⟩ := Rep.cut_to T53 F3.out.2.1 F3.out.2.2.1 F3.out.2.2.2.2 hix0
      obtain ⟨j, hj⟩ : ∃ j : Nat, ix + 1 = j := ⟨_, rfl⟩
      have hw3 : wrap64 ((ix : Int) + 1) = (j : Int) := by rw [wrapS hi1 (by unfold maxLen; omega), hj]
      have hje : ((ix : Int) + 1) = (j : Int) := by omega
      have hjn : j ≤ n := by omega
      have hj0 : ((0 : Int) ≤ (j : Int)) = True := by simp
      have hjn2 : ((j : Int) ≤ (n : Int)) = True := by simp; omega
      have HSJ := Lib.hid (show L.take ix ++ [o] ++ L.drop j = setO L o from by rw [← HSR.out, if_pos rfl, hj])
      clear hj
      have hal0 := (Below.refl W2.heap.size W2).alloc (Nat.le_refl _) (.cells #[] 62)
      have hem : ROv.Own (W2.alloc (.cells #[] 62)) W2.heap.size (.slice (some ⟨W2.heap.size, 0, none⟩) 0 0) ([] : List Ov) := Rep.own_empty (hnew _ _) (Nat.le_refl _)
      have c1 : (W2.alloc (.cells #[] 62)).cell? ⟨x, 0, none⟩ = some (.slice a n c) := cell_of ((hal0.block _ (lt_of_blk F3.out.1)).trans F3.out.1) rfl
      have G1 := Lib.hid (And.intro hal0 (And.intro hem (And.intro (hst.keep hal0) hsn)))
      clear hal0 hem hst hsn hsb
      go_wp2_with (at_builtin; refine halt ?_)
      refine Halted.go ?_
      clear hr1 hr2 c0 c1
      generalize W2.alloc (.cells #[] 62) = W3 at *
      refine Rep.append_list T53 rfl _ _ rfl rfl G1.out.2.1 (L := []) (M := L.take ix) rfl G1.out.2.2.1 G1.out.2.2.2 (by rw [List.length_nil]; unfold maxLen; omega) (by rw [List.length_nil]; omega) G1.out.1.size ?_
      intro v4 W4 hown4 hb4 _
      rw [List.nil_append] at hown4
      obtain ⟨a4, c4, rfl, -, -⟩ := hown4.sl0
      have hlt4 : (L.take ix).length = ix := by rw [List.length_take, HN.out]; omega
      rw [hlt4] at hown4 ⊢
      have hbb := G1.out.1.trans hb4
      have G2 := Lib.hid (And.intro hbb hown4)
      obtain ⟨z0, z1, z2, z3, z4⟩ := OvS.cells (F2.out.2.2.on (hbb.block _ (lt_of_blk F2.out.2.2)))
      have HT4 := Lib.hid hlt4
      clear hlt4 hown4 hb4 hbb G1
      go_wp2_with (at_builtin; refine halt ?_)
      refine Halted.go ?_
      have hal := (Below.refl W4.heap.size W4).alloc (Nat.le_refl _) (.cells #[.int .i64 o.r, .int .u32 (o.ad : Int), .int .i64 o.ln, .int .i64 o.id, .int .i64 o.till] 62)
      refine Rep.append_one T53 rfl _ _ rfl rfl (G2.out.2.below hal) o _ 1 rfl (hnew _ _) (n := ix) HT4.out (by unfold maxLen; omega) (by show (ix + 1) * 40 ≤ _; omega) (Nat.le_trans G2.out.1.size hal.size) ?_
      intro v5 W5 hown5 hb5 _
      obtain ⟨a5, c5, rfl, -, -⟩ := hown5.sl0
      have hlt5 : (L.take ix ++ [o]).length = ix + 1 := by rw [List.length_append, HT4.out]; rfl
      obtain ⟨n5, hn5⟩ : ∃ n5, ix + 1 = n5 := ⟨_, rfl⟩
      rw [hlt5, hn5] at hown5 ⊢
      have hbb := G2.out.1.trans ((hal.mono G2.out.1.size).trans hb5)
      have G3 := Lib.hid (And.intro hbb hown5)
      have H5 := Lib.hid (And.intro hlt5 hn5)
      have hx5 := (hbb.block _ (lt_of_blk F3.out.1)).trans F3.out.1
      have c0 : W5.cell? ⟨x, 0, none⟩ = some (.slice a n c) := cell_of hx5 rfl
      obtain ⟨sb, hr1, hr2, hst, hsn, hsb⟩ := Rep.cut_from T53 (F3.out.2.1.keep hbb) F3.out.2.2.1 F3.out.2.2.2.2 hjn
      have G4 := Lib.hid (And.intro hst (And.intro hsn hx5))
      clear z0 z1 z2 z3 z4 hlt5 hn5 hown5 hb5 hbb G2 hal hst hsn hx5 hsb
      go_wp2_with (at_builtin; refine halt ?_)
      refine Halted.go ?_
      clear hr1 hr2
      refine Rep.append_list T53 rfl _ _ rfl rfl G3.out.2 (M := L.drop j) rfl G4.out.1 G4.out.2.1 (by rw [H5.out.1]; unfold maxLen; omega) (by rw [H5.out.1]; have := H5.out.2; omega) G3.out.1.size ?_
      intro v6 W6 hown6 hb6 _
      obtain ⟨a6, c6, rfl, -, -⟩ := hown6.sl0
      rw [HSJ.out] at hown6 ⊢
      obtain ⟨n6, hn6⟩ : ∃ n6, (setO L o).length = n6 := ⟨_, rfl⟩
      rw [hn6] at hown6 ⊢
      clear hn6
      have hbb := G3.out.1.trans hb6
      have hx6 : W6.heap[x]? = some (.cells #[.slice a n c] 55 (0, 0)) := (hbb.block _ (lt_of_blk F3.out.1)).trans F3.out.1
      have f6 : W6.frozen? ⟨x, 0, none⟩ = false := free_of hx6
      have e6 : W6.cell? ⟨x, 0, none⟩ = some (.slice a n c) := cell_of hx6 rfl
      obtain ⟨hR, hbt⟩ := RefT.put hx6 (lt_of_blk F3.out.1) hown6 HOS.out rfl
      have G5 := Lib.hid (show RSet w (W6.setCell ⟨x, 0, none⟩ (.slice a6 n6 c6)) base x L o from ⟨fun h => absurd HE0.out h, fun _ => ⟨_, F2.out.1.size, hR⟩, (But.of_below (F2.out.1.trans (hbb.mono F2.out.1.size)) [x]).trans hbt⟩)
      clear hown6 hb6 hbb hx6 hR hbt
      go_wp2_with fail
      go_ret
      exact ⟨ret_int HE0.out.symm, G5.out⟩
    ·
      obtain ⟨sa, hr1, hr2, hst, hsn, hsb⟩ := Rep.cut_to T53 F3.out.2.1 F3.out.2.2.1 F3.out.2.2.2.2 hix0
      have hjn : ix ≤ n := hix0
      have HSJ := Lib.hid (show L.take ix ++ [o] ++ L.drop ix = setO L o from by rw [← HSR.out, if_neg (by simp), Nat.add_zero])
      have hal0 := (Below.refl W2.heap.size W2).alloc (Nat.le_refl _) (.cells #[] 62)
      have hem : ROv.Own (W2.alloc (.cells #[] 62)) W2.heap.size (.slice (some ⟨W2.heap.size, 0, none⟩) 0 0) ([] : List Ov) := Rep.own_empty (hnew _ _) (Nat.le_refl _)
      have c1 : (W2.alloc (.cells #[] 62)).cell? ⟨x, 0, none⟩ = some (.slice a n c) := cell_of ((hal0.block _ (lt_of_blk F3.out.1)).trans F3.out.1) rfl
      have G1 := Lib.hid (And.intro hal0 (And.intro hem (And.intro (hst.keep hal0) hsn)))
      clear hal0 hem hst hsn hsb
      go_wp2_with (at_builtin; refine halt ?_)
      refine Halted.go ?_
      clear hr1 hr2 c0 c1
      generalize W2.alloc (.cells #[] 62) = W3 at *
      refine Rep.append_list T53 rfl _ _ rfl rfl G1.out.2.1 (L := []) (M := L.take ix) rfl G1.out.2.2.1 G1.out.2.2.2 (by rw [List.length_nil]; unfold maxLen; omega) (by rw [List.length_nil]; omega) G1.out.1.size ?_
      intro v4 W4 hown4 hb4 _
      rw [List.nil_append] at hown4
      obtain ⟨a4, c4, rfl, -, -⟩ := hown4.sl0
      have hlt4 : (L.take ix).length = ix := by rw [List.length_take, HN.out]; omega
      rw [hlt4] at hown4 ⊢
      have hbb := G1.out.1.trans hb4
      have G2 := Lib.hid (And.intro hbb hown4)
      obtain ⟨z0, z1, z2, z3, z4⟩ := OvS.cells (F2.out.2.2.on (hbb.block _ (lt_of_blk F2.out.2.2)))
      have HT4 := Lib.hid hlt4
      clear hlt4 hown4 hb4 hbb G1
      go_wp2_with (at_builtin; refine halt ?_)
      refine Halted.go ?_
      have hal := (Below.refl W4.heap.size W4).alloc (Nat.le_refl _) (.cells #[.int .i64 o.r, .int .u32 (o.ad : Int), .int .i64 o.ln, .int .i64 o.id, .int .i64 o.till] 62)
      refine Rep.append_one T53 rfl _ _ rfl rfl (G2.out.2.below hal) o _ 1 rfl (hnew _ _) (n := ix) HT4.out (by unfold maxLen; omega) (by show (ix + 1) * 40 ≤ _; omega) (Nat.le_trans G2.out.1.size hal.size) ?_
      intro v5 W5 hown5 hb5 _
      obtain ⟨a5, c5, rfl, -, -⟩ := hown5.sl0
      have hlt5 : (L.take ix ++ [o]).length = ix + 1 := by rw [List.length_append, HT4.out]; rfl
      obtain ⟨n5, hn5⟩ : ∃ n5, ix + 1 = n5 := ⟨_, rfl⟩
      rw [hlt5, hn5] at hown5 ⊢
      have hbb := G2.out.1.trans ((hal.mono G2.out.1.size).trans hb5)
      have G3 := Lib.hid (And.intro hbb hown5)
      have H5 := Lib.hid (And.intro hlt5 hn5)
      have hx5 := (hbb.block _ (lt_of_blk F3.out.1)).trans F3.out.1
      have c0 : W5.cell? ⟨x, 0, none⟩ = some (.slice a n c) := cell_of hx5 rfl
      obtain ⟨sb, hr1, hr2, hst, hsn, hsb⟩ := Rep.cut_from T53 (F3.out.2.1.keep hbb) F3.out.2.2.1 F3.out.2.2.2.2 hjn
      have G4 := Lib.hid (And.intro hst (And.intro hsn hx5))
      clear z0 z1 z2 z3 z4 hlt5 hn5 hown5 hb5 hbb G2 hal hst hsn hx5 hsb
      go_wp2_with (at_builtin; refine halt ?_)
      refine Halted.go ?_
      clear hr1 hr2
      refine Rep.append_list T53 rfl _ _ rfl rfl G3.out.2 (M := L.drop ix) rfl G4.out.1 G4.out.2.1 (by rw [H5.out.1]; unfold maxLen; omega) (by rw [H5.out.1]; have := H5.out.2; omega) G3.out.1.size ?_
      intro v6 W6 hown6 hb6 _
      obtain ⟨a6, c6, rfl, -, -⟩ := hown6.sl0
      rw [HSJ.out] at hown6 ⊢
      obtain ⟨n6, hn6⟩ : ∃ n6, (setO L o).length = n6 := ⟨_, rfl⟩
      rw [hn6] at hown6 ⊢
      clear hn6
      have hbb := G3.out.1.trans hb6
      have hx6 : W6.heap[x]? = some (.cells #[.slice a n c] 55 (0, 0)) := (hbb.block _ (lt_of_blk F3.out.1)).trans F3.out.1
      have f6 : W6.frozen? ⟨x, 0, none⟩ = false := free_of hx6
      have e6 : W6.cell? ⟨x, 0, none⟩ = some (.slice a n c) := cell_of hx6 rfl
      obtain ⟨hR, hbt⟩ := RefT.put hx6 (lt_of_blk F3.out.1) hown6 HOS.out rfl
      have G5 := Lib.hid (show RSet w (W6.setCell ⟨x, 0, none⟩ (.slice a6 n6 c6)) base x L o from ⟨fun h => absurd HE0.out h, fun _ => ⟨_, F2.out.1.size, hR⟩, (But.of_below (F2.out.1.trans (hbb.mono F2.out.1.size)) [x]).trans hbt⟩)
      clear hown6 hb6 hbb hx6 hR hbt
      go_wp2_with fail
      go_ret
      exact ⟨ret_int HE0.out.symm, G5.out⟩
end Go.Proofs.Ytfmehahjjgalfaa
/- append, and in which block its result lies. -/
namespace Go.Proofs.Ytfmehahjjgalfaa
open Go Go.RowKit

/-- append's block is the old one, or new -/
theorem append_block {P : Program} (w : World) (base : Nat) (t ty e : TypeId) (i : TypeInfo) (z : Value) (size bytes : Nat) (ht : P.underlying t = some (.slice e)) (hi : P.info? e = some i) (hz : i.zero = some z)
    (hsize : i.size = size) (hby : i.bytes = bytes) (v : Value) (n : Nat) (xs : List Value) (hown : w.ownsRow base e size v n xs)
    (a : Addr) (m c : Nat) (news : List Value) (hl : news.length = m * size) (hnews : ∀ j u, news[j]? = some u → w.cell? (a.add j) = some u) (h1 : ∀ u ∈ news, u.oneCell' = true)
    (hm : 0 < m) (h63 : n + m ≤ maxLen) (hbytes : (n + m) * bytes ≤ 140737488355328) {v' : Value} {w' : World} (hrun : (Builtin.append_ #[t, t] ty #[v, .slice (some a) m c]).run P w = .ok v' w') :
    v'.ownBlock = v.ownBlock ∨ v'.ownBlock = some w.heap.size := by
  subst hsize
  subst hby
  have hsmall : n + m ≤ 9223372036854775807 := by simp only [maxLen] at h63; omega
  rcases hown.2 with ⟨rfl, rfl⟩ | ⟨g, cap, cur, rfl, hbg, hg, hnc, hcm, hcs, htake⟩
  · have hr := run_append_nil (P := P) w t ty e i z ht hi hz a m c news hl hnews (by omega) (by omega) (by have hb := hbytes; simp only [Nat.zero_add] at hb; omega)
    rw [hr] at hrun
    injection hrun with h2 _
    subst h2
    exact .inr rfl
  · by_cases hroom : n + m ≤ cap
    · have hfit : n * i.size + news.length ≤ cur.size := by rw [hl, hcs, ← Nat.add_mul]; exact Nat.mul_le_mul_right _ hroom
      have hr := run_append_room (P := P) w t ty e i ht hi g n cap cur hg a m c news hl hnews h1 hroom hfit
      rw [hr] at hrun
      injection hrun with h2 _
      subst h2
      exact .inl rfl
    · have holds : ∀ j u, xs[j]? = some u → w.cell? ((⟨g, 0, none⟩ : Addr).add j) = some u := hown.cells (g := g) rfl
      have hr := run_append_grow (P := P) w t ty e i z ht hi hz ⟨g, 0, none⟩ n cap xs hown.1 holds a m c news hl hnews (by omega) (by omega) (growslice_fits (by omega) hbytes)
      rw [hr] at hrun
      injection hrun with h2 _
      subst h2
      exact .inr rfl

namespace Rep
variable {α : Type} [Inhabited α] {R : Rep α} {P : Program} {ops : Array Oper} {rest : List Oper} {o : Oper} {a : Act} {Q : Exit → Act → World → Prop} {w : World}
theorem run_append_list2 {t ty : TypeId} {bytes : Nat} (hT : Ty P t R bytes) {base : Nat} {v : Value} {L : List α} (hown : R.Own w base v L) {sa : Option Addr} {m c : Nat} {M : List α} (hM : R.Sl w sa m c M) (h0 : 0 < m)
    (hmax : L.length + m ≤ maxLen) (hbytes : (L.length + m) * bytes ≤ 140737488355328) (hbase : base ≤ w.heap.size) :
    ∃ v' w', (Builtin.append_ #[t, t] ty #[v, .slice sa m c]).run P w = .ok v' w' ∧ R.Own w' base v' (L ++ M) ∧ Below base w w' ∧ ∀ bad, v.ownBlock ≠ some bad → bad < w.heap.size → v'.ownBlock ≠ some bad ∧ w'.heap[bad]? = w.heap[bad]? := by
  obtain ⟨b, off, rfl, hr⟩ := hM.row h0
  obtain ⟨v', w', e1, e2, e3, e4⟩ := run_append_list (ty := ty) hT hown hM (fun h => by cases h) hmax hbytes hbase
  obtain ⟨i, z, h1, h2, h3, h4, h5⟩ := hT.hi
  have hb := append_block w base t ty R.T i z R.k bytes hT.ht h1 h2 h3 h4 v L.length (R.flat L) hown ⟨b, off, none⟩ m c (R.flat M) (by rw [R.flat_length, ← hM.len]) (news_of_row hr) (fun u hu => R.flat_cell1 M u hu) h0 hmax hbytes e1
  refine ⟨v', w', e1, e2, e3, fun bad h6 h7 => ⟨?_, e4.block bad h7 (fun h => h6 h.symm)⟩⟩
  rcases hb with hb | hb
  · rw [hb]; exact h6
  · rw [hb]; intro h; injection h with h; omega
theorem append_list2 {t : TypeId} {bytes : Nat} (hT : Ty P t R bytes) (hgd : o.guard = none) (s x : Operand) (ho : o.op = .call { callee := .builtin .append, args := #[s, x], argTypes := #[t, t] })
    {base : Nat} {v : Value} {L : List α} (hs : a.eval s = v) (hown : R.Own w base v L) {sa : Option Addr} {m c : Nat} {M : List α} (hx : a.eval x = .slice sa m c) (hM : R.Sl w sa m c M) (h0 : 0 < m)
    (hmax : L.length + m ≤ maxLen) (hbytes : (L.length + m) * bytes ≤ 140737488355328) (hbase : base ≤ w.heap.size)
    (h : ∀ v' w', R.Own w' base v' (L ++ M) → Below base w w' → (∀ bad, v.ownBlock ≠ some bad → bad < w.heap.size → v'.ownBlock ≠ some bad ∧ w'.heap[bad]? = w.heap[bad]?) → wpList P ops Q rest (a.put o.dst v') w') : wpList P ops Q (o :: rest) a w :=
  wpList_plain hgd fun K hK => by
    obtain ⟨v', w', e1, e2, e3, e4⟩ := run_append_list2 hT hown hM h0 hmax hbytes hbase (ty := o.type)
    have hk := hK _ _ (h v' w' e2 e3 e4)
    unfold Oper.wp execOp
    simp only [ho, resolve, invoke, builtin, Sem.run_bind, Sem.run_pure, Result.andThen_ok, List.map_toArray, List.map_cons, List.map_nil, hs, hx, e1]
    exact hk
end Rep
end Go.Proofs.Ytfmehahjjgalfaa
/- The reference's table: Get, Delete, Same. -/
namespace Go.Proofs.Ytfmehahjjgalfaa
open Go.RowKit

set_option maxRecDepth 100000 in
theorem rtget_any {w : World} {base x : Nat} {L : List Ov} (H : RefT w base x L) (k : PK) : Calls Try.prog 41 #[.pointer (some ⟨x, 0, none⟩), pfx k.1 k.2] w fun e w' => e = .returned (.tuple #[(getO L k).v, .bool (hasO L k)]) ∧ Below w.heap.size w w' := by
  have hal := ((Below.refl w.heap.size w).alloc (Nat.le_refl _) (.cells #[.int .u32 (k.1 : Int), .int .i64 k.2] 58)).alloc (by simp) (.cells #[.int .i64 0, .int .u32 0, .int .i64 0, .int .i64 0, .int .i64 0] 62)
  have hz : ((w.alloc (.cells #[.int .u32 (k.1 : Int), .int .i64 k.2] 58)).alloc (.cells #[.int .i64 0, .int .u32 0, .int .i64 0, .int .i64 0, .int .i64 0] 62)).heap[w.heap.size + 1]? = some (.cells #[.int .i64 0, .int .u32 0, .int .i64 0, .int .i64 0, .int .i64 0] 62) := hnewAt (by simp)
  have hps : PfS w.heap.size k ((w.alloc (.cells #[.int .u32 (k.1 : Int), .int .i64 k.2] 58)).alloc (.cells #[.int .i64 0, .int .u32 0, .int .i64 0, .int .i64 0, .int .i64 0] 62)) := hold (hnew _ _)
  have HF := Lib.hid (rtfind_any (H.keep hal) k)
  have F := Lib.hid (And.intro hal (And.intro hz (H.keep hal)))
  obtain ⟨z0, z1⟩ := hps.cells
  have HGA := Lib.hid (fun h => get_at (k := k) H.ord h)
  have HGN := Lib.hid (show hasO L k = false → getO L k = ovZ from fun h => by
    unfold hasO at h
    unfold getO
    cases hl : Kl.look Ov.key L k with
    | none => rfl
    | some _ => rw [hl] at h; cases h)
  unfold pfx at HF
  clear hal hz hps H
  unfold pfx
  generalize getO L k = g at *
  generalize hasO L k = hs at *
  generalize idxO L k = ix at *
  go_enter Try.func41, Try.ntmps41
  go_wp2_with fail
  refine HF.out.mono ?_
  rintro e W1 ⟨rfl, hb⟩
  have F2 := Lib.hid (And.intro (bcall F.out.1 (Nat.le_refl _) hb) (And.intro ((hb.block _ (lt_of_blk F.out.2.1)).trans F.out.2.1) (F.out.2.2.keep hb)))
  clear hb HF F z0 z1
  cases hs with
  | false =>
    have hg := HGN.out rfl
    subst hg
    go_wp2_with (with_reducible refine halt_store 62 (x := .tmp 4) rfl ?_)
    refine Halted.go ?_
    refine store_whole rfl 62 _ _ rfl (w.heap.size + 1) #[.int .i64 0, .int .u32 0, .int .i64 0, .int .i64 0, .int .i64 0] rfl rfl F2.out.2.1 rfl (by kernel_rfl) (by simp [Value.oneCell']) ?_
    intro Wz hwz hsz
    have HZ := Lib.hid (And.intro hwz (F2.out.1.trans (hsz.below (Nat.le_succ _))))
    clear hwz hsz
    go_wp2_with fail
    refine ret_cell2 rfl rfl rfl HZ.out.1 Try.underlying62 rfl (by kernel_rfl) ?_
    exact ⟨rfl, HZ.out.2⟩
  | true =>
    obtain ⟨h1, -, h3⟩ := HGA.out rfl
    obtain ⟨a, c, h0, hsl, -, -, -⟩ := F2.out.2.2.len
    obtain ⟨b, o, rfl, hlt, hat⟩ := hsl.at h1
    have c0 : W1.cell? ⟨x, 0, none⟩ = some (.slice (some ⟨b, o, none⟩) L.length c) := cell_of h0 rfl
    rw [← h3] at hat
    have y0 := hat 0 (by decide)
    have y1 := hat 1 (by decide)
    have y2 := hat 2 (by decide)
    have y3 := hat 3 (by decide)
    have y4 := hat 4 (by decide)
    simp only [ROv, Nat.add_zero, List.getElem?_cons_zero, List.getElem?_cons_succ] at y0 y1 y2 y3 y4
    have hkl : ((ix : Int) < (L.length : Int)) = True := by simp; omega
    have hk0 : ((0 : Int) ≤ (ix : Int)) = True := by simp
    clear h0 hsl hlt hat h1 h3
    generalize L.length = n at *
    go_wp2_with (with_reducible refine halt_store 62 (x := .tmp 4) rfl ?_)
    refine Halted.go ?_
    refine store_whole rfl 62 _ _ rfl (w.heap.size + 1) #[.int .i64 g.r, .int .u32 (g.ad : Int), .int .i64 g.ln, .int .i64 g.id, .int .i64 g.till] rfl rfl F2.out.2.1 rfl (by kernel_rfl) (by simp [Value.oneCell']) ?_
    intro Wz hwz hsz
    have HZ := Lib.hid (And.intro hwz (F2.out.1.trans (hsz.below (Nat.le_succ _))))
    clear hwz hsz
    go_wp2_with fail
    refine ret_cell2 rfl rfl rfl HZ.out.1 Try.underlying62 rfl (by kernel_rfl) ?_
    exact ⟨rfl, HZ.out.2⟩
structure RDel (w w' : World) (base x : Nat) (L : List Ov) (k : PK) : Prop where
  tab : ∃ b', RefT w' b' x (L.filter fun y => decide (y.key ≠ k))
  but : But w w' [x]
def RxT (x : Nat) (v : Value) (w : World) : Prop := w.cell? ⟨x, 0, none⟩ = some v ∧ w.frozen? ⟨x, 0, none⟩ = false
set_option maxRecDepth 100000 in
set_option maxHeartbeats 2000000 in
theorem rtdel_any {w : World} {base x : Nat} {L : List Ov} (H : RefT w base x L) (hlen : L.length ≤ 4611686) (k : PK) : Calls Try.prog 35 #[.pointer (some ⟨x, 0, none⟩), pfx k.1 k.2] w fun e w' => e = .returned (.bool (hasO L k)) ∧ RDel w w' base x L k := by
  have hal := (Below.refl w.heap.size w).alloc (Nat.le_refl _) (.cells #[.int .u32 (k.1 : Int), .int .i64 k.2] 58)
  have hps : PfS w.heap.size k (w.alloc (.cells #[.int .u32 (k.1 : Int), .int .i64 k.2] 58)) := hnew _ _
  have HF := Lib.hid (rtfind_any (H.keep hal) k)
  have F := Lib.hid (And.intro hal (H.keep hal))
  obtain ⟨z0, z1⟩ := hps.cells
  have HGA := Lib.hid (fun h => get_at (k := k) H.ord h)
  have HDR := Lib.hid (fun h => del_ref H.ord (k := k) h)
  have HDN := Lib.hid (fun h => del_none (L := L) (k := k) h)
  have HOD := Lib.hid (H.ord.filter fun y => decide (y.key ≠ k))
  have HX := Lib.hid H.lx
  unfold pfx at HF
  clear hal hps H
  unfold pfx
  generalize getO L k = g at *
  generalize hasO L k = hs at *
  generalize idxO L k = ix at *
  go_enter Try.func35, Try.ntmps35
  go_wp2_with fail
  refine HF.out.mono ?_
  rintro e W1 ⟨rfl, hb⟩
  have F2 := Lib.hid (And.intro (bcall F.out.1 (Nat.le_refl _) hb) (F.out.2.keep hb))
  clear hb HF F z0 z1
  cases hs with
  | false =>
    go_wp2_with fail
    go_ret
    refine ⟨rfl, ⟨base, ?_⟩, But.of_below F2.out.1 _⟩
    rw [HDN.out (by first | rfl | trivial)]
    exact F2.out.2
  | true =>
    obtain ⟨h1, -, -⟩ := HGA.out (by first | rfl | trivial)
    obtain ⟨a, c, h0, hsl, hnc, hcm, hn0⟩ := F2.out.2.len
    obtain ⟨n, hn⟩ : ∃ n, L.length = n := ⟨_, rfl⟩
    rw [hn] at h0 hsl hnc h1 hlen
    have HN := Lib.hid hn
    obtain ⟨sa, p1, p2, hst, hsn, -⟩ := Rep.cut_to T53 hsl hnc hn0 (i := ix) (by omega)
    obtain ⟨j, hj⟩ : ∃ j : Nat, ix + 1 = j := ⟨_, rfl⟩
    have hje : ((ix : Int) + 1) = (j : Int) := by omega
    have hjw : wrap64 ((ix : Int) + 1) = (j : Int) := by rw [wrapS h1 (by unfold maxLen; omega), hj]
    have hjk : IntKind.i64.wrap (j : Int) = (j : Int) := by rw [IntKind.wrap_i64]; omega
    obtain ⟨sb, p3, p4, hsu, hsm, -⟩ := Rep.cut_from T53 hsl hnc hn0 (i := j) (by omega)
    have HD2 := Lib.hid (show L.take ix ++ L.drop j = L.filter (fun y => decide (y.key ≠ k)) from hj ▸ HDR.out (by first | rfl | trivial))
    have hrx : RxT x (.slice a n c) W1.drew := ⟨cell_of (show W1.drew.heap[x]? = _ from h0) rfl, free_of (show W1.drew.heap[x]? = _ from h0)⟩
    have hd := (Below.refl W1.heap.size W1).drew
    have G := Lib.hid (And.intro hd (And.intro ((hd.block _ (lt_of_blk h0)).trans h0) (And.intro (hst.keep hd) (And.intro hsn (And.intro (hsu.keep hd) (And.intro hsm hrx))))))
    have HXW := Lib.hid (lt_of_blk h0)
    have hlt4 : (L.take ix).length = ix := by rw [List.length_take, hn]; omega
    have HT4 := Lib.hid hlt4
    clear hn hst hsn hsu hsm hd hrx h0 hsl hnc hcm hn0 hj hlt4
    have hi0 : ((0 : Int) ≤ (ix : Int)) = True := by simp
    go_wp2_with fail
    refine wp_region_T 19 (RxT x (.slice a n c)) (by kernel_rfl) ?_
    generalize W1.drew = W2 at *
    refine T_reads [0, 2, 3, 4, 5, 6, 7, 9, 10, 11, 12, 13, 14, 15] (g := 6) rfl (by kernel_rfl) G.out.2.2.2.2.2.2 (fun _ _ d _ _ h => by cases d <;> exact h) ?_
    simp only [pick, List.getD_cons_zero, List.getD_cons_succ]
    ((with_reducible refine wpRead_step (fun K hK => ?_)); go_simp; first | ((with_reducible refine hK _ ?_); clear hK K) | (apply Exists.intro; (with_reducible refine ⟨fun w' hw' => ?_, hK _ ?_⟩); ((obtain ⟨f0, f1⟩ := hw'; go_simp; first | exact rfl | exact ⟨rfl, rfl⟩)); clear hK K))
    ((with_reducible refine wpRead_step (fun K hK => ?_)); go_simp; first | ((with_reducible refine hK _ ?_); clear hK K) | (apply Exists.intro; (with_reducible refine ⟨fun w' hw' => ?_, hK _ ?_⟩); ((obtain ⟨f0, f1⟩ := hw'; go_simp; first | exact rfl | exact ⟨rfl, rfl⟩)); clear hK K))
    ((with_reducible refine wpRead_step (fun K hK => ?_)); go_simp; first | ((with_reducible refine hK _ ?_); clear hK K) | (apply Exists.intro; (with_reducible refine ⟨fun w' hw' => ?_, hK _ ?_⟩); ((obtain ⟨f0, f1⟩ := hw'; go_simp; first | exact rfl | exact ⟨rfl, rfl⟩)); clear hK K))
    ((with_reducible refine wpRead_step (fun K hK => ?_)); go_simp; first | ((with_reducible refine hK _ ?_); clear hK K) | (apply Exists.intro; (with_reducible refine ⟨fun w' hw' => ?_, hK _ ?_⟩); ((obtain ⟨f0, f1⟩ := hw'; go_simp; first | exact rfl | exact ⟨rfl, rfl⟩)); clear hK K))
    ((with_reducible refine wpRead_step (fun K hK => ?_)); go_simp; first | ((with_reducible refine hK _ ?_); clear hK K) | (apply Exists.intro; (with_reducible refine ⟨fun w' hw' => ?_, hK _ ?_⟩); ((obtain ⟨f0, f1⟩ := hw'; go_simp; first | exact rfl | exact ⟨rfl, rfl⟩)); clear hK K))
    ((with_reducible refine wpRead_step (fun K hK => ?_)); go_simp; first | ((with_reducible refine hK _ ?_); clear hK K) | (apply Exists.intro; (with_reducible refine ⟨fun w' hw' => ?_, hK _ ?_⟩); ((obtain ⟨f0, f1⟩ := hw'; go_simp; first | exact rfl | exact ⟨rfl, rfl⟩)); clear hK K))
    ((with_reducible refine wpRead_step (fun K hK => ?_)); go_simp; first | ((with_reducible refine hK _ ?_); clear hK K) | (apply Exists.intro; (with_reducible refine ⟨fun w' hw' => ?_, hK _ ?_⟩); ((obtain ⟨f0, f1⟩ := hw'; go_simp; first | exact rfl | exact ⟨rfl, rfl⟩)); clear hK K))
    ((with_reducible refine wpRead_step (fun K hK => ?_)); go_simp; first | ((with_reducible refine hK _ ?_); clear hK K) | (apply Exists.intro; (with_reducible refine ⟨fun w' hw' => ?_, hK _ ?_⟩); ((obtain ⟨f0, f1⟩ := hw'; go_simp; first | exact rfl | exact ⟨rfl, rfl⟩)); clear hK K))
    ((with_reducible refine wpRead_step (fun K hK => ?_)); go_simp; first | ((with_reducible refine hK _ ?_); clear hK K) | (apply Exists.intro; (with_reducible refine ⟨fun w' hw' => ?_, hK _ ?_⟩); ((obtain ⟨f0, f1⟩ := hw'; go_simp; first | exact rfl | exact ⟨rfl, rfl⟩)); clear hK K))
    ((with_reducible refine wpRead_step (fun K hK => ?_)); go_simp; first | ((with_reducible refine hK _ ?_); clear hK K) | (apply Exists.intro; (with_reducible refine ⟨fun w' hw' => ?_, hK _ ?_⟩); ((obtain ⟨f0, f1⟩ := hw'; go_simp; first | exact rfl | exact ⟨rfl, rfl⟩)); clear hK K))
    ((with_reducible refine wpRead_step (fun K hK => ?_)); go_simp; first | ((with_reducible refine hK _ ?_); clear hK K) | (apply Exists.intro; (with_reducible refine ⟨fun w' hw' => ?_, hK _ ?_⟩); ((obtain ⟨f0, f1⟩ := hw'; go_simp; first | exact rfl | exact ⟨rfl, rfl⟩)); clear hK K))
    ((with_reducible refine wpRead_step (fun K hK => ?_)); go_simp; first | ((with_reducible refine hK _ ?_); clear hK K) | (apply Exists.intro; (with_reducible refine ⟨fun w' hw' => ?_, hK _ ?_⟩); ((obtain ⟨f0, f1⟩ := hw'; go_simp; first | exact rfl | exact ⟨rfl, rfl⟩)); clear hK K))
    ((with_reducible refine wpRead_step (fun K hK => ?_)); go_simp; first | ((with_reducible refine hK _ ?_); clear hK K) | (apply Exists.intro; (with_reducible refine ⟨fun w' hw' => ?_, hK _ ?_⟩); ((obtain ⟨f0, f1⟩ := hw'; go_simp; first | exact rfl | exact ⟨rfl, rfl⟩)); clear hK K))
    ((with_reducible refine wpRead_step (fun K hK => ?_)); go_simp; first | ((with_reducible refine hK _ ?_); clear hK K) | (apply Exists.intro; (with_reducible refine ⟨fun w' hw' => ?_, hK _ ?_⟩); ((obtain ⟨f0, f1⟩ := hw'; go_simp; first | exact rfl | exact ⟨rfl, rfl⟩)); clear hK K))
    with_reducible refine wpRead_nil ?_
    clear p1 p2 p3 p4
    have hal0 := (Below.refl W2.heap.size W2).alloc (Nat.le_refl _) (.cells #[] 62)
    have hem : ROv.Own (W2.alloc (.cells #[] 62)) W2.heap.size (.slice (some ⟨W2.heap.size, 0, none⟩) 0 0) ([] : List Ov) := Rep.own_empty (hnew _ _) (Nat.le_refl _)
    have hx0 := (hal0.block _ (lt_of_blk G.out.2.1)).trans G.out.2.1
    have G1 := Lib.hid (And.intro hal0 (And.intro hem (And.intro (G.out.2.2.1.keep hal0) (And.intro G.out.2.2.2.1 (show RxT x (.slice a n c) (W2.alloc (.cells #[] 62)) from ⟨cell_of hx0 rfl, free_of hx0⟩)))))
    clear hal0 hem hx0
    refine T_one 1 (by kernel_rfl) ?_
    simp only [pick, List.getD_cons_zero, List.getD_cons_succ]
    go_wp2_with fail
    generalize W2.alloc (.cells #[] 62) = W3 at *
    refine ⟨fun _ => G1.out.2.2.2.2, ?_⟩
    refine T_one 8 (by kernel_rfl) ?_
    simp only [pick, List.getD_cons_zero, List.getD_cons_succ]
    go_wp2_with (at_builtin; refine halt ?_)
    refine Halted.go ?_
    refine Rep.append_list T53 rfl _ _ rfl rfl G1.out.2.1 (L := []) (M := L.take ix) rfl G1.out.2.2.1 G1.out.2.2.2.1 (by rw [List.length_nil]; unfold maxLen; omega) (by rw [List.length_nil]; omega) G1.out.1.size ?_
    intro v4 W4 hown4 hb4 _
    rw [List.nil_append] at hown4
    obtain ⟨a4, c4, rfl, -, -⟩ := hown4.sl0
    rw [HT4.out] at hown4 ⊢
    have hbb := G1.out.1.trans hb4
    have hx4 := (hbb.block _ (lt_of_blk G.out.2.1)).trans G.out.2.1
    have G2 := Lib.hid (And.intro hbb (And.intro hown4 (And.intro (G.out.2.2.2.2.1.keep hbb) (And.intro G.out.2.2.2.2.2.1 (show RxT x (.slice a n c) W4 from ⟨cell_of hx4 rfl, free_of hx4⟩)))))
    clear hown4 hb4 hbb hx4 G1
    go_wp2_with fail
    refine ⟨fun _ => G2.out.2.2.2.2, ?_⟩
    refine T_one 16 (by kernel_rfl) ?_
    simp only [pick, List.getD_cons_zero, List.getD_cons_succ]
    go_wp2_with (at_builtin; refine halt ?_)
    refine Halted.go ?_
    refine Rep.append_list T53 rfl _ _ rfl rfl G2.out.2.1 (M := L.drop j) rfl G2.out.2.2.1 G2.out.2.2.2.1 (by rw [HT4.out]; unfold maxLen; omega) (by rw [HT4.out]; omega) G2.out.1.size ?_
    intro v6 W6 hown6 hb6 _
    obtain ⟨a6, c6, rfl, -, -⟩ := hown6.sl0
    rw [HD2.out] at hown6 ⊢
    obtain ⟨n6, hn6⟩ : ∃ n6, (L.filter fun y => decide (y.key ≠ k)).length = n6 := ⟨_, rfl⟩
    rw [hn6] at hown6 ⊢
    clear hn6
    have hbb := G2.out.1.trans hb6
    have hx6 := (hbb.block _ (lt_of_blk G.out.2.1)).trans G.out.2.1
    have G3 := Lib.hid (And.intro hbb (And.intro hown6 (And.intro hx6 (show RxT x (.slice a n c) W6 from ⟨cell_of hx6 rfl, free_of hx6⟩))))
    clear hown6 hb6 hbb hx6 G2
    go_wp2_with fail
    refine ⟨fun _ => G3.out.2.2.2, ?_⟩
    refine T_one 17 (by kernel_rfl) ?_
    simp only [pick, List.getD_cons_zero, List.getD_cons_succ]
    go_wp2_with fail
    refine ⟨fun _ => G3.out.2.2.2, ?_⟩
    refine T_one 18 (by kernel_rfl) ?_
    simp only [pick, List.getD_cons_zero, List.getD_cons_succ]
    go_wp2_with fail
    refine ⟨fun _ => G3.out.2.2.2, ?_⟩
    obtain ⟨hR, hbt⟩ := RefT.put G3.out.2.2.1 (Nat.lt_of_lt_of_le HXW.out G.out.1.size) G3.out.2.1 HOD.out rfl
    have G5 := Lib.hid (show RDel w (W6.setCell ⟨x, 0, none⟩ (.slice a6 n6 c6)) base x L k from ⟨⟨_, hR⟩, (But.of_below ((bcall F2.out.1 (Nat.le_refl _) G.out.1).trans (G3.out.1.mono (Nat.le_trans F2.out.1.size G.out.1.size))) [x]).trans hbt⟩)
    obtain ⟨f0, f1⟩ := G3.out.2.2.2
    clear hR hbt
    refine T_one 19 (by kernel_rfl) ?_
    simp only [pick, List.getD_cons_zero, List.getD_cons_succ]
    go_wp2_with fail
    refine ⟨fun h => absurd rfl h, ?_⟩
    refine T_done (by kernel_rfl) ?_ _
    go_wp2_with fail
    go_ret
    exact ⟨rfl, G5.out⟩
set_option maxRecDepth 100000 in
theorem rtsame {w : World} {oa ob : Option Addr} {n ca cb : Nat} {l : List Ov} (h1 : ROv.Sl w oa n ca l) (h2 : ROv.Sl w ob n cb l) : Calls Try.prog 36 #[.slice oa n ca, .slice ob n cb] w fun e w' => e = .returned (.bool true) ∧ Below w.heap.size w w' := by
  have hmax := h1.max
  have F := Lib.hid (And.intro h1 h2)
  clear h1 h2
  go_enter Try.func36, Try.ntmps36
  go_wp2_with fail
  go_loopw [5] (fun iv wr => ∃ i : Nat, i ≤ n ∧ iv = .int .i64 i ∧ Below w.heap.size w wr) (fun iv _ => n - (intOf iv).toNat)
  case atStart => exact ⟨0, Nat.zero_le _, rfl, Below.refl _ _⟩
  case round =>
    obtain ⟨i, hi, rfl, hb⟩ := hrel
    obtain ⟨w2, rfl⟩ : ∃ w2 : World, w2 = wr := ⟨_, rfl⟩
    by_cases hlt : i < n
    · have hil : ((i : Int) < (n : Int)) = True := by simp; omega
      have hi0 : ((0 : Int) ≤ (i : Int)) = True := by simp
      have hw3 := wrapS hlt hmax
      obtain ⟨b0, o0, rfl, hbb, hat⟩ := (F.out.1.keep hb).at hlt
      obtain ⟨b1, o1, rfl, hbb1, hat1⟩ := (F.out.2.keep hb).at hlt
      generalize l.getD i default = x at *
      have c0 := hat 0 (by decide)
      have c1 := hat 1 (by decide)
      have c2 := hat 2 (by decide)
      have c3 := hat 3 (by decide)
      have c4 := hat 4 (by decide)
      have d0 := hat1 0 (by decide)
      have d1 := hat1 1 (by decide)
      have d2 := hat1 2 (by decide)
      have d3 := hat1 3 (by decide)
      have d4 := hat1 4 (by decide)
      simp only [ROv, Nat.add_zero, List.getElem?_cons_zero, List.getElem?_cons_succ] at c0 c1 c2 c3 c4 d0 d1 d2 d3 d4
      have HB := Lib.hid hb.drew
      clear hb hat hat1 hbb hbb1
      go_wp2_with fail
      refine wp_region_quiet_tail (fun w' => w' = w2.drew) 8 (by kernel_rfl) (by kernel_rfl) rfl ?_
      simp only [List.take_succ_cons, List.take_zero, List.drop_succ_cons, List.drop_zero]
      iterate 8 ((with_reducible refine wpQuiet_step (fun K hK => ?_)); go_simp; first | (rw [if_neg (by decide)]; (with_reducible refine hK _ ?_); clear hK K) | ((with_reducible refine hK _ ?_); clear hK K) | (apply Exists.intro; (with_reducible refine ⟨fun w' hw' => ?_, hK _ ?_⟩); (subst hw'; first | (go_simp; first | exact rfl | exact ⟨rfl, rfl⟩) | exact rfl | exact ⟨rfl, rfl⟩); clear hK K))
      refine wpQuiet_nil ?_
      rintro _ rfl
      go_wp2_with fail
      exact ⟨⟨i + 1, hlt, by first | rw [hw3] | rw [Int.natCast_succ], HB.out⟩, by first | (rw [hw3]; exact mSucc hlt) | (rw [← Int.natCast_succ]; exact mSucc hlt)⟩
    · obtain rfl : n = i := by omega
      have hil : ((n : Int) < (n : Int)) = False := by simp
      have HB := Lib.hid hb
      clear hb
      go_wp2_with fail
      go_ret
      exact ⟨rfl, HB.out⟩
end Go.Proofs.Ytfmehahjjgalfaa
/- The reference's table: Expire. -/
namespace Go.Proofs.Ytfmehahjjgalfaa
open Go.RowKit

/-- two owned slices lie apart -/
def Apart (v u : Value) : Prop := ∀ b, v.ownBlock = some b → u.ownBlock ≠ some b
theorem own_lt {α : Type} [Inhabited α] {R : Rep α} {w : World} {base : Nat} {v : Value} {L : List α} (h : R.Own w base v L) {b : Nat} (hb : v.ownBlock = some b) : b < w.heap.size := by
  rcases h.cases with ⟨rfl, -⟩ | ⟨g, cap, rfl, -, hg, -⟩
  · cases hb
  · injection hb with hb; subst hb; exact hg
theorem Apart.symm {v u : Value} (h : Apart v u) : Apart u v := fun b hb hv => h b hv hb
structure RExp (w w' : World) (x : Nat) (L : List Ov) (now : Int) (v : Value) : Prop where
  own : ROv.Own w' w.heap.size v (L.filter (tillP now))
  tab : RefT w' w.heap.size x (L.filter fun y => !tillP now y)
  but : But w w' [x]
theorem filter_succ {L : List Ov} (p : Ov → Bool) {i : Nat} (hi : i < L.length) : (L.take (i + 1)).filter p = if p (L.getD i default) then (L.take i).filter p ++ [L.getD i default] else (L.take i).filter p := by
  rw [List.take_succ_eq_append_getElem hi, filter_snoc]
  simp [List.getD_eq_getElem?_getD, hi]
theorem filt_le (L : List Ov) (p : Ov → Bool) (i : Nat) : ((L.take i).filter p).length ≤ i := Nat.le_trans (List.length_filter_le _ _) (List.length_take_le _ _)
set_option maxRecDepth 100000 in
set_option maxHeartbeats 2000000 in
theorem rtexp_any {w : World} {base x : Nat} {L : List Ov} (H : RefT w base x L) (hlen : L.length ≤ 4611686) (now : Int) : Calls Try.prog 38 #[.pointer (some ⟨x, 0, none⟩), .int .i64 now] w fun e w' => ∃ v, e = .returned v ∧ RExp w w' x L now v := by
  obtain ⟨a, c, h0, hsl, -, -, -⟩ := H.len
  have HO := Lib.hid H.ord
  obtain ⟨n, hn⟩ : ∃ n, L.length = n := ⟨_, rfl⟩
  rw [hn] at h0 hsl hlen
  have HN := Lib.hid hn
  have hmax : n ≤ maxLen := hsl.max
  have F := Lib.hid (And.intro h0 hsl)
  have hc0 : w.cell? ⟨x, 0, none⟩ = some (.slice a n c) := cell_of h0 rfl
  clear h0 hsl hn H
  go_enter Try.func38, Try.ntmps38
  go_wp2_with fail
  clear hc0
  go_loopw [5, 6, 7] (fun gv lv iv wr => ∃ i : Nat, i ≤ n ∧ iv = .int .i64 i ∧ ROv.Own wr w.heap.size gv ((L.take i).filter (tillP now)) ∧ ROv.Own wr w.heap.size lv ((L.take i).filter fun y => !tillP now y) ∧ Apart gv lv ∧ Below w.heap.size w wr) (fun _ _ iv _ => n - (intOf iv).toNat)
  case atStart => exact ⟨0, Nat.zero_le _, rfl, Rep.Own.nil _ _, Rep.Own.nil _ _, fun b hb => (by cases hb), Below.refl _ _⟩
  case round =>
    obtain ⟨i, hi, rfl, hg, hl, hap, hb⟩ := hrel
    obtain ⟨w2, rfl⟩ : ∃ w2 : World, w2 = wr := ⟨_, rfl⟩
    have c0 : w2.cell? ⟨x, 0, none⟩ = some (.slice a n c) := cell_of ((hb.block _ (lt_of_blk F.out.1)).trans F.out.1) rfl
    by_cases hlt : i < n
    · have hil : ((i : Int) < (n : Int)) = True := by simp; omega
      have hi0 : ((0 : Int) ≤ (i : Int)) = True := by simp
      have hw3 := wrapS hlt hmax
      have hsg := filter_succ (L := L) (tillP now) (i := i) (by rw [HN.out]; exact hlt)
      have hsl2 := filter_succ (L := L) (fun y => !tillP now y) (i := i) (by rw [HN.out]; exact hlt)
      have hfg := filt_le L (tillP now) i
      have hfl := filt_le L (fun y => !tillP now y) i
      obtain ⟨b, o, rfl, hbb, hat⟩ := (F.out.2.keep hb).at hlt
      generalize L.getD i default = y at *
      have y0 := hat 0 (by decide)
      have y1 := hat 1 (by decide)
      have y2 := hat 2 (by decide)
      have y3 := hat 3 (by decide)
      have y4 := hat 4 (by decide)
      simp only [ROv, Nat.add_zero, List.getElem?_cons_zero, List.getElem?_cons_succ] at y0 y1 y2 y3 y4
      have G := Lib.hid (And.intro hb (And.intro hg (And.intro hl (And.intro hap (And.intro hsg (And.intro hsl2 (And.intro hfg hfl)))))))
      have hal := (Below.refl w2.heap.size w2).alloc (Nat.le_refl _) (.cells #[.int .i64 y.r, .int .u32 (y.ad : Int), .int .i64 y.ln, .int .i64 y.id, .int .i64 y.till] 62)
      have hone : ROv.Sl (w2.alloc (.cells #[.int .i64 y.r, .int .u32 (y.ad : Int), .int .i64 y.ln, .int .i64 y.id, .int .i64 y.till] 62)) (some ⟨w2.heap.size, 0, none⟩) 1 1 [y] := Rep.sl_one (R := ROv) (y := y) (hnew _ _)
      have HA := Lib.hid (And.intro hal hone)
      obtain ⟨og, cg, eg, -, -⟩ := hg.sl0
      obtain ⟨ol, cl2, el, -, -⟩ := hl.sl0
      obtain ⟨ng, hng⟩ : ∃ k, ((L.take i).filter (tillP now)).length = k := ⟨_, rfl⟩
      obtain ⟨nl, hnl⟩ : ∃ k, ((L.take i).filter fun y => !tillP now y).length = k := ⟨_, rfl⟩
      rw [hng] at eg
      rw [hnl] at el
      subst eg el
      have HL := Lib.hid (And.intro hng hnl)
      clear hb hg hl hap hsg hsl2 hfg hfl hbb hat hal hone hng hnl
      cases hp : tillP now y with
      | true =>
        have hyt : (y.till < now) = True := eq_true (of_decide_eq_true hp)
        have HP := Lib.hid hp
        clear hp
        go_wp2_with (at_builtin; refine halt ?_)
        refine Halted.go ?_
        clear c0 y0 y1 y2 y3 y4
        generalize w2.alloc (.cells #[.int .i64 y.r, .int .u32 (y.ad : Int), .int .i64 y.ln, .int .i64 y.id, .int .i64 y.till] 62) = w3 at *
        refine Rep.append_list2 T53 rfl _ _ rfl rfl (G.out.2.1.below HA.out.1) rfl HA.out.2 (by omega) (by have := G.out.2.2.2.2.2.2.1; unfold maxLen; omega) (by have := G.out.2.2.2.2.2.2.1; omega) (Nat.le_trans G.out.1.size HA.out.1.size) ?_
        intro v6 w6 hown6 hb6 hbad
        obtain ⟨a6, c6, rfl, -, -⟩ := hown6.sl0
        have hl6 : ROv.Own w6 w.heap.size (.slice ol nl cl2) ((L.take i).filter fun y => !tillP now y) := (G.out.2.2.1.below HA.out.1).keep fun b hb => (hbad b (fun h => G.out.2.2.2.1 b h hb) (own_lt (G.out.2.2.1.below HA.out.1) hb)).2
        have hap6 : Apart (.slice a6 ((L.take i).filter (tillP now) ++ [y]).length c6) (.slice ol nl cl2) := fun b hb hb2 => (hbad b (fun h => G.out.2.2.2.1 b h hb2) (own_lt (G.out.2.2.1.below HA.out.1) hb2)).1 hb
        have e1 : (L.take (i + 1)).filter (tillP now) = (L.take i).filter (tillP now) ++ [y] := by rw [G.out.2.2.2.2.1, HP.out, if_pos rfl]
        have e2 : ((L.take (i + 1)).filter fun y => !tillP now y) = (L.take i).filter fun y => !tillP now y := by rw [G.out.2.2.2.2.2.1, HP.out]; rfl
        obtain ⟨n6, hn6⟩ : ∃ k, ((L.take i).filter (tillP now) ++ [y]).length = k := ⟨_, rfl⟩
        rw [hn6] at hown6 hap6 ⊢
        rw [← e1] at hown6
        rw [← e2] at hl6
        have G2 := Lib.hid (And.intro hown6 (And.intro hl6 (And.intro hap6 (G.out.1.trans ((HA.out.1.mono G.out.1.size).trans hb6)))))
        clear hown6 hb6 hbad hl6 hap6 e1 e2 hn6
        go_wp2_with fail
        exact ⟨⟨i + 1, hlt, by first | rw [hw3] | rw [Int.natCast_succ], G2.out⟩, by first | (rw [hw3]; exact mSucc hlt) | (rw [← Int.natCast_succ]; exact mSucc hlt)⟩
      | false =>
        have hyt : (y.till < now) = False := eq_false (of_decide_eq_false hp)
        have HP := Lib.hid hp
        clear hp
        go_wp2_with (at_builtin; refine halt ?_)
        refine Halted.go ?_
        clear c0 y0 y1 y2 y3 y4
        generalize w2.alloc (.cells #[.int .i64 y.r, .int .u32 (y.ad : Int), .int .i64 y.ln, .int .i64 y.id, .int .i64 y.till] 62) = w3 at *
        refine Rep.append_list2 T53 rfl _ _ rfl rfl (G.out.2.2.1.below HA.out.1) rfl HA.out.2 (by omega) (by have := G.out.2.2.2.2.2.2.2; unfold maxLen; omega) (by have := G.out.2.2.2.2.2.2.2; omega) (Nat.le_trans G.out.1.size HA.out.1.size) ?_
        intro v6 w6 hown6 hb6 hbad
        obtain ⟨a6, c6, rfl, -, -⟩ := hown6.sl0
        have hg6 : ROv.Own w6 w.heap.size (.slice og ng cg) ((L.take i).filter (tillP now)) := (G.out.2.1.below HA.out.1).keep fun b hb => (hbad b (fun h => G.out.2.2.2.1 b hb h) (own_lt (G.out.2.1.below HA.out.1) hb)).2
        have hap6 : Apart (.slice og ng cg) (.slice a6 (((L.take i).filter fun y => !tillP now y) ++ [y]).length c6) := fun b hb hb2 => (hbad b (fun h => G.out.2.2.2.1 b hb h) (own_lt (G.out.2.1.below HA.out.1) hb)).1 hb2
        have e1 : (L.take (i + 1)).filter (tillP now) = (L.take i).filter (tillP now) := by rw [G.out.2.2.2.2.1, HP.out]; rfl
        have e2 : ((L.take (i + 1)).filter fun y => !tillP now y) = ((L.take i).filter fun y => !tillP now y) ++ [y] := by rw [G.out.2.2.2.2.2.1, HP.out]; rfl
        obtain ⟨n6, hn6⟩ : ∃ k, (((L.take i).filter fun y => !tillP now y) ++ [y]).length = k := ⟨_, rfl⟩
        rw [hn6] at hown6 hap6 ⊢
        rw [← e2] at hown6
        rw [← e1] at hg6
        have G2 := Lib.hid (And.intro hg6 (And.intro hown6 (And.intro hap6 (G.out.1.trans ((HA.out.1.mono G.out.1.size).trans hb6)))))
        clear hown6 hb6 hbad hg6 hap6 e1 e2 hn6
        go_wp2_with fail
        exact ⟨⟨i + 1, hlt, by first | rw [hw3] | rw [Int.natCast_succ], G2.out⟩, by first | (rw [hw3]; exact mSucc hlt) | (rw [← Int.natCast_succ]; exact mSucc hlt)⟩
    · obtain rfl : n = i := by omega
      have hil : ((n : Int) < (n : Int)) = False := by simp
      rw [List.take_of_length_le (by rw [HN.out]; exact Nat.le_refl _)] at hg hl
      obtain ⟨ol, cl2, el, -, -⟩ := hl.sl0
      obtain ⟨og, cg, eg, -, -⟩ := hg.sl0
      obtain ⟨ng, hng⟩ : ∃ k, (L.filter (tillP now)).length = k := ⟨_, rfl⟩
      obtain ⟨nl, hnl⟩ : ∃ k, (L.filter fun y => !tillP now y).length = k := ⟨_, rfl⟩
      rw [hng] at eg
      rw [hnl] at el
      subst eg el
      have hx2 : w2.heap[x]? = some (.cells #[.slice a n c] 55 (0, 0)) := (hb.block _ (lt_of_blk F.out.1)).trans F.out.1
      have f2 : w2.frozen? ⟨x, 0, none⟩ = false := free_of hx2
      have hxw := lt_of_blk F.out.1
      obtain ⟨hR, hbt⟩ := RefT.put hx2 hxw hl (HO.out.filter _) rfl
      have G := Lib.hid (show RExp w (w2.setCell ⟨x, 0, none⟩ (.slice ol nl cl2)) x L now (.slice og ng cg) from ⟨Rep.Own.but hg hbt (by simp; exact hxw), hR, (But.of_below hb [x]).trans hbt⟩)
      clear hb hg hl hap hx2 hxw hR hbt hng hnl
      go_wp2_with fail
      go_ret
      exact ⟨_, rfl, G.out⟩
end Go.Proofs.Ytfmehahjjgalfaa
/- one, Ten. -/
namespace Go.Proofs.Ytfmehahjjgalfaa
open Go.RowKit

theorem ten1 (w : World) : Calls Try.prog 60 #[.int .i64 1] w fun e w' => e = .returned (.agg #[.int .u32 167837696, .int .i64 16]) ∧ Below w.heap.size w w' := by
  have hb : bits .and .i64 1 255 = 1 := by decide
  have HB := Lib.hid ((Below.refl w.heap.size w).alloc (Nat.le_refl _) (.cells #[.int .u32 167837696, .int .i64 16] 58))
  go_enter Try.func60, Try.ntmps60
  go_wp2_with fail
  refine ret_cell (b := w.heap.size) rfl rfl rfl (hnew _ _) Try.underlying58 rfl (by kernel_rfl) ?_
  exact ⟨rfl, HB.out⟩
theorem ten2 (w : World) : Calls Try.prog 60 #[.int .i64 2] w fun e w' => e = .returned (.agg #[.int .u32 167903232, .int .i64 16]) ∧ Below w.heap.size w w' := by
  have hb : bits .and .i64 2 255 = 2 := by decide
  have HB := Lib.hid ((Below.refl w.heap.size w).alloc (Nat.le_refl _) (.cells #[.int .u32 167903232, .int .i64 16] 58))
  go_enter Try.func60, Try.ntmps60
  go_wp2_with fail
  refine ret_cell (b := w.heap.size) rfl rfl rfl (hnew _ _) Try.underlying58 rfl (by kernel_rfl) ?_
  exact ⟨rfl, HB.out⟩
theorem ten7 (w : World) : Calls Try.prog 60 #[.int .i64 7] w fun e w' => e = .returned (.agg #[.int .u32 168230912, .int .i64 16]) ∧ Below w.heap.size w w' := by
  have hb : bits .and .i64 7 255 = 7 := by decide
  have HB := Lib.hid ((Below.refl w.heap.size w).alloc (Nat.le_refl _) (.cells #[.int .u32 168230912, .int .i64 16] 58))
  go_enter Try.func60, Try.ntmps60
  go_wp2_with fail
  refine ret_cell (b := w.heap.size) rfl rfl rfl (hnew _ _) Try.underlying58 rfl (by kernel_rfl) ?_
  exact ⟨rfl, HB.out⟩
theorem one1 (u : Int) (w : World) : Calls Try.prog 66 #[.int .i64 1, .int .i64 u] w fun e w' => e = .returned (.agg #[.int .i64 1, .int .u32 167837696, .int .i64 16, .int .i64 2, .int .i64 u]) ∧ Below w.heap.size w w' := by
  have hal := (Below.refl w.heap.size w).alloc (Nat.le_refl _) (.cells #[.int .i64 0, .int .u32 0, .int .i64 0, .int .i64 0, .int .i64 0] 62)
  have hz : (w.alloc (.cells #[.int .i64 0, .int .u32 0, .int .i64 0, .int .i64 0, .int .i64 0] 62)).heap[w.heap.size]? = some (.cells #[.int .i64 0, .int .u32 0, .int .i64 0, .int .i64 0, .int .i64 0] 62) := hnew _ _
  have F := Lib.hid (And.intro hal hz)
  clear hal hz
  go_enter Try.func66, Try.ntmps66
  go_wp2_with fail
  refine (ten1 _).mono ?_
  rintro e W1 ⟨rfl, hb⟩
  have F2 := Lib.hid (And.intro (bcall F.out.1 (Nat.le_refl _) hb) ((hb.block _ (lt_of_blk F.out.2)).trans F.out.2))
  clear hb F
  go_wp2_with (with_reducible refine halt_store 62 (x := .tmp 4) rfl ?_)
  refine Halted.go ?_
  refine store_whole rfl 62 _ _ rfl w.heap.size #[.int .i64 1, .int .u32 167837696, .int .i64 16, .int .i64 2, .int .i64 u] rfl rfl F2.out.2 rfl (by kernel_rfl) (by simp [Value.oneCell']) ?_
  intro Wz hwz hsz
  have HZ := Lib.hid (And.intro hwz (F2.out.1.trans (hsz.below (Nat.le_refl _))))
  clear hwz hsz
  go_wp2_with fail
  refine ret_cell rfl rfl rfl HZ.out.1 Try.underlying62 rfl (by kernel_rfl) ?_
  exact ⟨rfl, HZ.out.2⟩
theorem one2 (u : Int) (w : World) : Calls Try.prog 66 #[.int .i64 2, .int .i64 u] w fun e w' => e = .returned (.agg #[.int .i64 1, .int .u32 167903232, .int .i64 16, .int .i64 2, .int .i64 u]) ∧ Below w.heap.size w w' := by
  have hal := (Below.refl w.heap.size w).alloc (Nat.le_refl _) (.cells #[.int .i64 0, .int .u32 0, .int .i64 0, .int .i64 0, .int .i64 0] 62)
  have hz : (w.alloc (.cells #[.int .i64 0, .int .u32 0, .int .i64 0, .int .i64 0, .int .i64 0] 62)).heap[w.heap.size]? = some (.cells #[.int .i64 0, .int .u32 0, .int .i64 0, .int .i64 0, .int .i64 0] 62) := hnew _ _
  have F := Lib.hid (And.intro hal hz)
  clear hal hz
  go_enter Try.func66, Try.ntmps66
  go_wp2_with fail
  refine (ten2 _).mono ?_
  rintro e W1 ⟨rfl, hb⟩
  have F2 := Lib.hid (And.intro (bcall F.out.1 (Nat.le_refl _) hb) ((hb.block _ (lt_of_blk F.out.2)).trans F.out.2))
  clear hb F
  go_wp2_with (with_reducible refine halt_store 62 (x := .tmp 4) rfl ?_)
  refine Halted.go ?_
  refine store_whole rfl 62 _ _ rfl w.heap.size #[.int .i64 1, .int .u32 167903232, .int .i64 16, .int .i64 2, .int .i64 u] rfl rfl F2.out.2 rfl (by kernel_rfl) (by simp [Value.oneCell']) ?_
  intro Wz hwz hsz
  have HZ := Lib.hid (And.intro hwz (F2.out.1.trans (hsz.below (Nat.le_refl _))))
  clear hwz hsz
  go_wp2_with fail
  refine ret_cell rfl rfl rfl HZ.out.1 Try.underlying62 rfl (by kernel_rfl) ?_
  exact ⟨rfl, HZ.out.2⟩
theorem one7 (u : Int) (w : World) : Calls Try.prog 66 #[.int .i64 7, .int .i64 u] w fun e w' => e = .returned (.agg #[.int .i64 1, .int .u32 168230912, .int .i64 16, .int .i64 2, .int .i64 u]) ∧ Below w.heap.size w w' := by
  have hal := (Below.refl w.heap.size w).alloc (Nat.le_refl _) (.cells #[.int .i64 0, .int .u32 0, .int .i64 0, .int .i64 0, .int .i64 0] 62)
  have hz : (w.alloc (.cells #[.int .i64 0, .int .u32 0, .int .i64 0, .int .i64 0, .int .i64 0] 62)).heap[w.heap.size]? = some (.cells #[.int .i64 0, .int .u32 0, .int .i64 0, .int .i64 0, .int .i64 0] 62) := hnew _ _
  have F := Lib.hid (And.intro hal hz)
  clear hal hz
  go_enter Try.func66, Try.ntmps66
  go_wp2_with fail
  refine (ten7 _).mono ?_
  rintro e W1 ⟨rfl, hb⟩
  have F2 := Lib.hid (And.intro (bcall F.out.1 (Nat.le_refl _) hb) ((hb.block _ (lt_of_blk F.out.2)).trans F.out.2))
  clear hb F
  go_wp2_with (with_reducible refine halt_store 62 (x := .tmp 4) rfl ?_)
  refine Halted.go ?_
  refine store_whole rfl 62 _ _ rfl w.heap.size #[.int .i64 1, .int .u32 168230912, .int .i64 16, .int .i64 2, .int .i64 u] rfl rfl F2.out.2 rfl (by kernel_rfl) (by simp [Value.oneCell']) ?_
  intro Wz hwz hsz
  have HZ := Lib.hid (And.intro hwz (F2.out.1.trans (hsz.below (Nat.le_refl _))))
  clear hwz hsz
  go_wp2_with fail
  refine ret_cell rfl rfl rfl HZ.out.1 Try.underlying62 rfl (by kernel_rfl) ?_
  exact ⟨rfl, HZ.out.2⟩
end Go.Proofs.Ytfmehahjjgalfaa
