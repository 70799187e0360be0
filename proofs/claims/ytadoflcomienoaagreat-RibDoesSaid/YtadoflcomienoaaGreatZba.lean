/- The reference: Prefixes, others. -/
import Derived.Test.YtadoflcomienoaaGreatZaz
import Derived.Test.YtadoflcomienoaaGreatZaj
import Derived.Test.YtadoflcomienoaaGreatZau
namespace Go.Proofs.YtadoflcomienoaaGreat.Rr
open Go.RowKit

structure PfxL (L : List RtV) (out : List PK) : Prop where
  ord : Kl.Ordered ltK out
  is : ∀ k, k ∈ out ↔ ∃ x ∈ L, x.k = k
theorem lt_k {a b : RtV} (h : ltX a b = true) : ltK a.k b.k = true ∨ a.k = b.k := by
  unfold ltX at h
  rw [ltR_iff] at h
  exact h.imp id fun h => h.1
theorem ord_get {L : List RtV} (h : Ord L) {i j : Nat} (hij : i < j) (hj : j < L.length) : ltX (L.getD i default) (L.getD j default) = true := by
  have h1 := (List.pairwise_iff_getElem.1 h) i j (by omega) hj hij
  rw [List.getD_eq_getElem?_getD, List.getElem?_eq_getElem (by omega), List.getD_eq_getElem?_getD, List.getElem?_eq_getElem hj]
  exact h1
theorem mem_take_get {L : List RtV} {i : Nat} (hi : i ≤ L.length) {x : RtV} (hx : x ∈ L.take i) : ∃ m, m < i ∧ x = L.getD m default := by
  obtain ⟨m, hm, rfl⟩ := List.mem_iff_getElem.1 hx
  rw [List.length_take] at hm
  refine ⟨m, by omega, ?_⟩
  rw [List.getElem_take, List.getD_eq_getElem?_getD, List.getElem?_eq_getElem (by omega)]
  rfl
theorem PfxL.nil : PfxL [] [] := ⟨List.Pairwise.nil, fun k => by simp⟩
theorem take_succ_getD {L : List RtV} {i : Nat} (hi : i < L.length) : L.take (i + 1) = L.take i ++ [L.getD i default] := by
  rw [List.take_succ_eq_append_getElem hi, List.getD_eq_getElem?_getD, List.getElem?_eq_getElem hi]
  rfl
theorem PfxL.same {L : List RtV} {out : List PK} {j : Nat} (h : PfxL (L.take (j + 1)) out) (hj : j + 1 < L.length) (he : (L.getD (j + 1) default).k = (L.getD j default).k) : PfxL (L.take (j + 1 + 1)) out := by
  refine ⟨h.ord, fun k => ?_⟩
  rw [h.is, take_succ_getD hj]
  simp only [List.mem_append, List.mem_singleton]
  constructor
  · rintro ⟨x, h1, h2⟩; exact ⟨x, .inl h1, h2⟩
  · rintro ⟨x, h1 | h1, h2⟩
    · exact ⟨x, h1, h2⟩
    · refine ⟨L.getD j default, ?_, by rw [← he, ← h1, h2]⟩
      rw [take_succ_getD (by omega)]
      simp
theorem PfxL.more {L : List RtV} {out : List PK} {i : Nat} (ho : Ord L) (h : PfxL (L.take i) out) (hi : i < L.length) (hne : i = 0 ∨ (L.getD i default).k ≠ (L.getD (i - 1) default).k) : PfxL (L.take (i + 1)) (out ++ [(L.getD i default).k]) := by
  constructor
  · unfold Kl.Ordered
    rw [List.pairwise_append]
    refine ⟨h.ord, List.pairwise_singleton _ _, fun a ha b hb => ?_⟩
    rw [List.mem_singleton] at hb
    subst hb
    obtain ⟨x, hx, rfl⟩ := (h.is a).1 ha
    obtain ⟨m, hm, rfl⟩ := mem_take_get (by omega) hx
    rcases lt_k (ord_get ho hm hi) with h1 | h1
    · exact h1
    · exfalso
      rcases hne with h2 | h2
      · omega
      · rcases lt_k (ord_get ho (show i - 1 < i by omega) hi) with h3 | h3
        · by_cases h4 : m = i - 1
          · rw [h4] at h1; exact h2 h1.symm
          · rcases lt_k (ord_get ho (show m < i - 1 by omega) (by omega)) with h5 | h5
            · rw [h1, ltK_asymm _ _ h3] at h5; cases h5
            · rw [← h5, h1, ltK_irr] at h3; cases h3
        · exact h2 h3.symm
  · intro k
    rw [List.mem_append, List.mem_singleton, h.is, take_succ_getD hi]
    simp only [List.mem_append, List.mem_singleton]
    constructor
    · rintro (⟨x, h1, h2⟩ | h1)
      · exact ⟨x, .inl h1, h2⟩
      · exact ⟨_, .inr rfl, h1.symm⟩
    · rintro ⟨x, h1 | h1, h2⟩
      · exact .inl ⟨x, h1, h2⟩
      · exact .inr (by rw [← h2, h1])
theorem PfxL.len {L : List RtV} {out : List PK} (h : PfxL L out) : out.length ≤ L.length := by
  have hnd : out.Nodup := by
    have := ordered_nodup (key := fun k : PK => k) h.ord
    simpa using this
  have := nodup_len (M := L.map RtV.k) hnd fun k hk => by
    obtain ⟨x, hx, rfl⟩ := (h.is k).1 hk
    exact List.mem_map.2 ⟨x, hx, rfl⟩
  simpa using this
structure RpS (q b0 o0 o1 : Nat) (v : Value) (x y : RtV) (W : World) : Prop where
  c : W.cell? ⟨q, 0, none⟩ = some v
  e : RRt.At W b0 o0 x
  d : RRt.At W b0 o1 y
set_option maxRecDepth 100000 in
set_option maxHeartbeats 8000000 in
theorem xprefixes_any {w : World} {q : Nat} {asn room rf : Int} {s : SlV RtV} (H : RefX w q asn room rf s) (ho : Ord s.l) (hn : s.n ≤ 4000000) : Calls Tryz.prog 71 #[.pointer (some ⟨q, 0, none⟩)] w fun e w' => ∃ v L, e = .returned v ∧ RPk.Own w' w.heap.size v L ∧ PfxL s.l L ∧ Below w.heap.size w w' := by
  obtain ⟨a1, n, c, L⟩ := s
  have hmax : n ≤ maxLen := H.sl.sl.max
  have HL := Lib.hid (show n = L.length from H.sl.sl.len)
  have F1 := Lib.hid (And.intro H (And.intro ho hn))
  dsimp only
  clear H ho hn
  go_enter Tryz.func71, Tryz.ntmps71
  go_wp2_with fail
  go_loopw [3, 4] (fun ov iv wr => ∃ (i : Nat) (out : List PK), i ≤ n ∧ iv = .int .i64 i ∧ RPk.Own wr w.heap.size ov out ∧ PfxL (L.take i) out ∧ Below w.heap.size w wr) (fun _ iv _ => n - (intOf iv).toNat)
  case atStart => exact ⟨0, [], Nat.zero_le _, rfl, Rep.Own.nil _ _, PfxL.nil, Below.refl _ _⟩
  case round =>
    obtain ⟨i, out, hi, rfl, hown, hpf, hb⟩ := hrel
    obtain ⟨w2, rfl⟩ : ∃ w2 : World, w2 = wr := ⟨_, rfl⟩
    obtain ⟨oo, oc, rfl, -, -⟩ := hown.sl0
    have hblk := (hb.block _ (lt_of_blk F1.out.1.blk)).trans F1.out.1.blk
    have f0 : w2.cell? ⟨q, 0, none⟩ = some (.slice a1 n c) := cell_of hblk rfl
    by_cases hlt : i < n
    · have hil : ((i : Int) < (n : Int)) = True := by simp; omega
      have hi0 : ((0 : Int) ≤ (i : Int)) = True := by simp
      have hw3 := wrapS hlt hmax
      have hiL : i < L.length := by rw [← HL.out]; exact hlt
      have hd := (Below.refl w2.heap.size w2).drew
      have hbd := bcall hb (Nat.le_refl _) hd
      obtain ⟨b0, o0, ea, hbb, hat⟩ := (F1.out.1.sl.keep hbd fun _ _ h => h.keep hbd).sl.at hlt
      have hall := fun (m : Nat) (hm : m < n) => (F1.out.1.sl.keep hbd fun _ _ h => h.keep hbd).sl.at hm
      dsimp only at ea hat hall
      subst ea
      have hlo : out.length ≤ n := by
        have h1 := hpf.len
        rw [List.length_take] at h1
        omega
      obtain ⟨l0, hln⟩ : ∃ z, out.length = z := ⟨_, rfl⟩
      rw [hln] at hown hlo ⊢
      have hbl2 := (hd.block _ (lt_of_blk hblk)).trans hblk
      have f1 : w2.drew.cell? ⟨q, 0, none⟩ = some (.slice (some ⟨b0, o0, none⟩) n c) := cell_of hbl2 rfl
      have G := Lib.hid (And.intro (hown.below hd) (And.intro hbd (And.intro hpf (And.intro hln hlo))))
      cases i with
      | zero =>
        have HS := Lib.hid (show RpS q b0 (o0 + 0 * 10) (o0 + 0 * 10) (.slice (some ⟨b0, o0, none⟩) n c) (L.getD 0 default) (L.getD 0 default) w2.drew from ⟨f1, hat, hat⟩)
        have c1 := hat 1 (by decide)
        have c2 := hat 2 (by decide)
        simp only [RRt, Nat.zero_mul, Nat.add_zero, List.getElem?_cons_zero, List.getElem?_cons_succ] at c1 c2
        have hmore := PfxL.more F1.out.2.1 hpf hiL (.inl rfl)
        obtain ⟨x, hx⟩ : ∃ x, L.getD 0 default = x := ⟨_, rfl⟩
        rw [hx] at hmore c1 c2 HS
        have HM := Lib.hid hmore
        clear hown hb hpf hln hlo hat hall hbb hiL hbd hd hblk hbl2 hmore hx
        go_wp2_with fail
        refine wp_region_heldP (RpS q b0 (o0 + 0 * 10) (o0 + 0 * 10) (.slice (some ⟨b0, o0, none⟩) n c) x x) (by kernel_rfl) ?_
        generalize w2.drew = w3 at *
        refine held_reads [0, 1, 2, 3, 4, 5, 6, 7, 8, 9, 10, 11, 12, 13, 14, 15, 16, 17, 18, 19, 20, 21, 22, 23] (g := 0) rfl (by kernel_rfl) HS.out (fun _ _ d _ _ h => by cases d <;> exact h) ?_
        simp only [pick, List.getD_cons_zero, List.getD_cons_succ]
        iterate 24 ((with_reducible refine wpRead_step (fun K hK => ?_)); go_simp; first | (rw [if_neg (by decide)]; (with_reducible refine hK _ ?_); clear hK K) | ((with_reducible refine hK _ ?_); clear hK K) | (apply Exists.intro; (with_reducible refine ⟨fun w' hw' => ?_, hK _ ?_⟩); ((go_simp; first | exact rfl | exact ⟨rfl, rfl⟩)); clear hK K))
        with_reducible refine wpRead_nil ?_
        refine wpAnyH_done (by kernel_rfl) ?_ _
        try clear f0
        go_wp2_with (at_builtin; refine halt ?_)
        refine Halted.go ?_
        clear f1 c1 c2
        have hal := (Below.refl w3.heap.size w3).alloc (Nat.le_refl _) (.cells #[.int .u32 (x.k.1 : Int), .int .i64 x.k.2] 58)
        have hl := G.out.2.2.2.1
        have hl2 := G.out.2.2.2.2
        have hnn := F1.out.2.2
        refine Rep.append_list TPk rfl _ _ rfl rfl (G.out.1.below hal) rfl (Rep.sl_one (R := RPk) (y := x.k) (hnew _ _)) (fun h => by cases h) (by rw [hl]; unfold maxLen; omega) (by rw [hl]; omega) (Nat.le_trans G.out.2.1.size hal.size) ?_
        intro v9 w9 hown9 hb9 _
        obtain ⟨o9, c9, rfl, -, -⟩ := hown9.sl0
        obtain ⟨l9, hl9⟩ : ∃ z, (out ++ [x.k]).length = z := ⟨_, rfl⟩
        rw [hl9] at hown9 ⊢
        have HK := Lib.hid (And.intro hown9 (And.intro ((bcall G.out.2.1 (Nat.le_refl _) hal).trans hb9) hl9))
        clear hown9 hb9 hal hl9 hl hl2 hnn
        go_wp2_with fail
        have h1 := HK.out.1
        rw [← HK.out.2.2] at h1 ⊢
        exact ⟨⟨0 + 1, out ++ [x.k], hlt, by first | rfl | rw [hw3] | rw [Int.natCast_succ], h1, HM.out, HK.out.2.1⟩, by first | (rw [hw3]; exact mSucc hlt) | (rw [← Int.natCast_succ]; exact mSucc hlt) | (show n - 1 < n - 0; omega)⟩
      | succ j =>
        obtain ⟨b1, o1, eb, -, hatj⟩ := hall j (by omega)
        injection eb with eb
        injection eb with eb1 eb2
        subst eb1 eb2
        have hwj : wrap64 (((j + 1 : Nat) : Int) - 1) = (j : Int) := by unfold wrap64; unfold maxLen at hmax; omega
        have hje : (((j + 1 : Nat) : Int) - 1) = (j : Int) := by omega
        have hjk : IntKind.i64.wrap (j : Int) = (j : Int) := by rw [IntKind.wrap_i64]; unfold maxLen at hmax; omega
        have hj0 : ((0 : Int) ≤ (j : Int)) = True := by simp
        have hjn : ((j : Int) < (n : Int)) = True := by simp; omega
        have hjz : (((j + 1 : Nat) : Int) == 0) = false := by rw [beq_eq_false_iff_ne]; omega
        have HS := Lib.hid (show RpS q b0 (o0 + (j + 1) * 10) (o0 + j * 10) (.slice (some ⟨b0, o0, none⟩) n c) (L.getD (j + 1) default) (L.getD j default) w2.drew from ⟨f1, hat, hatj⟩)
        have c1 := hat 1 (by decide)
        have c2 := hat 2 (by decide)
        simp only [RRt, List.getElem?_cons_zero, List.getElem?_cons_succ] at c1 c2
        have hmore := fun h => PfxL.more F1.out.2.1 hpf hiL (.inr h)
        have hsame := fun h => PfxL.same hpf hiL h
        rw [show j + 1 - 1 = j from rfl] at hmore
        obtain ⟨x, hx⟩ : ∃ x, L.getD (j + 1) default = x := ⟨_, rfl⟩
        obtain ⟨y, hy⟩ : ∃ y, L.getD j default = y := ⟨_, rfl⟩
        rw [hx, hy] at hmore hsame HS
        rw [hx] at c1 c2
        have HM := Lib.hid (And.intro hsame hmore)
        obtain ⟨b1', e1⟩ : ∃ b, ((x.k.1 : Int) == (y.k.1 : Int)) = b := ⟨_, rfl⟩
        obtain ⟨b2', e2⟩ : ∃ b, (x.k.2 == y.k.2) = b := ⟨_, rfl⟩
        have HKP := Lib.hid (show (b1' && b2') = decide (x.k = y.k) by
          rw [← e1, ← e2, Bool.eq_iff_iff]
          simp only [decide_eq_true_eq, Bool.and_eq_true, beq_iff_eq]
          constructor
          · rintro ⟨h1, h2⟩; exact Prod.ext (by omega) h2
          · intro h; rw [h]; exact ⟨rfl, rfl⟩)
        have hcase : b1' = false ∨ (b1' = true ∧ b2' = false) ∨ (b1' = true ∧ b2' = true) := by cases b1' <;> cases b2' <;> simp
        obtain ⟨i, hij⟩ : ∃ i, j + 1 = i := ⟨_, rfl⟩
        rw [hij] at HS c1 c2 hwj hjz hje HM G hil hi0 hw3 hlt hi ⊢
        clear hown hb hpf hln hlo hat hatj hall hbb hiL hbd hd hblk hbl2 hmore hsame hx hy hij
        rcases hcase with rfl | ⟨rfl, rfl⟩ | ⟨rfl, rfl⟩
        rotate_right 1
        · go_wp2_with fail
          refine wp_region_heldP (RpS q b0 (o0 + i * 10) (o0 + j * 10) (.slice (some ⟨b0, o0, none⟩) n c) x y) (by kernel_rfl) ?_
          generalize w2.drew = w3 at *
          refine held_reads [0, 1, 2, 3, 4, 5, 6, 7, 8, 9, 10, 11, 12, 13, 14, 15, 16, 17, 18, 19, 20, 21, 22, 23] (g := 0) rfl (by kernel_rfl) HS.out (fun _ _ d _ _ h => by cases d <;> exact h) ?_
          simp only [pick, List.getD_cons_zero, List.getD_cons_succ]
          iterate 6 ((with_reducible refine wpRead_step (fun K hK => ?_)); go_simp; first | (rw [if_neg (by decide)]; (with_reducible refine hK _ ?_); clear hK K) | ((with_reducible refine hK _ ?_); clear hK K) | (apply Exists.intro; (with_reducible refine ⟨fun w' hw' => ?_, hK _ ?_⟩); ((go_simp; first | exact rfl | exact ⟨rfl, rfl⟩)); clear hK K))
          ((with_reducible refine wpRead_step (fun K hK => ?_)); go_simp; first | (rw [if_neg (by decide)]; (with_reducible refine hK _ ?_); clear hK K) | ((with_reducible refine hK _ ?_); clear hK K) | (apply Exists.intro; (with_reducible refine ⟨fun w' hw' => ?_, hK _ ?_⟩); ((have f0 := hw'.c; go_simp; first | exact rfl | exact ⟨rfl, rfl⟩)); clear hK K))
          iterate 4 ((with_reducible refine wpRead_step (fun K hK => ?_)); go_simp; first | (rw [if_neg (by decide)]; (with_reducible refine hK _ ?_); clear hK K) | ((with_reducible refine hK _ ?_); clear hK K) | (apply Exists.intro; (with_reducible refine ⟨fun w' hw' => ?_, hK _ ?_⟩); ((go_simp; first | exact rfl | exact ⟨rfl, rfl⟩)); clear hK K))
          with_reducible refine wpRead_yes ?_ ?_
          rotate_left
          rfl
          intro K hK
          refine read_load 58 _ rfl b0 (o0 + i * 10 + 1) #[.int .u32 (x.k.1 : Int), .int .i64 x.k.2] rfl (fun w' hw' => at_rangeR hw'.e) Tryz.underlying58 rfl (by kernel_rfl) (hK _ ?_)
          clear hK K
          iterate 3 ((with_reducible refine wpRead_step (fun K hK => ?_)); go_simp; first | (rw [if_neg (by decide)]; (with_reducible refine hK _ ?_); clear hK K) | ((with_reducible refine hK _ ?_); clear hK K) | (apply Exists.intro; (with_reducible refine ⟨fun w' hw' => ?_, hK _ ?_⟩); ((go_simp; first | exact rfl | exact ⟨rfl, rfl⟩)); clear hK K))
          ((with_reducible refine wpRead_step (fun K hK => ?_)); go_simp; first | (rw [if_neg (by decide)]; (with_reducible refine hK _ ?_); clear hK K) | ((with_reducible refine hK _ ?_); clear hK K) | (apply Exists.intro; (with_reducible refine ⟨fun w' hw' => ?_, hK _ ?_⟩); ((have f0 := hw'.c; go_simp; first | exact rfl | exact ⟨rfl, rfl⟩)); clear hK K))
          iterate 5 ((with_reducible refine wpRead_step (fun K hK => ?_)); go_simp; first | (rw [if_neg (by decide)]; (with_reducible refine hK _ ?_); clear hK K) | ((with_reducible refine hK _ ?_); clear hK K) | (apply Exists.intro; (with_reducible refine ⟨fun w' hw' => ?_, hK _ ?_⟩); ((go_simp; first | exact rfl | exact ⟨rfl, rfl⟩)); clear hK K))
          with_reducible refine wpRead_yes ?_ ?_
          rotate_left
          rfl
          intro K hK
          refine read_load 58 _ rfl b0 (o0 + j * 10 + 1) #[.int .u32 (y.k.1 : Int), .int .i64 y.k.2] rfl (fun w' hw' => at_rangeR hw'.d) Tryz.underlying58 rfl (by kernel_rfl) (hK _ ?_)
          clear hK K
          iterate 2 ((with_reducible refine wpRead_step (fun K hK => ?_)); go_simp; first | (rw [if_neg (by decide)]; (with_reducible refine hK _ ?_); clear hK K) | ((with_reducible refine hK _ ?_); clear hK K) | (apply Exists.intro; (with_reducible refine ⟨fun w' hw' => ?_, hK _ ?_⟩); ((go_simp; first | exact rfl | exact ⟨rfl, rfl⟩)); clear hK K))
          with_reducible refine wpRead_nil ?_
          refine wpAnyH_done (by kernel_rfl) ?_ _
          clear f0 e1 e2 c1 c2
          go_wp2_with fail
          have h1 := G.out.1
          rw [← G.out.2.2.2.1] at h1 ⊢
          exact ⟨⟨i + 1, out, hlt, by first | rw [hw3] | rw [Int.natCast_succ], h1, HM.out.1 (of_decide_eq_true (HKP.out.symm.trans rfl)), G.out.2.1⟩, by first | (rw [hw3]; exact mSucc hlt) | (rw [← Int.natCast_succ]; exact mSucc hlt)⟩
        all_goals
          go_wp2_with fail
          refine wp_region_heldP (RpS q b0 (o0 + i * 10) (o0 + j * 10) (.slice (some ⟨b0, o0, none⟩) n c) x y) (by kernel_rfl) ?_
          generalize w2.drew = w3 at *
          refine held_reads [0, 1, 2, 3, 4, 5, 6, 7, 8, 9, 10, 11, 12, 13, 14, 15, 16, 17, 18, 19, 20, 21, 22, 23] (g := 0) rfl (by kernel_rfl) HS.out (fun _ _ d _ _ h => by cases d <;> exact h) ?_
          simp only [pick, List.getD_cons_zero, List.getD_cons_succ]
          iterate 6 ((with_reducible refine wpRead_step (fun K hK => ?_)); go_simp; first | (rw [if_neg (by decide)]; (with_reducible refine hK _ ?_); clear hK K) | ((with_reducible refine hK _ ?_); clear hK K) | (apply Exists.intro; (with_reducible refine ⟨fun w' hw' => ?_, hK _ ?_⟩); ((go_simp; first | exact rfl | exact ⟨rfl, rfl⟩)); clear hK K))
          ((with_reducible refine wpRead_step (fun K hK => ?_)); go_simp; first | (rw [if_neg (by decide)]; (with_reducible refine hK _ ?_); clear hK K) | ((with_reducible refine hK _ ?_); clear hK K) | (apply Exists.intro; (with_reducible refine ⟨fun w' hw' => ?_, hK _ ?_⟩); ((have f0 := hw'.c; go_simp; first | exact rfl | exact ⟨rfl, rfl⟩)); clear hK K))
          iterate 4 ((with_reducible refine wpRead_step (fun K hK => ?_)); go_simp; first | (rw [if_neg (by decide)]; (with_reducible refine hK _ ?_); clear hK K) | ((with_reducible refine hK _ ?_); clear hK K) | (apply Exists.intro; (with_reducible refine ⟨fun w' hw' => ?_, hK _ ?_⟩); ((go_simp; first | exact rfl | exact ⟨rfl, rfl⟩)); clear hK K))
          with_reducible refine wpRead_yes ?_ ?_
          rotate_left
          rfl
          intro K hK
          refine read_load 58 _ rfl b0 (o0 + i * 10 + 1) #[.int .u32 (x.k.1 : Int), .int .i64 x.k.2] rfl (fun w' hw' => at_rangeR hw'.e) Tryz.underlying58 rfl (by kernel_rfl) (hK _ ?_)
          clear hK K
          iterate 3 ((with_reducible refine wpRead_step (fun K hK => ?_)); go_simp; first | (rw [if_neg (by decide)]; (with_reducible refine hK _ ?_); clear hK K) | ((with_reducible refine hK _ ?_); clear hK K) | (apply Exists.intro; (with_reducible refine ⟨fun w' hw' => ?_, hK _ ?_⟩); ((go_simp; first | exact rfl | exact ⟨rfl, rfl⟩)); clear hK K))
          ((with_reducible refine wpRead_step (fun K hK => ?_)); go_simp; first | (rw [if_neg (by decide)]; (with_reducible refine hK _ ?_); clear hK K) | ((with_reducible refine hK _ ?_); clear hK K) | (apply Exists.intro; (with_reducible refine ⟨fun w' hw' => ?_, hK _ ?_⟩); ((have f0 := hw'.c; go_simp; first | exact rfl | exact ⟨rfl, rfl⟩)); clear hK K))
          iterate 5 ((with_reducible refine wpRead_step (fun K hK => ?_)); go_simp; first | (rw [if_neg (by decide)]; (with_reducible refine hK _ ?_); clear hK K) | ((with_reducible refine hK _ ?_); clear hK K) | (apply Exists.intro; (with_reducible refine ⟨fun w' hw' => ?_, hK _ ?_⟩); ((go_simp; first | exact rfl | exact ⟨rfl, rfl⟩)); clear hK K))
          with_reducible refine wpRead_yes ?_ ?_
          rotate_left
          rfl
          intro K hK
          refine read_load 58 _ rfl b0 (o0 + j * 10 + 1) #[.int .u32 (y.k.1 : Int), .int .i64 y.k.2] rfl (fun w' hw' => at_rangeR hw'.d) Tryz.underlying58 rfl (by kernel_rfl) (hK _ ?_)
          clear hK K
          iterate 2 ((with_reducible refine wpRead_step (fun K hK => ?_)); go_simp; first | (rw [if_neg (by decide)]; (with_reducible refine hK _ ?_); clear hK K) | ((with_reducible refine hK _ ?_); clear hK K) | (apply Exists.intro; (with_reducible refine ⟨fun w' hw' => ?_, hK _ ?_⟩); ((go_simp; first | exact rfl | exact ⟨rfl, rfl⟩)); clear hK K))
          with_reducible refine wpRead_nil ?_
          refine wpAnyH_done (by kernel_rfl) ?_ _
          have HM := Lib.hid (HM.out.2 (of_decide_eq_false (HKP.out.symm.trans rfl)))
          try clear f0
          go_wp2_with (at_builtin; refine halt ?_)
          refine Halted.go ?_
          clear f1 c1 c2
          have hal := (Below.refl w3.heap.size w3).alloc (Nat.le_refl _) (.cells #[.int .u32 (x.k.1 : Int), .int .i64 x.k.2] 58)
          have hl := G.out.2.2.2.1
          have hl2 := G.out.2.2.2.2
          have hnn := F1.out.2.2
          refine Rep.append_list TPk rfl _ _ rfl rfl (G.out.1.below hal) rfl (Rep.sl_one (R := RPk) (y := x.k) (hnew _ _)) (fun h => by cases h) (by rw [hl]; unfold maxLen; omega) (by rw [hl]; omega) (Nat.le_trans G.out.2.1.size hal.size) ?_
          intro v9 w9 hown9 hb9 _
          obtain ⟨o9, c9, rfl, -, -⟩ := hown9.sl0
          obtain ⟨l9, hl9⟩ : ∃ z, (out ++ [x.k]).length = z := ⟨_, rfl⟩
          rw [hl9] at hown9 ⊢
          have HK := Lib.hid (And.intro hown9 (And.intro ((bcall G.out.2.1 (Nat.le_refl _) hal).trans hb9) hl9))
          clear hown9 hb9 hal hl9 hl hl2 hnn
          go_wp2_with fail
          have h1 := HK.out.1
          rw [← HK.out.2.2] at h1 ⊢
          exact ⟨⟨i + 1, out ++ [x.k], hlt, by first | rfl | rw [hw3] | rw [Int.natCast_succ], h1, HM.out, HK.out.2.1⟩, by first | (rw [hw3]; exact mSucc hlt) | (rw [← Int.natCast_succ]; exact mSucc hlt) | (show n - 1 < n - 0; omega)⟩
    · obtain rfl : n = i := by omega
      have hil : ((n : Int) < (n : Int)) = False := by simp
      have htk : L.take n = L := List.take_of_length_le (by rw [← HL.out]; exact Nat.le_refl _)
      rw [htk] at hpf
      have HB := Lib.hid (And.intro hown (And.intro hpf hb))
      clear hown hpf hb
      go_wp2_with fail
      go_ret
      exact ⟨_, rfl, out, HB.out.1, HB.out.2.1, HB.out.2.2⟩
end Go.Proofs.YtadoflcomienoaaGreat.Rr

