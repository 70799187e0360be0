/- The reference: the order of keys; find. -/
import Derived.Test.YtadoflcomienoaaGreatZav
import Derived.Test.YtadoflcomienoaaGreatZaw
namespace Go.Proofs.YtadoflcomienoaaGreat.Rr
open Go.RowKit

/-- the reference's table in memory -/
structure RefX (w : World) (q : Nat) (asn room rf : Int) (s : SlV RtV) : Prop where
  blk : w.heap[q]? = some (.cells #[.slice s.a s.n s.c, .int .i64 asn, .int .i64 room, .int .i64 rf] 122)
  sl : SlOk RRt RtOk w s
theorem RefX.keep {w w' : World} {q : Nat} {asn room rf : Int} {s : SlV RtV} (h : RefX w q asn room rf s) (hb : Below w.heap.size w w') : RefX w' q asn room rf s :=
  ⟨(hb.block _ (lt_of_blk h.blk)).trans h.blk, h.sl.keep hb fun _ _ h => h.keep hb⟩
def BxQ (q : Nat) (k : RKey) (W : World) : Prop := W.heap[q]? = some (.cells #[.int .i64 k.1, .int .u32 (k.2.1.1 : Int), .int .i64 k.2.1.2, .int .i64 k.2.2] 62)
theorem BxQ.cells {q : Nat} {k : RKey} {W : World} (h : BxQ q k W) : W.cell? ⟨q, 0, none⟩ = some (.int .i64 k.1) ∧ W.cell? ⟨q, 1, none⟩ = some (.int .u32 (k.2.1.1 : Int)) ∧ W.cell? ⟨q, 2, none⟩ = some (.int .i64 k.2.1.2) ∧ W.cell? ⟨q, 3, none⟩ = some (.int .i64 k.2.2) := ⟨cell_of h rfl, cell_of h rfl, cell_of h rfl, cell_of h rfl⟩
theorem BxQ.keep {q : Nat} {k : RKey} {W W' : World} (h : BxQ q k W) (hb : Below W.heap.size W W') : BxQ q k W' := (hb.block _ (lt_of_blk h)).trans h
theorem cmp_zero {a b : PK} : cmpP a.1 a.2 b.1 b.2 = 0 ↔ a = b := by
  unfold cmpP
  split
  · rename_i h
    refine ⟨fun e => by omega, fun e => ?_⟩
    subst e
    omega
  · rename_i h
    split
    · rename_i h2; exact ⟨fun _ => Prod.ext h2.1 h2.2, fun _ => rfl⟩
    · rename_i h2; exact ⟨fun e => by omega, fun e => absurd ⟨congrArg Prod.fst e, congrArg Prod.snd e⟩ h2⟩
set_option maxRecDepth 100000 in
set_option maxHeartbeats 4000000 in
theorem rless_any (x y : RKey) (w : World) : Calls Tryz.prog 120 #[.agg #[.int .i64 x.1, .int .u32 (x.2.1.1 : Int), .int .i64 x.2.1.2, .int .i64 x.2.2], .agg #[.int .i64 y.1, .int .u32 (y.2.1.1 : Int), .int .i64 y.2.1.2, .int .i64 y.2.2]] w fun e w' => e = .returned (.bool (ltR x y)) ∧ Below w.heap.size w w' := by
  have hal := ((Below.refl w.heap.size w).alloc (Nat.le_refl _) (.cells #[.int .i64 x.1, .int .u32 (x.2.1.1 : Int), .int .i64 x.2.1.2, .int .i64 x.2.2] 62)).alloc (by simp) (.cells #[.int .i64 y.1, .int .u32 (y.2.1.1 : Int), .int .i64 y.2.1.2, .int .i64 y.2.2] 62)
  have hx : BxQ w.heap.size x ((w.alloc (.cells #[.int .i64 x.1, .int .u32 (x.2.1.1 : Int), .int .i64 x.2.1.2, .int .i64 x.2.2] 62)).alloc (.cells #[.int .i64 y.1, .int .u32 (y.2.1.1 : Int), .int .i64 y.2.1.2, .int .i64 y.2.2] 62)) := (((Below.refl (w.alloc (.cells #[.int .i64 x.1, .int .u32 (x.2.1.1 : Int), .int .i64 x.2.1.2, .int .i64 x.2.2] 62)).heap.size (w.alloc (.cells #[.int .i64 x.1, .int .u32 (x.2.1.1 : Int), .int .i64 x.2.1.2, .int .i64 x.2.2] 62))).alloc (Nat.le_refl _) (.cells #[.int .i64 y.1, .int .u32 (y.2.1.1 : Int), .int .i64 y.2.1.2, .int .i64 y.2.2] 62)).block _ (by simp)).trans (hnew _ _)
  have hy : BxQ (w.heap.size + 1) y ((w.alloc (.cells #[.int .i64 x.1, .int .u32 (x.2.1.1 : Int), .int .i64 x.2.1.2, .int .i64 x.2.2] 62)).alloc (.cells #[.int .i64 y.1, .int .u32 (y.2.1.1 : Int), .int .i64 y.2.1.2, .int .i64 y.2.2] 62)) := hnewAt (by simp)
  obtain ⟨v, hv⟩ : ∃ v, cmpP x.2.1.1 x.2.1.2 y.2.1.1 y.2.1.2 = v := ⟨_, rfl⟩
  have hz : v = 0 ↔ x.2.1 = y.2.1 := by rw [← hv]; exact cmp_zero
  have hn : v < 0 ↔ ltK x.2.1 y.2.1 = true := by rw [← hv]; exact cmpK_lt (a := x.2.1) (b := y.2.1)
  have HC := fun W => rcompare_any x.2.1.1 x.2.1.2 y.2.1.1 y.2.1.2 W
  rw [hv] at HC
  unfold pfx at HC
  have HC := Lib.hid HC
  have HZ := Lib.hid (And.intro hz hn)
  have F0 := Lib.hid (And.intro hal (And.intro hx hy))
  obtain ⟨c0, c1, c2, c3⟩ := hx.cells
  obtain ⟨d0, d1, d2, d3⟩ := hy.cells
  obtain ⟨u, hu⟩ : ∃ u, ltR x y = u := ⟨_, rfl⟩
  rw [hu]
  have HU := Lib.hid hu
  clear hal hx hy hv hz hn hu
  go_enter Tryz.func120, Tryz.ntmps120
  go_wp2_with fail
  refine (HC.out _).mono ?_
  rintro e W1 ⟨rfl, hb⟩
  have F1 := Lib.hid (And.intro (bcall F0.out.1 (Nat.le_refl _) hb) (And.intro (F0.out.2.1.keep hb) (F0.out.2.2.keep hb)))
  clear hb F0 HC c0 c1 c2 c3 d0 d1 d2 d3
  obtain ⟨c0, c1, c2, c3⟩ := F1.out.2.1.cells
  obtain ⟨d0, d1, d2, d3⟩ := F1.out.2.2.cells
  by_cases h0 : v = 0
  · have hk := HZ.out.1.1 h0
    subst h0
    by_cases h1 : x.1 = y.1
    · have n1 : (x.1 != y.1) = false := by rw [h1]; simp
      have hR := Lib.hid (show u = decide (x.2.2 < y.2.2) by rw [← HU.out]; unfold ltR; rw [hk, ltK_irr, h1]; simp)
      clear h1 hk
      go_wp2_with fail
      go_ret
      exact ⟨ret_bool hR.out.symm, F1.out.1⟩
    · have n1 : (x.1 != y.1) = true := by simpa using h1
      have hR := Lib.hid (show u = decide (x.1 < y.1) by rw [← HU.out]; unfold ltR; rw [hk, ltK_irr, decide_eq_false h1]; simp)
      clear h1 hk
      go_wp2_with fail
      go_ret
      exact ⟨ret_bool hR.out.symm, F1.out.1⟩
  · have n0 : (v != 0) = true := by simpa using h0
    have hR := Lib.hid (show u = decide (v < 0) by
      rw [← HU.out]
      unfold ltR
      have h1 : x.2.1 ≠ y.2.1 := fun e => h0 (HZ.out.1.2 e)
      rw [decide_eq_false h1, Bool.false_and, Bool.or_false, Bool.eq_iff_iff, decide_eq_true_eq]
      exact HZ.out.2.symm)
    clear h0
    go_wp2_with fail
    go_ret
    exact ⟨ret_bool hR.out.symm, F1.out.1⟩
theorem key_dec (y : RtV) (k : RKey) : decide (y.key = k) = ((y.r == k.1) && (((y.k.1 : Int) == (k.2.1.1 : Int)) && ((y.k.2 == k.2.1.2) && (y.i == k.2.2)))) := by
  rw [Bool.eq_iff_iff]
  simp only [decide_eq_true_eq, Bool.and_eq_true, beq_iff_eq]
  constructor
  · rintro rfl; exact ⟨rfl, rfl, rfl, rfl⟩
  · rintro ⟨h1, h2, h3, h4⟩
    exact Prod.ext h1 (Prod.ext (Prod.ext (by show y.k.1 = k.2.1.1; omega) h3) h4)
/-- the reference's list, a key, one of the list's -/
structure FiS (q qk b o : Nat) (v : Value) (k : RKey) (y : RtV) (W : World) : Prop where
  c : W.cell? ⟨q, 0, none⟩ = some v
  k : BxQ qk k W
  e : RRt.At W b o y
structure FmX (q qk : Nat) (v : Value) (k : RKey) (W : World) : Prop where
  c : W.cell? ⟨q, 0, none⟩ = some v
  k : BxQ qk k W
theorem FiS.keep {q qk b o : Nat} {v : Value} {k : RKey} {y : RtV} {W W' : World} (h : FiS q qk b o v k y W) (hb : Below W.heap.size W W') : FiS q qk b o v k y W' :=
  ⟨(hb.cell (World.block_lt_of_cell? _ _ h.c)).trans h.c, h.k.keep hb, fun j hj => (hb.cell (World.block_lt_of_cell? _ _ (by rw [h.e j hj, List.getElem?_eq_getElem (by rw [RRt.len]; exact hj)]))).trans (h.e j hj)⟩
set_option maxRecDepth 100000 in
set_option maxHeartbeats 8000000 in
theorem rfind_any {w : World} {q : Nat} {asn room rf : Int} {s : SlV RtV} (H : RefX w q asn room rf s) (ho : Ord s.l) (k : RKey) : Calls Tryz.prog 77 #[.pointer (some ⟨q, 0, none⟩), .agg #[.int .i64 k.1, .int .u32 (k.2.1.1 : Int), .int .i64 k.2.1.2, .int .i64 k.2.2]] w fun e w' => e = .returned (.tuple #[.int .i64 (idxO s.l k : Nat), .bool (hasO s.l k)]) ∧ Below w.heap.size w w' := by
  obtain ⟨a, n, c, L⟩ := s
  have hal := (Below.refl w.heap.size w).alloc (Nat.le_refl _) (.cells #[.int .i64 k.1, .int .u32 (k.2.1.1 : Int), .int .i64 k.2.1.2, .int .i64 k.2.2] 62)
  have hps : BxQ w.heap.size k (w.alloc (.cells #[.int .i64 k.1, .int .u32 (k.2.1.1 : Int), .int .i64 k.2.1.2, .int .i64 k.2.2] 62)) := hnew _ _
  have h0 := H.keep hal
  have hmax : n ≤ maxLen := H.sl.sl.max
  have hn : L.length = n := H.sl.sl.len.symm
  have F := Lib.hid (And.intro hal (And.intro hps h0))
  dsimp only at ho ⊢
  have HD := Lib.hid (has_at ho k)
  have HI := Lib.hid (And.intro (fun i => idx_lt (L := L) (k := k) (i := i)) (And.intro (idx_stop (L := L) (k := k)) (idx_le L k)))
  clear hal hps h0 H ho
  generalize hasO L k = hs at *
  generalize idxO L k = ix at *
  rw [hn] at HD HI
  have HN := Lib.hid hn
  clear hn
  go_enter Tryz.func77, Tryz.ntmps77
  go_wp2_with fail
  generalize w.alloc (.cells #[.int .i64 k.1, .int .u32 (k.2.1.1 : Int), .int .i64 k.2.1.2, .int .i64 k.2.2] 62) = W1 at *
  obtain ⟨qk, hq⟩ : ∃ qk, w.heap.size = qk := ⟨_, rfl⟩
  have F1 := Lib.hid (show Below w.heap.size w W1 ∧ BxQ qk k W1 ∧ RefX W1 q asn room rf ⟨a, n, c, L⟩ from hq ▸ F.out)
  rw [hq]
  clear hq F
  go_loopw [6] (fun iv wr => ∃ i : Nat, i ≤ ix ∧ iv = .int .i64 i ∧ Below W1.heap.size W1 wr) (fun iv _ => ix - (intOf iv).toNat)
  case atStart => exact ⟨0, Nat.zero_le _, rfl, Below.refl _ _⟩
  case round =>
    obtain ⟨i, hi, rfl, hb⟩ := hrel
    obtain ⟨w2, rfl⟩ : ∃ w2 : World, w2 = wr := ⟨_, rfl⟩
    have hd := (Below.refl w2.heap.size w2).drew
    have hbd := bcall hb (Nat.le_refl _) hd
    have G := Lib.hid (And.intro (bcall F1.out.1 (Nat.le_refl _) hbd) (And.intro (F1.out.2.1.keep hbd) (And.intro (F1.out.2.2.keep hbd) hbd)))
    clear hb hd hbd
    have hixn := HI.out.2.2
    by_cases hlt : i < n
    · have hil : ((i : Int) < (n : Int)) = True := by simp; omega
      have hi0 : ((0 : Int) ≤ (i : Int)) = True := by simp
      have hw3 := wrapS hlt hmax
      obtain ⟨b, o, hbo, hbb, hat⟩ := G.out.2.2.1.sl.sl.at hlt
      dsimp only at hbo hat
      subst hbo
      have hst := HI.out.1 i
      have hsp : i = ix → ltR (L.getD i default).key k = false := fun e => by rw [e]; exact HI.out.2.1 (e ▸ hlt)
      have hkk : i = ix → hs = decide ((L.getD i default).key = k) := fun e => by
        rw [HD.out, ← e]
        rw [decide_eq_true hlt]; rfl
      generalize L.getD i default = y at *
      have HF := Lib.hid (And.intro hst (And.intro hsp hkk))
      have HRC := fun W => rless_any y.key k W
      unfold RtV.key at HRC
      dsimp only at HRC
      obtain ⟨lt, hlt2⟩ : ∃ lt, ltR y.key k = lt := ⟨_, rfl⟩
      rw [show ltR (y.r, y.k, y.i) k = lt from hlt2] at HRC
      have HRC := Lib.hid HRC
      have HFS := Lib.hid (show FiS q qk b (o + i * 10) (.slice (some ⟨b, o, none⟩) n c) k y w2.drew from ⟨cell_of G.out.2.2.1.blk rfl, G.out.2.1, hat⟩)
      have HLT := Lib.hid hlt2
      clear hat hbb hst hsp hkk hlt2
      go_wp2_with fail
      refine wp_region_heldP (FiS q qk b (o + i * 10) (.slice (some ⟨b, o, none⟩) n c) k y) (by kernel_rfl) ?_
      generalize w2.drew = w3 at *
      refine held_reads [0, 1, 2, 3, 4, 5, 6, 7, 8, 9, 10, 11, 12, 13, 14, 15, 16] (g := 2) rfl (by kernel_rfl) HFS.out (fun _ _ d _ _ h => by cases d <;> exact h) ?_
      simp only [pick, List.getD_cons_zero, List.getD_cons_succ]
      iterate 4 ((with_reducible refine wpRead_step (fun K hK => ?_)); go_simp; first | (rw [if_neg (by decide)]; (with_reducible refine hK _ ?_); clear hK K) | ((with_reducible refine hK _ ?_); clear hK K) | (apply Exists.intro; (with_reducible refine ⟨fun w' hw' => ?_, hK _ ?_⟩); ((go_simp; first | exact rfl | exact ⟨rfl, rfl⟩)); clear hK K))
      ((with_reducible refine wpRead_step (fun K hK => ?_)); go_simp; first | (rw [if_neg (by decide)]; (with_reducible refine hK _ ?_); clear hK K) | ((with_reducible refine hK _ ?_); clear hK K) | (apply Exists.intro; (with_reducible refine ⟨fun w' hw' => ?_, hK _ ?_⟩); ((have f0 := hw'.c; go_simp; first | exact rfl | exact ⟨rfl, rfl⟩)); clear hK K))
      iterate 6 ((with_reducible refine wpRead_step (fun K hK => ?_)); go_simp; first | (rw [if_neg (by decide)]; (with_reducible refine hK _ ?_); clear hK K) | ((with_reducible refine hK _ ?_); clear hK K) | (apply Exists.intro; (with_reducible refine ⟨fun w' hw' => ?_, hK _ ?_⟩); ((go_simp; first | exact rfl | exact ⟨rfl, rfl⟩)); clear hK K))
      ((with_reducible refine wpRead_step (fun K hK => ?_)); go_simp; first | (rw [if_neg (by decide)]; (with_reducible refine hK _ ?_); clear hK K) | ((with_reducible refine hK _ ?_); clear hK K) | (apply Exists.intro; (with_reducible refine ⟨fun w' hw' => ?_, hK _ ?_⟩); ((have f0 := hw'.c; go_simp; first | exact rfl | exact ⟨rfl, rfl⟩)); clear hK K))
      iterate 3 ((with_reducible refine wpRead_step (fun K hK => ?_)); go_simp; first | (rw [if_neg (by decide)]; (with_reducible refine hK _ ?_); clear hK K) | ((with_reducible refine hK _ ?_); clear hK K) | (apply Exists.intro; (with_reducible refine ⟨fun w' hw' => ?_, hK _ ?_⟩); ((go_simp; first | exact rfl | exact ⟨rfl, rfl⟩)); clear hK K))
      with_reducible refine wpRead_yes ?_ ?_
      rotate_left
      rfl
      intro K hK
      refine read_load 62 _ rfl b (o + i * 10) #[.int .i64 y.r, .int .u32 (y.k.1 : Int), .int .i64 y.k.2, .int .i64 y.i] rfl (fun w' hw' => at_rangeK hw'.e) Tryz.underlying62 rfl (by kernel_rfl) (hK _ ?_)
      clear hK K
      with_reducible refine wpRead_yes ?_ ?_
      rotate_left
      rfl
      intro K hK
      refine read_load 62 _ rfl qk 0 #[.int .i64 k.1, .int .u32 (k.2.1.1 : Int), .int .i64 k.2.1.2, .int .i64 k.2.2] rfl (fun w' hw' => rangeAt_block hw'.k 0 _ rfl) Tryz.underlying62 rfl (by kernel_rfl) (hK _ ?_)
      clear hK K
      with_reducible refine wpRead_nil ?_
      cases lt with
      | true =>
        refine held_one 17 (by kernel_rfl) ?_
        simp only [pick, List.getD_cons_zero, List.getD_cons_succ]
        go_wp2_with fail
        refine (HRC.out _).mono ?_
        rintro e w4 ⟨rfl, hb⟩
        have G2 := Lib.hid (And.intro (bcall G.out.1 (Nat.le_refl _) hb) (And.intro (HFS.out.keep hb) (bcall G.out.2.2.2 (Nat.le_refl _) hb)))
        clear hb G HFS HRC
        go_wp2_with fail
        refine ⟨G2.out.2.1, ?_⟩
        refine held_reads [18] (g := 0) rfl (by kernel_rfl) G2.out.2.1 (fun _ _ d _ _ h => by cases d <;> exact h) ?_
        simp only [pick, List.getD_cons_zero, List.getD_cons_succ]
        ((with_reducible refine wpRead_step (fun K hK => ?_)); go_simp; first | (rw [if_neg (by decide)]; (with_reducible refine hK _ ?_); clear hK K) | ((with_reducible refine hK _ ?_); clear hK K) | (apply Exists.intro; (with_reducible refine ⟨fun w' hw' => ?_, hK _ ?_⟩); ((go_simp; first | exact rfl | exact ⟨rfl, rfl⟩)); clear hK K))
        with_reducible refine wpRead_nil ?_
        refine wpAnyH_done (by kernel_rfl) ?_ _
        have hii : i < ix := by
          rcases Nat.lt_or_ge i ix with h | h
          · exact h
          · have := HF.out.2.1 (by omega)
            rw [HLT.out] at this; cases this
        go_wp2_with fail
        exact ⟨⟨i + 1, hii, by first | rw [hw3] | rw [Int.natCast_succ], G2.out.2.2⟩, by first | (rw [hw3]; exact mSucc hii) | (rw [← Int.natCast_succ]; exact mSucc hii)⟩
      | false =>
        have hii : i = ix := by
          rcases Nat.lt_or_ge i ix with h | h
          · have := HF.out.1 h
            rw [HLT.out] at this; cases this
          · omega
        have hkk := HF.out.2.2 hii
        subst hii
        refine held_one 17 (by kernel_rfl) ?_
        simp only [pick, List.getD_cons_zero, List.getD_cons_succ]
        go_wp2_with fail
        refine (HRC.out _).mono ?_
        rintro e w4 ⟨rfl, hb⟩
        have G2 := Lib.hid (And.intro (bcall G.out.1 (Nat.le_refl _) hb) (And.intro (HFS.out.keep hb) (bcall G.out.2.2.2 (Nat.le_refl _) hb)))
        clear hb G HFS HRC
        go_wp2_with fail
        refine ⟨G2.out.2.1, ?_⟩
        refine held_reads [18] (g := 0) rfl (by kernel_rfl) G2.out.2.1 (fun _ _ d _ _ h => by cases d <;> exact h) ?_
        simp only [pick, List.getD_cons_zero, List.getD_cons_succ]
        ((with_reducible refine wpRead_step (fun K hK => ?_)); go_simp; first | (rw [if_neg (by decide)]; (with_reducible refine hK _ ?_); clear hK K) | ((with_reducible refine hK _ ?_); clear hK K) | (apply Exists.intro; (with_reducible refine ⟨fun w' hw' => ?_, hK _ ?_⟩); ((go_simp; first | exact rfl | exact ⟨rfl, rfl⟩)); clear hK K))
        with_reducible refine wpRead_nil ?_
        refine wpAnyH_done (by kernel_rfl) ?_ _
        obtain ⟨b1', e1⟩ : ∃ b, (y.r == k.1) = b := ⟨_, rfl⟩
        obtain ⟨b2', e2⟩ : ∃ b, ((y.k.1 : Int) == (k.2.1.1 : Int)) = b := ⟨_, rfl⟩
        obtain ⟨b3', e3⟩ : ∃ b, (y.k.2 == k.2.1.2) = b := ⟨_, rfl⟩
        obtain ⟨b4', e4⟩ : ∃ b, (y.i == k.2.2) = b := ⟨_, rfl⟩
        have hq : hs = (b1' && (b2' && (b3' && b4'))) := by
          rw [hkk, ← e1, ← e2, ← e3, ← e4]
          exact key_dec y k
        have HQ := Lib.hid hq
        have hcase : b1' = false ∨ (b1' = true ∧ b2' = false) ∨ (b1' = true ∧ b2' = true ∧ b3' = false) ∨ (b1' = true ∧ b2' = true ∧ b3' = true ∧ b4' = false) ∨ (b1' = true ∧ b2' = true ∧ b3' = true ∧ b4' = true) := by
          cases b1' <;> cases b2' <;> cases b3' <;> cases b4' <;> simp
        clear hkk hq
        have hd4 := (Below.refl w4.heap.size w4).drew
        have HFD := Lib.hid (G2.out.2.1.keep hd4)
        have G3 := Lib.hid (bcall G2.out.1 (Nat.le_refl _) hd4)
        clear hd4
        rcases hcase with rfl | ⟨rfl, rfl⟩ | ⟨rfl, rfl, rfl⟩ | ⟨rfl, rfl, rfl, rfl⟩ | ⟨rfl, rfl, rfl, rfl⟩
        all_goals
          go_wp2_with fail
          refine wp_region_heldP (FiS q qk b (o + i * 10) (.slice (some ⟨b, o, none⟩) n c) k y) (by kernel_rfl) ?_
          generalize w4.drew = w5 at *
          refine held_reads [0, 1, 2, 3, 4, 5, 6, 7, 8, 9, 10, 11, 12, 13, 14, 15, 16, 17, 18, 19] (g := 2) rfl (by kernel_rfl) HFD.out (fun _ _ d _ _ h => by cases d <;> exact h) ?_
          simp only [pick, List.getD_cons_zero, List.getD_cons_succ]
          iterate 5 ((with_reducible refine wpRead_step (fun K hK => ?_)); go_simp; first | (rw [if_neg (by decide)]; (with_reducible refine hK _ ?_); clear hK K) | ((with_reducible refine hK _ ?_); clear hK K) | (apply Exists.intro; (with_reducible refine ⟨fun w' hw' => ?_, hK _ ?_⟩); ((go_simp; first | exact rfl | exact ⟨rfl, rfl⟩)); clear hK K))
          ((with_reducible refine wpRead_step (fun K hK => ?_)); go_simp; first | (rw [if_neg (by decide)]; (with_reducible refine hK _ ?_); clear hK K) | ((with_reducible refine hK _ ?_); clear hK K) | (apply Exists.intro; (with_reducible refine ⟨fun w' hw' => ?_, hK _ ?_⟩); ((have f0 := hw'.c; go_simp; first | exact rfl | exact ⟨rfl, rfl⟩)); clear hK K))
          iterate 6 ((with_reducible refine wpRead_step (fun K hK => ?_)); go_simp; first | (rw [if_neg (by decide)]; (with_reducible refine hK _ ?_); clear hK K) | ((with_reducible refine hK _ ?_); clear hK K) | (apply Exists.intro; (with_reducible refine ⟨fun w' hw' => ?_, hK _ ?_⟩); ((go_simp; first | exact rfl | exact ⟨rfl, rfl⟩)); clear hK K))
          ((with_reducible refine wpRead_step (fun K hK => ?_)); go_simp; first | (rw [if_neg (by decide)]; (with_reducible refine hK _ ?_); clear hK K) | ((with_reducible refine hK _ ?_); clear hK K) | (apply Exists.intro; (with_reducible refine ⟨fun w' hw' => ?_, hK _ ?_⟩); ((have f0 := hw'.c; go_simp; first | exact rfl | exact ⟨rfl, rfl⟩)); clear hK K))
          iterate 3 ((with_reducible refine wpRead_step (fun K hK => ?_)); go_simp; first | (rw [if_neg (by decide)]; (with_reducible refine hK _ ?_); clear hK K) | ((with_reducible refine hK _ ?_); clear hK K) | (apply Exists.intro; (with_reducible refine ⟨fun w' hw' => ?_, hK _ ?_⟩); ((go_simp; first | exact rfl | exact ⟨rfl, rfl⟩)); clear hK K))
          with_reducible refine wpRead_yes ?_ ?_
          rotate_left
          rfl
          intro K hK
          refine read_load 62 _ rfl b (o + i * 10) #[.int .i64 y.r, .int .u32 (y.k.1 : Int), .int .i64 y.k.2, .int .i64 y.i] rfl (fun w' hw' => at_rangeK hw'.e) Tryz.underlying62 rfl (by kernel_rfl) (hK _ ?_)
          clear hK K
          with_reducible refine wpRead_yes ?_ ?_
          rotate_left
          rfl
          intro K hK
          refine read_load 62 _ rfl qk 0 #[.int .i64 k.1, .int .u32 (k.2.1.1 : Int), .int .i64 k.2.1.2, .int .i64 k.2.2] rfl (fun w' hw' => rangeAt_block hw'.k 0 _ rfl) Tryz.underlying62 rfl (by kernel_rfl) (hK _ ?_)
          clear hK K
          iterate 2 ((with_reducible refine wpRead_step (fun K hK => ?_)); go_simp; first | (rw [if_neg (by decide)]; (with_reducible refine hK _ ?_); clear hK K) | ((with_reducible refine hK _ ?_); clear hK K) | (apply Exists.intro; (with_reducible refine ⟨fun w' hw' => ?_, hK _ ?_⟩); ((go_simp; first | exact rfl | exact ⟨rfl, rfl⟩)); clear hK K))
          with_reducible refine wpRead_nil ?_
          refine held_one 20 (by kernel_rfl) ?_
          simp only [pick, List.getD_cons_zero, List.getD_cons_succ]
          go_wp2_with fail
          refine ⟨HFD.out, ?_⟩
          refine held_one 21 (by kernel_rfl) ?_
          simp only [pick, List.getD_cons_zero, List.getD_cons_succ]
          go_wp2_with fail
          refine ⟨HFD.out, ?_⟩
          refine wpAnyH_done (by kernel_rfl) ?_ _
          go_wp2_with fail
          go_ret2
          exact ⟨by rw [HQ.out]; rfl, G3.out⟩
    · obtain rfl : n = i := by omega
      obtain rfl : n = ix := by omega
      have hil : ((n : Int) < (n : Int)) = False := by simp
      have hh : hs = false := by rw [HD.out]; simp
      have HH := Lib.hid hh
      clear hh
      have HFM := Lib.hid (show FmX q qk (.slice a n c) k w2.drew from ⟨cell_of G.out.2.2.1.blk rfl, G.out.2.1⟩)
      go_wp2_with fail
      refine wp_region_heldP (FmX q qk (.slice a n c) k) (by kernel_rfl) ?_
      generalize w2.drew = w3 at *
      refine held_reads [0, 1, 2, 3, 4, 5, 6, 7, 8, 9, 10, 11, 12, 13, 14, 15, 16, 17, 18] (g := 0) rfl (by kernel_rfl) HFM.out (fun _ _ d _ _ h => by cases d <;> exact h) ?_
      simp only [pick, List.getD_cons_zero, List.getD_cons_succ]
      iterate 4 ((with_reducible refine wpRead_step (fun K hK => ?_)); go_simp; first | (rw [if_neg (by decide)]; (with_reducible refine hK _ ?_); clear hK K) | ((with_reducible refine hK _ ?_); clear hK K) | (apply Exists.intro; (with_reducible refine ⟨fun w' hw' => ?_, hK _ ?_⟩); ((go_simp; first | exact rfl | exact ⟨rfl, rfl⟩)); clear hK K))
      ((with_reducible refine wpRead_step (fun K hK => ?_)); go_simp; first | (rw [if_neg (by decide)]; (with_reducible refine hK _ ?_); clear hK K) | ((with_reducible refine hK _ ?_); clear hK K) | (apply Exists.intro; (with_reducible refine ⟨fun w' hw' => ?_, hK _ ?_⟩); ((have f0 := hw'.c; go_simp; first | exact rfl | exact ⟨rfl, rfl⟩)); clear hK K))
      iterate 14 ((with_reducible refine wpRead_step (fun K hK => ?_)); go_simp; first | (rw [if_neg (by decide)]; (with_reducible refine hK _ ?_); clear hK K) | ((with_reducible refine hK _ ?_); clear hK K) | (apply Exists.intro; (with_reducible refine ⟨fun w' hw' => ?_, hK _ ?_⟩); ((go_simp; first | exact rfl | exact ⟨rfl, rfl⟩)); clear hK K))
      with_reducible refine wpRead_nil ?_
      refine wpAnyH_done (by kernel_rfl) ?_ _
      have HFD := Lib.hid (show FmX q qk (.slice a n c) k w3.drew from ⟨HFM.out.c, HFM.out.k⟩)
      have hd3 := (Below.refl w3.heap.size w3).drew
      have G3 := Lib.hid (bcall G.out.1 (Nat.le_refl _) hd3)
      clear hd3
      go_wp2_with fail
      refine wp_region_heldP (FmX q qk (.slice a n c) k) (by kernel_rfl) ?_
      generalize w3.drew = w4 at *
      refine held_reads [0, 1, 2, 3, 4, 5, 6, 7, 8, 9, 10, 11, 12, 13, 14, 15, 16, 17, 18, 19] (g := 2) rfl (by kernel_rfl) HFD.out (fun _ _ d _ _ h => by cases d <;> exact h) ?_
      simp only [pick, List.getD_cons_zero, List.getD_cons_succ]
      iterate 5 ((with_reducible refine wpRead_step (fun K hK => ?_)); go_simp; first | (rw [if_neg (by decide)]; (with_reducible refine hK _ ?_); clear hK K) | ((with_reducible refine hK _ ?_); clear hK K) | (apply Exists.intro; (with_reducible refine ⟨fun w' hw' => ?_, hK _ ?_⟩); ((go_simp; first | exact rfl | exact ⟨rfl, rfl⟩)); clear hK K))
      ((with_reducible refine wpRead_step (fun K hK => ?_)); go_simp; first | (rw [if_neg (by decide)]; (with_reducible refine hK _ ?_); clear hK K) | ((with_reducible refine hK _ ?_); clear hK K) | (apply Exists.intro; (with_reducible refine ⟨fun w' hw' => ?_, hK _ ?_⟩); ((have f0 := hw'.c; go_simp; first | exact rfl | exact ⟨rfl, rfl⟩)); clear hK K))
      iterate 14 ((with_reducible refine wpRead_step (fun K hK => ?_)); go_simp; first | (rw [if_neg (by decide)]; (with_reducible refine hK _ ?_); clear hK K) | ((with_reducible refine hK _ ?_); clear hK K) | (apply Exists.intro; (with_reducible refine ⟨fun w' hw' => ?_, hK _ ?_⟩); ((go_simp; first | exact rfl | exact ⟨rfl, rfl⟩)); clear hK K))
      with_reducible refine wpRead_nil ?_
      refine held_one 20 (by kernel_rfl) ?_
      simp only [pick, List.getD_cons_zero, List.getD_cons_succ]
      go_wp2_with fail
      refine ⟨HFD.out, ?_⟩
      refine held_one 21 (by kernel_rfl) ?_
      simp only [pick, List.getD_cons_zero, List.getD_cons_succ]
      go_wp2_with fail
      refine ⟨HFD.out, ?_⟩
      refine wpAnyH_done (by kernel_rfl) ?_ _
      go_wp2_with fail
      go_ret2
      exact ⟨by rw [HH.out]; rfl, G3.out⟩
end Go.Proofs.YtadoflcomienoaaGreat.Rr
/- Tables in the laws, where what comes back is kept over the table's changes, and where other blocks turn. -/
namespace Go.Proofs.YtadoflcomienoaaGreat
open Go.RowKit
open Go.ChangeMaps (setBlock)

def okT {α : Type} (_ : World) (_ : α) : Prop := True
theorem UpOk.holdL {w W : World} {x : UpV} (h : UpOk w x) (hb : Below w.heap.size w W) : ∀ F : Nat → Prop, (∀ k, F k → w.heap.size ≤ k) → HoldF F W fun V => UpOk V x := by
  intro F hF
  have h1 : HoldF F w fun V => UpOk V x := fun w' hs he =>
    ⟨h.g.same (fun hn a e hl => he _ hl fun hf => by have := hF _ hf; omega) (fun _ _ h => h), h.r.same (fun hn a e hl => he _ hl fun hf => by have := hF _ hf; omega) (fun _ _ h => h),
     (h.a.hold ⟨fun hn a e hf => by have := hF _ hf; have := h.a.low.p hn a e; omega, fun hn a e hf => by have := hF _ hf; have := h.a.low.c hn a e; omega, fun y hy hn a e hf => by have := hF _ hf; have := h.a.low.s y hy hn a e; omega⟩) w' hs he⟩
  exact h1.below hb
theorem AtOk.holdL {w W : World} {x : AtV} (h : AtOk w x) (hb : Below w.heap.size w W) : ∀ F : Nat → Prop, (∀ k, F k → w.heap.size ≤ k) → HoldF F W fun V => AtOk V x := by
  intro F hF
  have h1 : HoldF F w fun V => AtOk V x := h.hold ⟨fun hn a e hf => by have := hF _ hf; have := h.low.p hn a e; omega, fun hn a e hf => by have := hF _ hf; have := h.low.c hn a e; omega, fun y hy hn a e hf => by have := hF _ hf; have := h.low.s y hy hn a e; omega⟩
  exact h1.below hb
/-- a table of a law: what it reads as; X: other blocks that will turn; what else holds, whatever becomes of the table and of X -/
def LvX (w : World) (X : Nat → Prop) (b : Nat) (asn room : Int) (S : List Rt) (ref : Int) (P : World → Prop) (W : World) : Prop := ∃ R n G, R.b = b ∧ RibAt W R X n asn room ref G ∧ G.map RtV.rt = S ∧ (∀ k, R.F k → w.heap.size ≤ k ∧ ¬ X k) ∧ Below w.heap.size w W ∧ HoldF (R.FX X) W P ∧ (∀ k, X k → w.heap.size ≤ k ∧ k < W.heap.size)
section
variable {w W W' : World} {X : Nat → Prop} {b : Nat} {asn room ref : Int} {S : List Rt} {P Q : World → Prop}
theorem LvX.keep (h : LvX w X b asn room S ref P W) (hb : Below W.heap.size W W') : LvX w X b asn room S ref P W' := by
  obtain ⟨R, n, G, h1, h2, h3, h4, h5, h6, h7⟩ := h
  exact ⟨R, n, G, h1, h2.below hb, h3, h4, bcall h5 (Nat.le_refl _) hb, h6.below hb, fun k hk => ⟨(h7 k hk).1, Nat.lt_of_lt_of_le (h7 k hk).2 hb.size⟩⟩
theorem LvX.now (h : LvX w X b asn room S ref P W) : P W := by
  obtain ⟨R, n, G, h1, h2, h3, h4, h5, h6, h7⟩ := h
  exact h6.now
theorem LvX.bw (h : LvX w X b asn room S ref P W) : Below w.heap.size w W := by
  obtain ⟨R, n, G, h1, h2, h3, h4, h5, h6, h7⟩ := h
  exact h5
theorem LvX.rok (h : LvX w X b asn room S ref P W) : ROk S := by
  obtain ⟨R, n, G, h1, h2, h3, h4, h5, h6, h7⟩ := h
  rw [← h3]; exact h2.rok
theorem LvX.lvs (h : LvX w X b asn room S ref P W) : LvS w b asn room S ref P W := by
  obtain ⟨R, n, G, h1, h2, h3, h4, h5, h6, h7⟩ := h
  exact ⟨R, n, G, h1, h2.lessX fun k hk => hk.elim, h3, fun k hk => (h4 k hk).1, h5, h6.less fun k hk => .inl hk⟩
theorem LvX.add (h : LvX w X b asn room S ref P W) (hb : Below W.heap.size W W') (hQ : HoldF (fun k => k < W.heap.size) W' Q) : LvX w X b asn room S ref (fun V => P V ∧ Q V) W' := by
  obtain ⟨R, n, G, h1, h2, h3, h4, h5, h6, h7⟩ := h
  exact ⟨R, n, G, h1, h2.below hb, h3, h4, bcall h5 (Nat.le_refl _) hb, (h6.below hb).and (hQ.less fun k hk => hk.elim h2.lt fun h => (h7 k h).2), fun k hk => ⟨(h7 k hk).1, Nat.lt_of_lt_of_le (h7 k hk).2 hb.size⟩⟩
theorem LvX.addB (h : LvX w X b asn room S ref P W) (hb : Below W.heap.size W W') {q : Nat} {o : Obj} (hq : W.heap.size ≤ q) (hw : W'.heap[q]? = some o) : LvX w X b asn room S ref (fun V => P V ∧ V.heap[q]? = some o) W' :=
  h.add hb fun w' hs he => (he q (lt_of_blk hw) (by omega)).trans hw
theorem LvX.imp (h : LvX w X b asn room S ref P W) (hi : ∀ V, P V → Q V) : LvX w X b asn room S ref Q W := by
  obtain ⟨R, n, G, h1, h2, h3, h4, h5, h6, h7⟩ := h
  exact ⟨R, n, G, h1, h2, h3, h4, h5, h6.imp hi, h7⟩
theorem lvx_new (w W : World) (hw : Below w.heap.size w W) (hX : ∀ k, X k → w.heap.size ≤ k ∧ k < W.heap.size) (hP : HoldF (fun k => X k ∨ W.heap.size ≤ k) W P) (asn room : Int) (h : (0 ≤ asn ∧ asn ≤ 4294967295) ∧ (0 ≤ room ∧ room ≤ 65536)) : Calls Tryz.prog 21 #[.int .i64 asn, .int .i64 room] W fun e w' => ∃ b, e = .returned (.tuple #[.pointer (some ⟨b, 0, none⟩), .int .i64 0]) ∧ LvX w X b asn room [] 0 P w' ∧ Below W.heap.size W w' := by
  refine (rnew_ok W asn room h).mono fun e w' ⟨R, h1, h2, h3, h4⟩ => ⟨R.b, h1, ⟨R, 0, [], rfl, ?_, rfl, fun k hk => ⟨Nat.le_trans hw.size (h3 k hk), fun hx => ?_⟩, bcall hw (Nat.le_refl _) h4, ?_, fun k hk => ⟨(hX k hk).1, Nat.lt_of_lt_of_le (hX k hk).2 h4.size⟩⟩, h4⟩
  · exact ⟨h2.blk, h2.tr, h2.rf, h2.mp, h2.all, h2.inj, h2.of, h2.ofne, h2.okx, h2.nd, (fun x hx => nomatch hx), (fun x hx => nomatch hx)⟩
  · have h5 := (hX k hx).2
    have h6 := h3 k hk
    omega
  · exact hP.turn h4.size (fun k hk _ => h4.block k hk) fun k hk => hk.elim (fun h => .inr (h3 k h)) fun h => .inl (.inl h)
theorem lvx_apply (h : LvX w X b asn room S ref P W) (hb : Below W.heap.size W W') {x : UpV} (hx : ∀ F : Nat → Prop, (∀ k, F k → w.heap.size ≤ k ∧ k < W.heap.size) → HoldF F W' fun V => UpOk V x) {r : Int} (hm : mayR r x.up = true) (hn : x.g.n ≤ 3000 ∧ x.r.n ≤ 3000) (hS : S.length + x.r.n ≤ 3000000) (href : 0 ≤ ref ∧ ref + x.r.n ≤ 900000000) :
    Calls Tryz.prog 30 #[.pointer (some ⟨b, 0, none⟩), .int .i64 r, x.v] W' fun e w' => ∃ s : SlV PK, e = .returned (.tuple #[.slice s.a s.n s.c, .int .i64 0]) ∧ Chg S (applyR asn room r x.up (S, ref)).1 s.l ∧ LvX w X b asn room (applyR asn room r x.up (S, ref)).1 (applyR asn room r x.up (S, ref)).2 (fun V => P V ∧ SlOk RPk okT V s) w' ∧ (∀ k, X k → w'.heap[k]? = W'.heap[k]?) := by
  obtain ⟨R, n, G, rfl, h2, h3, h4, h5, h6, h7⟩ := h
  have hF : ∀ k, R.FX X k → w.heap.size ≤ k ∧ k < W.heap.size := fun k hk => hk.elim (fun h => ⟨(h4 k h).1, h2.lt h⟩) (h7 k)
  have hGl : G.length = S.length := by rw [← h3, List.length_map]
  refine (apply_anyB (h2.below hb) (fun k hk => Nat.lt_of_lt_of_le (h7 k hk).2 hb.size) (hx _ hF) hm hn (by rw [hGl]; exact hS) href).mono ?_
  rintro e w' ⟨v, L, R', n', G', ref', rfl, ho, hc, hr', hst, hb', hmv, B, hoB, hB⟩
  rw [h3] at hc hst
  rw [← hst]
  obtain ⟨s, rfl, rfl, hs1, hs2⟩ := Own_slok (ok := okT) hoB (fun _ _ => trivial)
  have hXl : ∀ k, X k → k < W'.heap.size := fun k hk => Nat.lt_of_lt_of_le (h7 k hk).2 hb.size
  have hmv2 := hmv.union X
  have hs3 : HoldF (R'.FX X) w' fun V => SlOk RPk okT V s := fun V hs he => hs1.same (fun hn a e hl => he _ hl fun hf => by
    have h8 := hs2.1 hn a e
    rcases hf with h9 | h9
    · have := hB _ h9; omega
    · have h10 := Own_slok (ok := okT) ho (fun _ _ => trivial)
      obtain ⟨s', e1, -, -, h11⟩ := h10
      injection e1 with e1 e2 e3
      have h12 := h11.1 (by omega) a (by rw [← e1]; exact e)
      have := hXl _ h9
      omega) fun _ _ _ => trivial
  refine ⟨s, rfl, hc, ⟨R', n', G', hb', hr', rfl, fun k hk => ?_, (bcall h5 (Nat.le_refl _) hb).trans (hmv.below (Nat.le_trans h5.size hb.size) fun k hk => (h4 k hk).1), ((h6.below hb).moved hmv2).and hs3, fun k hk => ⟨(h7 k hk).1, Nat.lt_of_lt_of_le (hXl k hk) hmv.size⟩⟩, fun k hk => hmv.same k (hXl k hk) fun hf => (h4 k hf).2 hk⟩
  rcases hmv.foot k hk with h8 | h8
  · exact h4 k h8
  · exact ⟨Nat.le_trans (Nat.le_trans h5.size hb.size) h8, fun hx => by have := hXl k hx; omega⟩
theorem lvx_flush (h : LvX w X b asn room S ref P W) (hS : S.length ≤ 3000000) (r : Int) : Calls Tryz.prog 36 #[.pointer (some ⟨b, 0, none⟩), .int .i64 r] W fun e w' => ∃ s : SlV PK, e = .returned (.slice s.a s.n s.c) ∧ Chg S (flushR r S) s.l ∧ LvX w X b asn room (flushR r S) ref (fun V => P V ∧ SlOk RPk okT V s) w' ∧ (∀ k, X k → w'.heap[k]? = W.heap[k]?) := by
  obtain ⟨R, n, G, rfl, h2, h3, h4, h5, h6, h7⟩ := h
  have hGl : G.length = S.length := by rw [← h3, List.length_map]
  refine (flush_anyB h2 (fun k hk => (h7 k hk).2) (by rw [hGl]; exact hS) r).mono ?_
  rintro e w' ⟨v, L, R', n', G', rfl, ho, hc, hr', hst, hb', hmv, B, hoB, hB⟩
  rw [h3] at hc hst
  rw [hst] at hc
  obtain ⟨s, rfl, rfl, hs1, hs2⟩ := Own_slok (ok := okT) hoB (fun _ _ => trivial)
  have hs3 : HoldF (R'.FX X) w' fun V => SlOk RPk okT V s := fun V hs he => hs1.same (fun hn a e hl => he _ hl fun hf => by
    have h8 := hs2.1 hn a e
    rcases hf with h9 | h9
    · have := hB _ h9; omega
    · have h10 := Own_slok (ok := okT) ho (fun _ _ => trivial)
      obtain ⟨s', e1, -, -, h11⟩ := h10
      injection e1 with e1 e2 e3
      have h12 := h11.1 (by omega) a (by rw [← e1]; exact e)
      have := (h7 _ h9).2
      omega) fun _ _ _ => trivial
  refine ⟨s, rfl, hc, ⟨R', n', G', hb', hr', hst, fun k hk => ?_, h5.trans (hmv.below h5.size fun k hk => (h4 k hk).1), (h6.moved (hmv.union X)).and hs3, fun k hk => ⟨(h7 k hk).1, Nat.lt_of_lt_of_le (h7 k hk).2 hmv.size⟩⟩, fun k hk => hmv.same k (h7 k hk).2 fun hf => (h4 k hf).2 hk⟩
  rcases hmv.foot k hk with h8 | h8
  · exact h4 k h8
  · exact ⟨Nat.le_trans h5.size h8, fun hx => by have := (h7 k hx).2; omega⟩
theorem lvx_get (h : LvX w X b asn room S ref P W) {r i : Int} {k : PK} (hk : k.1 < 4294967296 ∧ I64 k.2) (hr : I64 r) (hi : I64 i) : Calls Tryz.prog 27 #[.pointer (some ⟨b, 0, none⟩), .agg #[.int .i64 r, .int .u32 (k.1 : Int), .int .i64 k.2, .int .i64 i]] W fun e w' => ∃ y : AtV, e = .returned (.tuple #[y.v, .bool (lookR S (r, k, i)).isSome]) ∧ y.at = ((lookR S (r, k, i)).map Rt.a).getD atZ ∧ LvX w X b asn room S ref (fun V => P V ∧ AtOk V y) w' ∧ Below W.heap.size W w' := by
  have h0 := h
  obtain ⟨R, n, G, rfl, h2, h3, h4, h5, h6, h7⟩ := h
  refine (get14_any h2 hk hr hi).mono ?_
  rintro e w' ⟨y, rfl, hy1, hy2, hy3, hb⟩
  rw [h3] at hy1 ⊢
  exact ⟨y, rfl, hy1, h0.add hb (hy2.hold (hy3.out fun k hk => hk)), hb⟩
end
end Go.Proofs.YtadoflcomienoaaGreat
