/- Clear; the reference's table: find. -/
import Derived.Test.YtfmehahjjgalfaaQaf
import Derived.Test.YtfmehahjjgalfaaQaa
namespace Go.Proofs.Ytfmehahjjgalfaa
open Go.RowKit
open Go.ChangeMaps (setBlock)

theorem TabAt.clear {w : World} {t bm : Nat} {L : List Ov} (H : TabAt w t bm L) (ty : TypeId) : ∃ O, (Builtin.clear_ #[113] ty #[.map (some bm)]).run Try.prog w = .ok (.tuple #[]) (setBlock w bm O) ∧ TabAt (setBlock w bm O) t bm [] := by
  have hne := H.lt.2.2
  have hlt := H.lt.2.1
  obtain ⟨⟨clk, es, k1, k2, k3⟩, ho⟩ := H
  refine ⟨.map #[] clk, ?_, ⟨clk, [], (setBlock_other hne).trans k1, ⟨MR.setBlock_heap _ _ _ hlt, by simp, by simp, by simp, by simp⟩, Kl.Lay.nil⟩, Ord.nil⟩
  unfold Builtin.clear_
  simp [run_underlying Try.underlying113, Result.andThen, getObj, Sem.run, k2.blk]
  simp [setObj, Sem.run, setBlock, k2.blk]
structure TClr (w w' : World) (t bm : Nat) (L : List Ov) (v : Value) : Prop where
  own : ROv.Own w' w.heap.size v L
  tab : TabAt w' t bm []
  but : But w w' [bm]
theorem tclr_nil (w : World) : Calls Try.prog 39 #[.pointer none] w fun e w' => e = .returned (.slice none 0 0) ∧ Below w.heap.size w w' := by
  go_enter Try.func39, Try.ntmps39
  go_wp2_with fail
  refine (tall_nil _).mono ?_
  rintro e W1 ⟨rfl, hb⟩
  have HB := Lib.hid hb
  clear hb
  go_wp2_with fail
  refine (tmade_nil _).mono ?_
  rintro e W2 ⟨rfl, rfl⟩
  go_wp2_with fail
  go_ret
  exact ⟨rfl, HB.out⟩
theorem tclr_any {w : World} {t bm : Nat} {L : List Ov} (H : TabAt w t bm L) (hlen : L.length ≤ 4611686) : Calls Try.prog 39 #[.pointer (some ⟨t, 0, none⟩)] w fun e w' => ∃ v, e = .returned v ∧ TClr w w' t bm L v := by
  have HA := Lib.hid (tall_any H hlen)
  have HH := Lib.hid H
  clear H
  go_enter Try.func39, Try.ntmps39
  go_wp2_with fail
  refine HA.out.mono ?_
  rintro e W1 ⟨v, rfl, hown, hb⟩
  obtain ⟨a1, c1, rfl, -, -⟩ := hown.sl0
  obtain ⟨n, hn⟩ : ∃ n, L.length = n := ⟨_, rfl⟩
  rw [hn] at hown ⊢
  have htab := HH.out.keep hb
  have c0 := htab.c0
  have HM := Lib.hid (tmade_any htab)
  obtain ⟨O, hcl, htab2⟩ := htab.clear 0
  have F := Lib.hid (show TClr w (setBlock W1 bm O) t bm L (.slice a1 n c1) from ⟨Rep.Own.but hown ((But.refl W1 [bm]).setBlock (b := bm) (.inr (by simp)) O) (by simp; exact HH.out.lt.2.1), htab2, (But.of_below hb [bm]).setBlock (b := bm) (.inr (by simp)) O⟩)
  clear hown hb hn htab htab2 HA
  go_wp2_with fail
  refine HM.out.mono ?_
  rintro e W2 ⟨rfl, hw⟩
  subst hw
  go_wp2_with fail
  go_ret
  exact ⟨_, rfl, F.out⟩
/-- the reference's table in memory -/
structure RefT (w : World) (base x : Nat) (L : List Ov) : Prop where
  lt : x < base
  out : ∃ v, w.heap[x]? = some (.cells #[v] 55 (0, 0)) ∧ ROv.Own w base v L
  ord : Ord L
theorem RefT.on {w w' : World} {base x : Nat} {L : List Ov} (H : RefT w base x L) (hk : ∀ k, k < w.heap.size → (k = x ∨ base ≤ k) → w'.heap[k]? = w.heap[k]?) : RefT w' base x L := by
  obtain ⟨h1, ⟨v, h2, h3⟩, h4⟩ := H
  refine ⟨h1, ⟨v, (hk x (lt_of_blk h2) (.inl rfl)).trans h2, h3.keep fun b hb => ?_⟩, h4⟩
  rcases h3.cases with ⟨rfl, -⟩ | ⟨g, cap, rfl, hg, hgl, -⟩
  · cases hb
  · injection hb with hb; subst hb; exact hk _ hgl (.inr hg)
theorem RefT.keep {w w' : World} {base x : Nat} {L : List Ov} (H : RefT w base x L) (hb : Below w.heap.size w w') : RefT w' base x L := H.on fun k hk _ => hb.block k hk
theorem RefT.sl {w : World} {base x : Nat} {L : List Ov} (H : RefT w base x L) : ∃ a c, w.heap[x]? = some (.cells #[.slice a L.length c] 55 (0, 0)) ∧ ROv.Sl w a L.length c L ∧ (a = none → c = 0) ∧ ROv.Own w base (.slice a L.length c) L := by
  obtain ⟨h1, ⟨v, h2, h3⟩, h4⟩ := H
  obtain ⟨a, c, rfl, hs, hn⟩ := h3.sl0
  exact ⟨a, c, h2, hs, hn, h3⟩
theorem RefT.lx {w : World} {base x : Nat} {L : List Ov} (H : RefT w base x L) : x < w.heap.size := by
  obtain ⟨h1, ⟨v, h2, h3⟩, h4⟩ := H
  exact lt_of_blk h2
theorem RefT.put {w w' : World} {base' x : Nat} {L : List Ov} {v0 v : Value} (h0 : w.heap[x]? = some (.cells #[v0] 55 (0, 0))) (hx : x < base') (hv : ROv.Own w base' v L) (ho : Ord L) (hw : w' = w.setCell ⟨x, 0, none⟩ v) : RefT w' base' x L ∧ But w w' [x] := by
  subst hw
  have hb := (But.refl w [x]).setCell (a := ⟨x, 0, none⟩) (.inr (by simp)) v
  exact ⟨⟨hx, ⟨v, setCell_blk h0 0 v, Rep.Own.but hv hb (by simp; exact hx)⟩, ho⟩, hb⟩
theorem idx_lt : ∀ {L : List Ov} {k : PK} {i : Nat}, i < idxO L k → ltK (L.getD i default).key k = true
  | [], _, _, h => absurd h (Nat.not_lt_zero _)
  | x :: L, k, i, h => by
    rw [idx_cons] at h
    cases hx : ltK x.key k with
    | false => rw [hx] at h; simp at h
    | true =>
      rw [hx, if_pos rfl] at h
      cases i with
      | zero => exact hx
      | succ i => exact idx_lt (L := L) (by omega)
theorem idx_stop : ∀ {L : List Ov} {k : PK}, idxO L k < L.length → ltK (L.getD (idxO L k) default).key k = false
  | [], _, h => absurd h (Nat.not_lt_zero _)
  | x :: L, k, h => by
    rw [idx_cons] at h ⊢
    cases hx : ltK x.key k with
    | false => rw [if_neg (by simp)]; exact hx
    | true => rw [hx, if_pos rfl] at h; rw [if_pos rfl]; exact idx_stop (L := L) (by simpa using h)
theorem has_at {L : List Ov} (h : Ord L) (k : PK) : hasO L k = (decide (idxO L k < L.length) && decide ((L.getD (idxO L k) default).key = k)) := by
  unfold hasO
  rcases at_idx h k with ⟨h1, h2, h3, -⟩ | ⟨h1, h2, -⟩
  · rw [h3, decide_eq_true h1, decide_eq_true h2]; rfl
  · rw [h2]
    by_cases hi : idxO L k < L.length
    · rw [decide_eq_true hi, decide_eq_false (h1 hi)]; rfl
    · rw [decide_eq_false hi]; rfl
theorem get_at {L : List Ov} (h : Ord L) {k : PK} (hk : hasO L k = true) : idxO L k < L.length ∧ (L.getD (idxO L k) default).key = k ∧ getO L k = L.getD (idxO L k) default := by
  unfold hasO at hk
  unfold getO
  rcases at_idx h k with ⟨h1, h2, h3, -⟩ | ⟨-, h2, -⟩
  · rw [h3]; exact ⟨h1, h2, rfl⟩
  · rw [h2] at hk; cases hk
/-- the reference's table, a prefix, one of the table's -/
def FnS (x q b o : Nat) (v : Value) (k : PK) (y : Ov) (w : World) : Prop := w.cell? ⟨x, 0, none⟩ = some v ∧ PfS q k w ∧ w.cell? ⟨b, o + 1, none⟩ = some (.int .u32 (y.ad : Int)) ∧ w.cell? ⟨b, o + 2, none⟩ = some (.int .i64 y.ln)
def FmS (x q : Nat) (v : Value) (k : PK) (w : World) : Prop := w.cell? ⟨x, 0, none⟩ = some v ∧ PfS q k w
set_option maxRecDepth 100000 in
set_option maxHeartbeats 2000000 in
theorem rtfind_any {w : World} {base x : Nat} {L : List Ov} (H : RefT w base x L) (k : PK) : Calls Try.prog 69 #[.pointer (some ⟨x, 0, none⟩), pfx k.1 k.2] w fun e w' => e = .returned (.tuple #[.int .i64 (idxO L k : Nat), .bool (hasO L k)]) ∧ Below w.heap.size w w' := by
  have hal := (Below.refl w.heap.size w).alloc (Nat.le_refl _) (.cells #[.int .u32 (k.1 : Int), .int .i64 k.2] 58)
  have hps : PfS w.heap.size k (w.alloc (.cells #[.int .u32 (k.1 : Int), .int .i64 k.2] 58)) := hnew _ _
  obtain ⟨a, c, h0, hsl, -, -⟩ := (H.keep hal).sl
  have hmax := hsl.max
  have F := Lib.hid (And.intro hal (And.intro hps (And.intro h0 hsl)))
  have HD := Lib.hid (has_at H.ord k)
  have HI := Lib.hid (And.intro (fun i => idx_lt (L := L) (k := k) (i := i)) (And.intro (idx_stop (L := L) (k := k)) (idx_le L k)))
  clear hal hps h0 hsl H
  unfold pfx
  generalize hasO L k = hs at *
  generalize idxO L k = ix at *
  obtain ⟨n, hn⟩ : ∃ n, L.length = n := ⟨_, rfl⟩
  rw [hn] at F hmax HD HI
  have HN := Lib.hid hn
  clear hn
  go_enter Try.func69, Try.ntmps69
  go_wp2_with fail
  generalize w.alloc (.cells #[.int .u32 (k.1 : Int), .int .i64 k.2] 58) = W1 at *
  obtain ⟨q, hq⟩ : ∃ q, w.heap.size = q := ⟨_, rfl⟩
  have F1 := Lib.hid (show Below w.heap.size w W1 ∧ PfS q k W1 ∧ W1.heap[x]? = some (.cells #[.slice a n c] 55 (0, 0)) ∧ ROv.Sl W1 a n c L from hq ▸ F.out)
  rw [hq]
  clear hq F
  go_loopw [6] (fun iv wr => ∃ i : Nat, i ≤ ix ∧ iv = .int .i64 i ∧ Below W1.heap.size W1 wr) (fun iv _ => ix - (intOf iv).toNat)
  case atStart => exact ⟨0, Nat.zero_le _, rfl, Below.refl _ _⟩
  case round =>
    obtain ⟨i, hi, rfl, hb⟩ := hrel
    obtain ⟨w2, rfl⟩ : ∃ w2 : World, w2 = wr := ⟨_, rfl⟩
    have hd := (Below.refl w2.heap.size w2).drew
    have hbd := bcall hb (Nat.le_refl _) hd
    have G := Lib.hid (And.intro (bcall F1.out.1 (Nat.le_refl _) hbd) (And.intro (F1.out.2.1.on (hbd.block _ (lt_of_blk F1.out.2.1))) (And.intro ((hbd.block _ (lt_of_blk F1.out.2.2.1)).trans F1.out.2.2.1) (And.intro (F1.out.2.2.2.keep hbd) hbd))))
    clear hb hd hbd
    have hixn := HI.out.2.2
    by_cases hlt : i < n
    · have hil : ((i : Int) < (n : Int)) = True := by simp; omega
      have hi0 : ((0 : Int) ≤ (i : Int)) = True := by simp
      have hw3 := wrapS hlt hmax
      obtain ⟨b, o, hbo, hbb, hat⟩ := G.out.2.2.2.1.at hlt
      subst hbo
      have y1 := hat 1 (by decide)
      have y2 := hat 2 (by decide)
      simp only [ROv, List.getElem?_cons_zero, List.getElem?_cons_succ] at y1 y2
      have hcl := @cmpK_lt (L.getD i default).key k
      have hst := HI.out.1 i
      have hsp : i = ix → ltK (L.getD i default).key k = false := fun e => by rw [e]; exact HI.out.2.1 (e ▸ hlt)
      have hkk : i = ix → hs = decide ((L.getD i default).key = k) := fun e => by
        rw [HD.out, ← e]
        rw [decide_eq_true hlt]; rfl
      generalize L.getD i default = y at *
      have HF := Lib.hid (And.intro hcl (And.intro hst (And.intro hsp hkk)))
      have hfs : FnS x q b (o + i * 5) (.slice (some ⟨b, o, none⟩) n c) k y w2.drew := ⟨cell_of G.out.2.2.1 rfl, G.out.2.1, y1, y2⟩
      have HFS := Lib.hid (And.intro hfs hbb)
      clear hat hbb y1 y2 hcl hst hsp hkk hfs
      go_wp2_with fail
      refine wp_region_heldP (FnS x q b (o + i * 5) (.slice (some ⟨b, o, none⟩) n c) k y) (by kernel_rfl) ?_
      generalize w2.drew = w3 at *
      refine held_reads [0, 1, 2, 3, 4, 5, 6, 7, 8, 9, 10, 11, 12, 13, 14, 15, 16, 17] (g := 3) rfl (by kernel_rfl) HFS.out.1 (fun _ _ d _ _ h => by cases d <;> exact h) ?_
      simp only [pick, List.getD_cons_zero, List.getD_cons_succ]
      ((with_reducible refine wpRead_step (fun K hK => ?_)); go_simp; first | ((with_reducible refine hK _ ?_); clear hK K) | (apply Exists.intro; (with_reducible refine ⟨fun w' hw' => ?_, hK _ ?_⟩); (first | exact rfl | exact ⟨rfl, rfl⟩); clear hK K))
      ((with_reducible refine wpRead_step (fun K hK => ?_)); go_simp; first | ((with_reducible refine hK _ ?_); clear hK K) | (apply Exists.intro; (with_reducible refine ⟨fun w' hw' => ?_, hK _ ?_⟩); (first | exact rfl | exact ⟨rfl, rfl⟩); clear hK K))
      ((with_reducible refine wpRead_step (fun K hK => ?_)); go_simp; first | ((with_reducible refine hK _ ?_); clear hK K) | (apply Exists.intro; (with_reducible refine ⟨fun w' hw' => ?_, hK _ ?_⟩); (first | exact rfl | exact ⟨rfl, rfl⟩); clear hK K))
      ((with_reducible refine wpRead_step (fun K hK => ?_)); go_simp; first | ((with_reducible refine hK _ ?_); clear hK K) | (apply Exists.intro; (with_reducible refine ⟨fun w' hw' => ?_, hK _ ?_⟩); (first | exact rfl | exact ⟨rfl, rfl⟩); clear hK K))
      ((with_reducible refine wpRead_step (fun K hK => ?_)); go_simp; first | ((with_reducible refine hK _ ?_); clear hK K) | (apply Exists.intro; (with_reducible refine ⟨fun w' hw' => ?_, hK _ ?_⟩); (obtain ⟨f0, fp, f1, f2⟩ := hw'; obtain ⟨p0, p1⟩ := PfS.cells fp; go_simp; first | exact rfl | exact ⟨rfl, rfl⟩); clear hK K))
      ((with_reducible refine wpRead_step (fun K hK => ?_)); go_simp; first | ((with_reducible refine hK _ ?_); clear hK K) | (apply Exists.intro; (with_reducible refine ⟨fun w' hw' => ?_, hK _ ?_⟩); (first | exact rfl | exact ⟨rfl, rfl⟩); clear hK K))
      ((with_reducible refine wpRead_step (fun K hK => ?_)); go_simp; first | ((with_reducible refine hK _ ?_); clear hK K) | (apply Exists.intro; (with_reducible refine ⟨fun w' hw' => ?_, hK _ ?_⟩); (first | exact rfl | exact ⟨rfl, rfl⟩); clear hK K))
      ((with_reducible refine wpRead_step (fun K hK => ?_)); go_simp; first | ((with_reducible refine hK _ ?_); clear hK K) | (apply Exists.intro; (with_reducible refine ⟨fun w' hw' => ?_, hK _ ?_⟩); (first | exact rfl | exact ⟨rfl, rfl⟩); clear hK K))
      ((with_reducible refine wpRead_step (fun K hK => ?_)); go_simp; first | ((with_reducible refine hK _ ?_); clear hK K) | (apply Exists.intro; (with_reducible refine ⟨fun w' hw' => ?_, hK _ ?_⟩); (first | exact rfl | exact ⟨rfl, rfl⟩); clear hK K))
      ((with_reducible refine wpRead_step (fun K hK => ?_)); go_simp; first | ((with_reducible refine hK _ ?_); clear hK K) | (apply Exists.intro; (with_reducible refine ⟨fun w' hw' => ?_, hK _ ?_⟩); (first | exact rfl | exact ⟨rfl, rfl⟩); clear hK K))
      ((with_reducible refine wpRead_step (fun K hK => ?_)); go_simp; first | ((with_reducible refine hK _ ?_); clear hK K) | (apply Exists.intro; (with_reducible refine ⟨fun w' hw' => ?_, hK _ ?_⟩); (first | exact rfl | exact ⟨rfl, rfl⟩); clear hK K))
      ((with_reducible refine wpRead_step (fun K hK => ?_)); go_simp; first | ((with_reducible refine hK _ ?_); clear hK K) | (apply Exists.intro; (with_reducible refine ⟨fun w' hw' => ?_, hK _ ?_⟩); (obtain ⟨f0, fp, f1, f2⟩ := hw'; obtain ⟨p0, p1⟩ := PfS.cells fp; go_simp; first | exact rfl | exact ⟨rfl, rfl⟩); clear hK K))
      ((with_reducible refine wpRead_step (fun K hK => ?_)); go_simp; first | ((with_reducible refine hK _ ?_); clear hK K) | (apply Exists.intro; (with_reducible refine ⟨fun w' hw' => ?_, hK _ ?_⟩); (first | exact rfl | exact ⟨rfl, rfl⟩); clear hK K))
      ((with_reducible refine wpRead_step (fun K hK => ?_)); go_simp; first | ((with_reducible refine hK _ ?_); clear hK K) | (apply Exists.intro; (with_reducible refine ⟨fun w' hw' => ?_, hK _ ?_⟩); (first | exact rfl | exact ⟨rfl, rfl⟩); clear hK K))
      ((with_reducible refine wpRead_step (fun K hK => ?_)); go_simp; first | ((with_reducible refine hK _ ?_); clear hK K) | (apply Exists.intro; (with_reducible refine ⟨fun w' hw' => ?_, hK _ ?_⟩); (first | exact rfl | exact ⟨rfl, rfl⟩); clear hK K))
      ((with_reducible refine wpRead_step (fun K hK => ?_)); go_simp; first | ((with_reducible refine hK _ ?_); clear hK K) | (apply Exists.intro; (with_reducible refine ⟨fun w' hw' => ?_, hK _ ?_⟩); (first | exact rfl | exact ⟨rfl, rfl⟩); clear hK K))
      ((with_reducible refine wpRead_step (fun K hK => ?_)); go_simp; first | ((with_reducible refine hK _ ?_); clear hK K) | (apply Exists.intro; (with_reducible refine ⟨fun w' hw' => ?_, hK _ ?_⟩); (obtain ⟨f0, fp, f1, f2⟩ := hw'; obtain ⟨p0, p1⟩ := PfS.cells fp; go_simp; first | exact rfl | exact ⟨rfl, rfl⟩); clear hK K))
      ((with_reducible refine wpRead_step (fun K hK => ?_)); go_simp; first | ((with_reducible refine hK _ ?_); clear hK K) | (apply Exists.intro; (with_reducible refine ⟨fun w' hw' => ?_, hK _ ?_⟩); (obtain ⟨f0, fp, f1, f2⟩ := hw'; obtain ⟨p0, p1⟩ := PfS.cells fp; go_simp; first | exact rfl | exact ⟨rfl, rfl⟩); clear hK K))
      with_reducible refine wpRead_nil ?_
      obtain ⟨v, hv⟩ : ∃ v, cmpP y.ad y.ln k.1 k.2 = v := ⟨_, rfl⟩
      have hcl : v < 0 ↔ ltK y.key k = true := hv ▸ HF.out.1
      have HV := Lib.hid hcl
      have hrc := rcompare_any y.ad y.ln k.1 k.2 w3
      rw [hv] at hrc
      have HRC := Lib.hid hrc
      clear hcl hv hrc
      obtain ⟨lt, hlt2⟩ : ∃ lt, ltK y.key k = lt := ⟨_, rfl⟩
      cases lt with
      | true =>
        have hvn : (v < 0) = True := eq_true (HV.out.2 hlt2)
        have hii : i < ix := by
          rcases Nat.lt_or_ge i ix with h | h
          · exact h
          · have := HF.out.2.2.1 (by omega)
            rw [hlt2] at this; cases this
        clear hlt2
        refine held_one 18 (by kernel_rfl) ?_
        simp only [pick, List.getD_cons_zero, List.getD_cons_succ]
        go_wp2_with fail
        refine HRC.out.mono ?_
        rintro e w4 ⟨rfl, hb⟩
        have G2 := Lib.hid (And.intro (bcall G.out.1 (Nat.le_refl _) hb) (And.intro (show FnS x q b (o + i * 5) (.slice (some ⟨b, o, none⟩) n c) k y w4 from ⟨(cell_same (hb.block _ (lt_of_blk G.out.2.2.1))).trans HFS.out.1.1, HFS.out.1.2.1.on (hb.block _ (lt_of_blk G.out.2.1)), (cell_same (hb.block _ HFS.out.2)).trans HFS.out.1.2.2.1, (cell_same (hb.block _ HFS.out.2)).trans HFS.out.1.2.2.2⟩) (bcall G.out.2.2.2.2 (Nat.le_refl _) hb)))
        clear hb G HFS HRC
        go_wp2_with fail
        refine ⟨G2.out.2.1, ?_⟩
        refine held_reads [19, 20] (g := 0) rfl (by kernel_rfl) G2.out.2.1 (fun _ _ d _ _ h => by cases d <;> exact h) ?_
        simp only [pick, List.getD_cons_zero, List.getD_cons_succ]
        ((with_reducible refine wpRead_step (fun K hK => ?_)); go_simp; first | ((with_reducible refine hK _ ?_); clear hK K) | (apply Exists.intro; (with_reducible refine ⟨fun w' hw' => ?_, hK _ ?_⟩); (first | exact rfl | exact ⟨rfl, rfl⟩); clear hK K))
        ((with_reducible refine wpRead_step (fun K hK => ?_)); go_simp; first | ((with_reducible refine hK _ ?_); clear hK K) | (apply Exists.intro; (with_reducible refine ⟨fun w' hw' => ?_, hK _ ?_⟩); (first | exact rfl | exact ⟨rfl, rfl⟩); clear hK K))
        with_reducible refine wpRead_nil ?_
        refine wpAnyH_done (by kernel_rfl) ?_ _
        go_wp2_with fail
        exact ⟨⟨i + 1, hii, by first | rw [hw3] | rw [Int.natCast_succ], G2.out.2.2⟩, by first | (rw [hw3]; exact mSucc hii) | (rw [← Int.natCast_succ]; exact mSucc hii)⟩
      | false =>
        have hvn : (v < 0) = False := eq_false (fun h => by have := HV.out.1 h; rw [hlt2] at this; cases this)
        have hii : i = ix := by
          rcases Nat.lt_or_ge i ix with h | h
          · have := HF.out.2.1 h
            rw [hlt2] at this; cases this
          · omega
        have hkk := HF.out.2.2.2 hii
        subst hii
        clear hlt2
        by_cases hke : y.key = k
        · rw [decide_eq_true hke] at hkk
          have e1 : y.ad = k.1 := congrArg Prod.fst hke
          have e2 : y.ln = k.2 := congrArg Prod.snd hke
          have HKE := Lib.hid (And.intro e1 (And.intro e2 hkk))
          clear hke e1 e2 hkk
          refine held_one 18 (by kernel_rfl) ?_
          simp only [pick, List.getD_cons_zero, List.getD_cons_succ]
          go_wp2_with fail
          refine HRC.out.mono ?_
          rintro e w4 ⟨rfl, hb⟩
          have G2 := Lib.hid (And.intro (bcall G.out.1 (Nat.le_refl _) hb) (And.intro (show FnS x q b (o + i * 5) (.slice (some ⟨b, o, none⟩) n c) k y w4 from ⟨(cell_same (hb.block _ (lt_of_blk G.out.2.2.1))).trans HFS.out.1.1, HFS.out.1.2.1.on (hb.block _ (lt_of_blk G.out.2.1)), (cell_same (hb.block _ HFS.out.2)).trans HFS.out.1.2.2.1, (cell_same (hb.block _ HFS.out.2)).trans HFS.out.1.2.2.2⟩) (bcall G.out.2.2.2.2 (Nat.le_refl _) hb)))
          clear hb G HFS HRC
          go_wp2_with fail
          refine ⟨G2.out.2.1, ?_⟩
          refine held_reads [19, 20] (g := 0) rfl (by kernel_rfl) G2.out.2.1 (fun _ _ d _ _ h => by cases d <;> exact h) ?_
          simp only [pick, List.getD_cons_zero, List.getD_cons_succ]
          ((with_reducible refine wpRead_step (fun K hK => ?_)); go_simp; first | ((with_reducible refine hK _ ?_); clear hK K) | (apply Exists.intro; (with_reducible refine ⟨fun w' hw' => ?_, hK _ ?_⟩); (first | exact rfl | exact ⟨rfl, rfl⟩); clear hK K))
          ((with_reducible refine wpRead_step (fun K hK => ?_)); go_simp; first | ((with_reducible refine hK _ ?_); clear hK K) | (apply Exists.intro; (with_reducible refine ⟨fun w' hw' => ?_, hK _ ?_⟩); (first | exact rfl | exact ⟨rfl, rfl⟩); clear hK K))
          with_reducible refine wpRead_nil ?_
          refine wpAnyH_done (by kernel_rfl) ?_ _
          obtain ⟨f0, fp, f1, f2⟩ := G2.out.2.1
          obtain ⟨p0, p1⟩ := PfS.cells fp
          clear fp
          have hfn : FnS x q b (o + i * 5) (.slice (some ⟨b, o, none⟩) n c) k ⟨0, k.1, k.2, 0, 0⟩ w4 := ⟨f0, G2.out.2.1.2.1, by rw [HKE.out.1] at f1; exact f1, by rw [HKE.out.2.1] at f2; exact f2⟩
          have HFN := Lib.hid hfn
          clear hfn
          go_wp2_with fail
          refine wp_region_heldP (FnS x q b (o + i * 5) (.slice (some ⟨b, o, none⟩) n c) k ⟨0, k.1, k.2, 0, 0⟩) (by kernel_rfl) ?_
          have HFD := Lib.hid (show FnS x q b (o + i * 5) (.slice (some ⟨b, o, none⟩) n c) k ⟨0, k.1, k.2, 0, 0⟩ w4.drew from HFN.out)
          refine held_reads [0, 1, 2, 3, 4, 5, 6, 7, 8, 9, 10, 11, 12, 13, 14, 15, 16, 17, 18, 19, 20] (g := 2) rfl (by kernel_rfl) HFD.out (fun _ _ d _ _ h => by cases d <;> exact h) ?_
          simp only [pick, List.getD_cons_zero, List.getD_cons_succ]
          ((with_reducible refine wpRead_step (fun K hK => ?_)); go_simp; first | ((with_reducible refine hK _ ?_); clear hK K) | (apply Exists.intro; (with_reducible refine ⟨fun w' hw' => ?_, hK _ ?_⟩); (first | exact rfl | exact ⟨rfl, rfl⟩); clear hK K))
          ((with_reducible refine wpRead_step (fun K hK => ?_)); go_simp; first | ((with_reducible refine hK _ ?_); clear hK K) | (apply Exists.intro; (with_reducible refine ⟨fun w' hw' => ?_, hK _ ?_⟩); (first | exact rfl | exact ⟨rfl, rfl⟩); clear hK K))
          ((with_reducible refine wpRead_step (fun K hK => ?_)); go_simp; first | ((with_reducible refine hK _ ?_); clear hK K) | (apply Exists.intro; (with_reducible refine ⟨fun w' hw' => ?_, hK _ ?_⟩); (first | exact rfl | exact ⟨rfl, rfl⟩); clear hK K))
          ((with_reducible refine wpRead_step (fun K hK => ?_)); go_simp; first | ((with_reducible refine hK _ ?_); clear hK K) | (apply Exists.intro; (with_reducible refine ⟨fun w' hw' => ?_, hK _ ?_⟩); (first | exact rfl | exact ⟨rfl, rfl⟩); clear hK K))
          ((with_reducible refine wpRead_step (fun K hK => ?_)); go_simp; first | ((with_reducible refine hK _ ?_); clear hK K) | (apply Exists.intro; (with_reducible refine ⟨fun w' hw' => ?_, hK _ ?_⟩); (first | exact rfl | exact ⟨rfl, rfl⟩); clear hK K))
          ((with_reducible refine wpRead_step (fun K hK => ?_)); go_simp; first | ((with_reducible refine hK _ ?_); clear hK K) | (apply Exists.intro; (with_reducible refine ⟨fun w' hw' => ?_, hK _ ?_⟩); (obtain ⟨f0, fp, f1, f2⟩ := hw'; obtain ⟨p0, p1⟩ := PfS.cells fp; go_simp; first | exact rfl | exact ⟨rfl, rfl⟩); clear hK K))
          ((with_reducible refine wpRead_step (fun K hK => ?_)); go_simp; first | ((with_reducible refine hK _ ?_); clear hK K) | (apply Exists.intro; (with_reducible refine ⟨fun w' hw' => ?_, hK _ ?_⟩); (first | exact rfl | exact ⟨rfl, rfl⟩); clear hK K))
          ((with_reducible refine wpRead_step (fun K hK => ?_)); go_simp; first | ((with_reducible refine hK _ ?_); clear hK K) | (apply Exists.intro; (with_reducible refine ⟨fun w' hw' => ?_, hK _ ?_⟩); (first | exact rfl | exact ⟨rfl, rfl⟩); clear hK K))
          ((with_reducible refine wpRead_step (fun K hK => ?_)); go_simp; first | ((with_reducible refine hK _ ?_); clear hK K) | (apply Exists.intro; (with_reducible refine ⟨fun w' hw' => ?_, hK _ ?_⟩); (first | exact rfl | exact ⟨rfl, rfl⟩); clear hK K))
          ((with_reducible refine wpRead_step (fun K hK => ?_)); go_simp; first | ((with_reducible refine hK _ ?_); clear hK K) | (apply Exists.intro; (with_reducible refine ⟨fun w' hw' => ?_, hK _ ?_⟩); (first | exact rfl | exact ⟨rfl, rfl⟩); clear hK K))
          ((with_reducible refine wpRead_step (fun K hK => ?_)); go_simp; first | ((with_reducible refine hK _ ?_); clear hK K) | (apply Exists.intro; (with_reducible refine ⟨fun w' hw' => ?_, hK _ ?_⟩); (first | exact rfl | exact ⟨rfl, rfl⟩); clear hK K))
          ((with_reducible refine wpRead_step (fun K hK => ?_)); go_simp; first | ((with_reducible refine hK _ ?_); clear hK K) | (apply Exists.intro; (with_reducible refine ⟨fun w' hw' => ?_, hK _ ?_⟩); (first | exact rfl | exact ⟨rfl, rfl⟩); clear hK K))
          ((with_reducible refine wpRead_step (fun K hK => ?_)); go_simp; first | ((with_reducible refine hK _ ?_); clear hK K) | (apply Exists.intro; (with_reducible refine ⟨fun w' hw' => ?_, hK _ ?_⟩); (obtain ⟨f0, fp, f1, f2⟩ := hw'; obtain ⟨p0, p1⟩ := PfS.cells fp; go_simp; first | exact rfl | exact ⟨rfl, rfl⟩); clear hK K))
          ((with_reducible refine wpRead_step (fun K hK => ?_)); go_simp; first | ((with_reducible refine hK _ ?_); clear hK K) | (apply Exists.intro; (with_reducible refine ⟨fun w' hw' => ?_, hK _ ?_⟩); (first | exact rfl | exact ⟨rfl, rfl⟩); clear hK K))
          ((with_reducible refine wpRead_step (fun K hK => ?_)); go_simp; first | ((with_reducible refine hK _ ?_); clear hK K) | (apply Exists.intro; (with_reducible refine ⟨fun w' hw' => ?_, hK _ ?_⟩); (first | exact rfl | exact ⟨rfl, rfl⟩); clear hK K))
          ((with_reducible refine wpRead_step (fun K hK => ?_)); go_simp; first | ((with_reducible refine hK _ ?_); clear hK K) | (apply Exists.intro; (with_reducible refine ⟨fun w' hw' => ?_, hK _ ?_⟩); (first | exact rfl | exact ⟨rfl, rfl⟩); clear hK K))
          ((with_reducible refine wpRead_step (fun K hK => ?_)); go_simp; first | ((with_reducible refine hK _ ?_); clear hK K) | (apply Exists.intro; (with_reducible refine ⟨fun w' hw' => ?_, hK _ ?_⟩); (first | exact rfl | exact ⟨rfl, rfl⟩); clear hK K))
          ((with_reducible refine wpRead_step (fun K hK => ?_)); go_simp; first | ((with_reducible refine hK _ ?_); clear hK K) | (apply Exists.intro; (with_reducible refine ⟨fun w' hw' => ?_, hK _ ?_⟩); (obtain ⟨f0, fp, f1, f2⟩ := hw'; obtain ⟨p0, p1⟩ := PfS.cells fp; go_simp; first | exact rfl | exact ⟨rfl, rfl⟩); clear hK K))
          ((with_reducible refine wpRead_step (fun K hK => ?_)); go_simp; first | ((with_reducible refine hK _ ?_); clear hK K) | (apply Exists.intro; (with_reducible refine ⟨fun w' hw' => ?_, hK _ ?_⟩); (obtain ⟨f0, fp, f1, f2⟩ := hw'; obtain ⟨p0, p1⟩ := PfS.cells fp; go_simp; first | exact rfl | exact ⟨rfl, rfl⟩); clear hK K))
          ((with_reducible refine wpRead_step (fun K hK => ?_)); go_simp; first | ((with_reducible refine hK _ ?_); clear hK K) | (apply Exists.intro; (with_reducible refine ⟨fun w' hw' => ?_, hK _ ?_⟩); (first | exact rfl | exact ⟨rfl, rfl⟩); clear hK K))
          ((with_reducible refine wpRead_step (fun K hK => ?_)); go_simp; first | ((with_reducible refine hK _ ?_); clear hK K) | (apply Exists.intro; (with_reducible refine ⟨fun w' hw' => ?_, hK _ ?_⟩); (first | exact rfl | exact ⟨rfl, rfl⟩); clear hK K))
          with_reducible refine wpRead_nil ?_
          refine held_one 21 (by kernel_rfl) ?_
          simp only [pick, List.getD_cons_zero, List.getD_cons_succ]
          go_wp2_with fail
          refine ⟨HFD.out, ?_⟩
          refine held_one 22 (by kernel_rfl) ?_
          simp only [pick, List.getD_cons_zero, List.getD_cons_succ]
          go_wp2_with fail
          refine ⟨HFD.out, ?_⟩
          refine wpAnyH_done (by kernel_rfl) ?_ _
          go_wp2_with fail
          go_ret2
          exact ⟨by rw [HKE.out.2.2]; rfl, G2.out.1.drew⟩
        · rw [decide_eq_false hke] at hkk
          have hke2 : y.ad ≠ k.1 ∨ y.ln ≠ k.2 := by
            by_cases h : y.ad = k.1
            · exact .inr fun h2 => hke (key_eq h h2)
            · exact .inl h
          have HKE := Lib.hid hkk
          clear hke hkk
          by_cases hae : y.ad = k.1
          · have hne : (y.ln == k.2) = false := by
              rcases hke2 with h | h
              · exact absurd hae h
              · simpa using h
            have HAE := Lib.hid hae
            clear hke2 hae
            refine held_one 18 (by kernel_rfl) ?_
            simp only [pick, List.getD_cons_zero, List.getD_cons_succ]
            go_wp2_with fail
            refine HRC.out.mono ?_
            rintro e w4 ⟨rfl, hb⟩
            have G2 := Lib.hid (And.intro (bcall G.out.1 (Nat.le_refl _) hb) (And.intro (show FnS x q b (o + i * 5) (.slice (some ⟨b, o, none⟩) n c) k y w4 from ⟨(cell_same (hb.block _ (lt_of_blk G.out.2.2.1))).trans HFS.out.1.1, HFS.out.1.2.1.on (hb.block _ (lt_of_blk G.out.2.1)), (cell_same (hb.block _ HFS.out.2)).trans HFS.out.1.2.2.1, (cell_same (hb.block _ HFS.out.2)).trans HFS.out.1.2.2.2⟩) (bcall G.out.2.2.2.2 (Nat.le_refl _) hb)))
            clear hb G HFS HRC
            go_wp2_with fail
            refine ⟨G2.out.2.1, ?_⟩
            refine held_reads [19, 20] (g := 0) rfl (by kernel_rfl) G2.out.2.1 (fun _ _ d _ _ h => by cases d <;> exact h) ?_
            simp only [pick, List.getD_cons_zero, List.getD_cons_succ]
            ((with_reducible refine wpRead_step (fun K hK => ?_)); go_simp; first | ((with_reducible refine hK _ ?_); clear hK K) | (apply Exists.intro; (with_reducible refine ⟨fun w' hw' => ?_, hK _ ?_⟩); (first | exact rfl | exact ⟨rfl, rfl⟩); clear hK K))
            ((with_reducible refine wpRead_step (fun K hK => ?_)); go_simp; first | ((with_reducible refine hK _ ?_); clear hK K) | (apply Exists.intro; (with_reducible refine ⟨fun w' hw' => ?_, hK _ ?_⟩); (first | exact rfl | exact ⟨rfl, rfl⟩); clear hK K))
            with_reducible refine wpRead_nil ?_
            refine wpAnyH_done (by kernel_rfl) ?_ _
            obtain ⟨f0, fp, f1, f2⟩ := G2.out.2.1
            obtain ⟨p0, p1⟩ := PfS.cells fp
            clear fp
            have hfn : FnS x q b (o + i * 5) (.slice (some ⟨b, o, none⟩) n c) k ⟨0, k.1, y.ln, 0, 0⟩ w4 := ⟨f0, G2.out.2.1.2.1, by rw [HAE.out] at f1; exact f1, f2⟩
            have HFN := Lib.hid hfn
            clear hfn
            go_wp2_with fail
            refine wp_region_heldP (FnS x q b (o + i * 5) (.slice (some ⟨b, o, none⟩) n c) k ⟨0, k.1, y.ln, 0, 0⟩) (by kernel_rfl) ?_
            have HFD := Lib.hid (show FnS x q b (o + i * 5) (.slice (some ⟨b, o, none⟩) n c) k ⟨0, k.1, y.ln, 0, 0⟩ w4.drew from HFN.out)
            refine held_reads [0, 1, 2, 3, 4, 5, 6, 7, 8, 9, 10, 11, 12, 13, 14, 15, 16, 17, 18, 19, 20] (g := 2) rfl (by kernel_rfl) HFD.out (fun _ _ d _ _ h => by cases d <;> exact h) ?_
            simp only [pick, List.getD_cons_zero, List.getD_cons_succ]
            ((with_reducible refine wpRead_step (fun K hK => ?_)); go_simp; first | ((with_reducible refine hK _ ?_); clear hK K) | (apply Exists.intro; (with_reducible refine ⟨fun w' hw' => ?_, hK _ ?_⟩); (first | exact rfl | exact ⟨rfl, rfl⟩); clear hK K))
            ((with_reducible refine wpRead_step (fun K hK => ?_)); go_simp; first | ((with_reducible refine hK _ ?_); clear hK K) | (apply Exists.intro; (with_reducible refine ⟨fun w' hw' => ?_, hK _ ?_⟩); (first | exact rfl | exact ⟨rfl, rfl⟩); clear hK K))
            ((with_reducible refine wpRead_step (fun K hK => ?_)); go_simp; first | ((with_reducible refine hK _ ?_); clear hK K) | (apply Exists.intro; (with_reducible refine ⟨fun w' hw' => ?_, hK _ ?_⟩); (first | exact rfl | exact ⟨rfl, rfl⟩); clear hK K))
            ((with_reducible refine wpRead_step (fun K hK => ?_)); go_simp; first | ((with_reducible refine hK _ ?_); clear hK K) | (apply Exists.intro; (with_reducible refine ⟨fun w' hw' => ?_, hK _ ?_⟩); (first | exact rfl | exact ⟨rfl, rfl⟩); clear hK K))
            ((with_reducible refine wpRead_step (fun K hK => ?_)); go_simp; first | ((with_reducible refine hK _ ?_); clear hK K) | (apply Exists.intro; (with_reducible refine ⟨fun w' hw' => ?_, hK _ ?_⟩); (first | exact rfl | exact ⟨rfl, rfl⟩); clear hK K))
            ((with_reducible refine wpRead_step (fun K hK => ?_)); go_simp; first | ((with_reducible refine hK _ ?_); clear hK K) | (apply Exists.intro; (with_reducible refine ⟨fun w' hw' => ?_, hK _ ?_⟩); (obtain ⟨f0, fp, f1, f2⟩ := hw'; obtain ⟨p0, p1⟩ := PfS.cells fp; go_simp; first | exact rfl | exact ⟨rfl, rfl⟩); clear hK K))
            ((with_reducible refine wpRead_step (fun K hK => ?_)); go_simp; first | ((with_reducible refine hK _ ?_); clear hK K) | (apply Exists.intro; (with_reducible refine ⟨fun w' hw' => ?_, hK _ ?_⟩); (first | exact rfl | exact ⟨rfl, rfl⟩); clear hK K))
            ((with_reducible refine wpRead_step (fun K hK => ?_)); go_simp; first | ((with_reducible refine hK _ ?_); clear hK K) | (apply Exists.intro; (with_reducible refine ⟨fun w' hw' => ?_, hK _ ?_⟩); (first | exact rfl | exact ⟨rfl, rfl⟩); clear hK K))
            ((with_reducible refine wpRead_step (fun K hK => ?_)); go_simp; first | ((with_reducible refine hK _ ?_); clear hK K) | (apply Exists.intro; (with_reducible refine ⟨fun w' hw' => ?_, hK _ ?_⟩); (first | exact rfl | exact ⟨rfl, rfl⟩); clear hK K))
            ((with_reducible refine wpRead_step (fun K hK => ?_)); go_simp; first | ((with_reducible refine hK _ ?_); clear hK K) | (apply Exists.intro; (with_reducible refine ⟨fun w' hw' => ?_, hK _ ?_⟩); (first | exact rfl | exact ⟨rfl, rfl⟩); clear hK K))
            ((with_reducible refine wpRead_step (fun K hK => ?_)); go_simp; first | ((with_reducible refine hK _ ?_); clear hK K) | (apply Exists.intro; (with_reducible refine ⟨fun w' hw' => ?_, hK _ ?_⟩); (first | exact rfl | exact ⟨rfl, rfl⟩); clear hK K))
            ((with_reducible refine wpRead_step (fun K hK => ?_)); go_simp; first | ((with_reducible refine hK _ ?_); clear hK K) | (apply Exists.intro; (with_reducible refine ⟨fun w' hw' => ?_, hK _ ?_⟩); (first | exact rfl | exact ⟨rfl, rfl⟩); clear hK K))
            ((with_reducible refine wpRead_step (fun K hK => ?_)); go_simp; first | ((with_reducible refine hK _ ?_); clear hK K) | (apply Exists.intro; (with_reducible refine ⟨fun w' hw' => ?_, hK _ ?_⟩); (obtain ⟨f0, fp, f1, f2⟩ := hw'; obtain ⟨p0, p1⟩ := PfS.cells fp; go_simp; first | exact rfl | exact ⟨rfl, rfl⟩); clear hK K))
            ((with_reducible refine wpRead_step (fun K hK => ?_)); go_simp; first | ((with_reducible refine hK _ ?_); clear hK K) | (apply Exists.intro; (with_reducible refine ⟨fun w' hw' => ?_, hK _ ?_⟩); (first | exact rfl | exact ⟨rfl, rfl⟩); clear hK K))
            ((with_reducible refine wpRead_step (fun K hK => ?_)); go_simp; first | ((with_reducible refine hK _ ?_); clear hK K) | (apply Exists.intro; (with_reducible refine ⟨fun w' hw' => ?_, hK _ ?_⟩); (first | exact rfl | exact ⟨rfl, rfl⟩); clear hK K))
            ((with_reducible refine wpRead_step (fun K hK => ?_)); go_simp; first | ((with_reducible refine hK _ ?_); clear hK K) | (apply Exists.intro; (with_reducible refine ⟨fun w' hw' => ?_, hK _ ?_⟩); (first | exact rfl | exact ⟨rfl, rfl⟩); clear hK K))
            ((with_reducible refine wpRead_step (fun K hK => ?_)); go_simp; first | ((with_reducible refine hK _ ?_); clear hK K) | (apply Exists.intro; (with_reducible refine ⟨fun w' hw' => ?_, hK _ ?_⟩); (first | exact rfl | exact ⟨rfl, rfl⟩); clear hK K))
            ((with_reducible refine wpRead_step (fun K hK => ?_)); go_simp; first | ((with_reducible refine hK _ ?_); clear hK K) | (apply Exists.intro; (with_reducible refine ⟨fun w' hw' => ?_, hK _ ?_⟩); (obtain ⟨f0, fp, f1, f2⟩ := hw'; obtain ⟨p0, p1⟩ := PfS.cells fp; go_simp; first | exact rfl | exact ⟨rfl, rfl⟩); clear hK K))
            ((with_reducible refine wpRead_step (fun K hK => ?_)); go_simp; first | ((with_reducible refine hK _ ?_); clear hK K) | (apply Exists.intro; (with_reducible refine ⟨fun w' hw' => ?_, hK _ ?_⟩); (obtain ⟨f0, fp, f1, f2⟩ := hw'; obtain ⟨p0, p1⟩ := PfS.cells fp; go_simp; first | exact rfl | exact ⟨rfl, rfl⟩); clear hK K))
            ((with_reducible refine wpRead_step (fun K hK => ?_)); go_simp; first | ((with_reducible refine hK _ ?_); clear hK K) | (apply Exists.intro; (with_reducible refine ⟨fun w' hw' => ?_, hK _ ?_⟩); (first | exact rfl | exact ⟨rfl, rfl⟩); clear hK K))
            ((with_reducible refine wpRead_step (fun K hK => ?_)); go_simp; first | ((with_reducible refine hK _ ?_); clear hK K) | (apply Exists.intro; (with_reducible refine ⟨fun w' hw' => ?_, hK _ ?_⟩); (first | exact rfl | exact ⟨rfl, rfl⟩); clear hK K))
            with_reducible refine wpRead_nil ?_
            refine held_one 21 (by kernel_rfl) ?_
            simp only [pick, List.getD_cons_zero, List.getD_cons_succ]
            go_wp2_with fail
            refine ⟨HFD.out, ?_⟩
            refine held_one 22 (by kernel_rfl) ?_
            simp only [pick, List.getD_cons_zero, List.getD_cons_succ]
            go_wp2_with fail
            refine ⟨HFD.out, ?_⟩
            refine wpAnyH_done (by kernel_rfl) ?_ _
            go_wp2_with fail
            go_ret2
            exact ⟨by rw [HKE.out]; rfl, G2.out.1.drew⟩
          · have hne : ((y.ad : Int) == (k.1 : Int)) = false := by simpa using fun h : (y.ad : Int) = (k.1 : Int) => hae (by omega)
            clear hke2 hae
            refine held_one 18 (by kernel_rfl) ?_
            simp only [pick, List.getD_cons_zero, List.getD_cons_succ]
            go_wp2_with fail
            refine HRC.out.mono ?_
            rintro e w4 ⟨rfl, hb⟩
            have G2 := Lib.hid (And.intro (bcall G.out.1 (Nat.le_refl _) hb) (And.intro (show FnS x q b (o + i * 5) (.slice (some ⟨b, o, none⟩) n c) k y w4 from ⟨(cell_same (hb.block _ (lt_of_blk G.out.2.2.1))).trans HFS.out.1.1, HFS.out.1.2.1.on (hb.block _ (lt_of_blk G.out.2.1)), (cell_same (hb.block _ HFS.out.2)).trans HFS.out.1.2.2.1, (cell_same (hb.block _ HFS.out.2)).trans HFS.out.1.2.2.2⟩) (bcall G.out.2.2.2.2 (Nat.le_refl _) hb)))
            clear hb G HFS HRC
            go_wp2_with fail
            refine ⟨G2.out.2.1, ?_⟩
            refine held_reads [19, 20] (g := 0) rfl (by kernel_rfl) G2.out.2.1 (fun _ _ d _ _ h => by cases d <;> exact h) ?_
            simp only [pick, List.getD_cons_zero, List.getD_cons_succ]
            ((with_reducible refine wpRead_step (fun K hK => ?_)); go_simp; first | ((with_reducible refine hK _ ?_); clear hK K) | (apply Exists.intro; (with_reducible refine ⟨fun w' hw' => ?_, hK _ ?_⟩); (first | exact rfl | exact ⟨rfl, rfl⟩); clear hK K))
            ((with_reducible refine wpRead_step (fun K hK => ?_)); go_simp; first | ((with_reducible refine hK _ ?_); clear hK K) | (apply Exists.intro; (with_reducible refine ⟨fun w' hw' => ?_, hK _ ?_⟩); (first | exact rfl | exact ⟨rfl, rfl⟩); clear hK K))
            with_reducible refine wpRead_nil ?_
            refine wpAnyH_done (by kernel_rfl) ?_ _
            obtain ⟨f0, fp, f1, f2⟩ := G2.out.2.1
            obtain ⟨p0, p1⟩ := PfS.cells fp
            clear fp
            have hfn : FnS x q b (o + i * 5) (.slice (some ⟨b, o, none⟩) n c) k y w4 := ⟨f0, G2.out.2.1.2.1, f1, f2⟩
            have HFN := Lib.hid hfn
            clear hfn
            go_wp2_with fail
            refine wp_region_heldP (FnS x q b (o + i * 5) (.slice (some ⟨b, o, none⟩) n c) k y) (by kernel_rfl) ?_
            have HFD := Lib.hid (show FnS x q b (o + i * 5) (.slice (some ⟨b, o, none⟩) n c) k y w4.drew from HFN.out)
            refine held_reads [0, 1, 2, 3, 4, 5, 6, 7, 8, 9, 10, 11, 12, 13, 14, 15, 16, 17, 18, 19, 20] (g := 2) rfl (by kernel_rfl) HFD.out (fun _ _ d _ _ h => by cases d <;> exact h) ?_
            simp only [pick, List.getD_cons_zero, List.getD_cons_succ]
            ((with_reducible refine wpRead_step (fun K hK => ?_)); go_simp; first | ((with_reducible refine hK _ ?_); clear hK K) | (apply Exists.intro; (with_reducible refine ⟨fun w' hw' => ?_, hK _ ?_⟩); (first | exact rfl | exact ⟨rfl, rfl⟩); clear hK K))
            ((with_reducible refine wpRead_step (fun K hK => ?_)); go_simp; first | ((with_reducible refine hK _ ?_); clear hK K) | (apply Exists.intro; (with_reducible refine ⟨fun w' hw' => ?_, hK _ ?_⟩); (first | exact rfl | exact ⟨rfl, rfl⟩); clear hK K))
            ((with_reducible refine wpRead_step (fun K hK => ?_)); go_simp; first | ((with_reducible refine hK _ ?_); clear hK K) | (apply Exists.intro; (with_reducible refine ⟨fun w' hw' => ?_, hK _ ?_⟩); (first | exact rfl | exact ⟨rfl, rfl⟩); clear hK K))
            ((with_reducible refine wpRead_step (fun K hK => ?_)); go_simp; first | ((with_reducible refine hK _ ?_); clear hK K) | (apply Exists.intro; (with_reducible refine ⟨fun w' hw' => ?_, hK _ ?_⟩); (first | exact rfl | exact ⟨rfl, rfl⟩); clear hK K))
            ((with_reducible refine wpRead_step (fun K hK => ?_)); go_simp; first | ((with_reducible refine hK _ ?_); clear hK K) | (apply Exists.intro; (with_reducible refine ⟨fun w' hw' => ?_, hK _ ?_⟩); (first | exact rfl | exact ⟨rfl, rfl⟩); clear hK K))
            ((with_reducible refine wpRead_step (fun K hK => ?_)); go_simp; first | ((with_reducible refine hK _ ?_); clear hK K) | (apply Exists.intro; (with_reducible refine ⟨fun w' hw' => ?_, hK _ ?_⟩); (obtain ⟨f0, fp, f1, f2⟩ := hw'; obtain ⟨p0, p1⟩ := PfS.cells fp; go_simp; first | exact rfl | exact ⟨rfl, rfl⟩); clear hK K))
            ((with_reducible refine wpRead_step (fun K hK => ?_)); go_simp; first | ((with_reducible refine hK _ ?_); clear hK K) | (apply Exists.intro; (with_reducible refine ⟨fun w' hw' => ?_, hK _ ?_⟩); (first | exact rfl | exact ⟨rfl, rfl⟩); clear hK K))
            ((with_reducible refine wpRead_step (fun K hK => ?_)); go_simp; first | ((with_reducible refine hK _ ?_); clear hK K) | (apply Exists.intro; (with_reducible refine ⟨fun w' hw' => ?_, hK _ ?_⟩); (first | exact rfl | exact ⟨rfl, rfl⟩); clear hK K))
            ((with_reducible refine wpRead_step (fun K hK => ?_)); go_simp; first | ((with_reducible refine hK _ ?_); clear hK K) | (apply Exists.intro; (with_reducible refine ⟨fun w' hw' => ?_, hK _ ?_⟩); (first | exact rfl | exact ⟨rfl, rfl⟩); clear hK K))
            ((with_reducible refine wpRead_step (fun K hK => ?_)); go_simp; first | ((with_reducible refine hK _ ?_); clear hK K) | (apply Exists.intro; (with_reducible refine ⟨fun w' hw' => ?_, hK _ ?_⟩); (first | exact rfl | exact ⟨rfl, rfl⟩); clear hK K))
            ((with_reducible refine wpRead_step (fun K hK => ?_)); go_simp; first | ((with_reducible refine hK _ ?_); clear hK K) | (apply Exists.intro; (with_reducible refine ⟨fun w' hw' => ?_, hK _ ?_⟩); (first | exact rfl | exact ⟨rfl, rfl⟩); clear hK K))
            ((with_reducible refine wpRead_step (fun K hK => ?_)); go_simp; first | ((with_reducible refine hK _ ?_); clear hK K) | (apply Exists.intro; (with_reducible refine ⟨fun w' hw' => ?_, hK _ ?_⟩); (first | exact rfl | exact ⟨rfl, rfl⟩); clear hK K))
            ((with_reducible refine wpRead_step (fun K hK => ?_)); go_simp; first | ((with_reducible refine hK _ ?_); clear hK K) | (apply Exists.intro; (with_reducible refine ⟨fun w' hw' => ?_, hK _ ?_⟩); (obtain ⟨f0, fp, f1, f2⟩ := hw'; obtain ⟨p0, p1⟩ := PfS.cells fp; go_simp; first | exact rfl | exact ⟨rfl, rfl⟩); clear hK K))
            ((with_reducible refine wpRead_step (fun K hK => ?_)); go_simp; first | ((with_reducible refine hK _ ?_); clear hK K) | (apply Exists.intro; (with_reducible refine ⟨fun w' hw' => ?_, hK _ ?_⟩); (first | exact rfl | exact ⟨rfl, rfl⟩); clear hK K))
            ((with_reducible refine wpRead_step (fun K hK => ?_)); go_simp; first | ((with_reducible refine hK _ ?_); clear hK K) | (apply Exists.intro; (with_reducible refine ⟨fun w' hw' => ?_, hK _ ?_⟩); (first | exact rfl | exact ⟨rfl, rfl⟩); clear hK K))
            ((with_reducible refine wpRead_step (fun K hK => ?_)); go_simp; first | ((with_reducible refine hK _ ?_); clear hK K) | (apply Exists.intro; (with_reducible refine ⟨fun w' hw' => ?_, hK _ ?_⟩); (first | exact rfl | exact ⟨rfl, rfl⟩); clear hK K))
            ((with_reducible refine wpRead_step (fun K hK => ?_)); go_simp; first | ((with_reducible refine hK _ ?_); clear hK K) | (apply Exists.intro; (with_reducible refine ⟨fun w' hw' => ?_, hK _ ?_⟩); (first | exact rfl | exact ⟨rfl, rfl⟩); clear hK K))
            ((with_reducible refine wpRead_step (fun K hK => ?_)); go_simp; first | ((with_reducible refine hK _ ?_); clear hK K) | (apply Exists.intro; (with_reducible refine ⟨fun w' hw' => ?_, hK _ ?_⟩); (obtain ⟨f0, fp, f1, f2⟩ := hw'; obtain ⟨p0, p1⟩ := PfS.cells fp; go_simp; first | exact rfl | exact ⟨rfl, rfl⟩); clear hK K))
            ((with_reducible refine wpRead_step (fun K hK => ?_)); go_simp; first | ((with_reducible refine hK _ ?_); clear hK K) | (apply Exists.intro; (with_reducible refine ⟨fun w' hw' => ?_, hK _ ?_⟩); (obtain ⟨f0, fp, f1, f2⟩ := hw'; obtain ⟨p0, p1⟩ := PfS.cells fp; go_simp; first | exact rfl | exact ⟨rfl, rfl⟩); clear hK K))
            ((with_reducible refine wpRead_step (fun K hK => ?_)); go_simp; first | ((with_reducible refine hK _ ?_); clear hK K) | (apply Exists.intro; (with_reducible refine ⟨fun w' hw' => ?_, hK _ ?_⟩); (first | exact rfl | exact ⟨rfl, rfl⟩); clear hK K))
            ((with_reducible refine wpRead_step (fun K hK => ?_)); go_simp; first | ((with_reducible refine hK _ ?_); clear hK K) | (apply Exists.intro; (with_reducible refine ⟨fun w' hw' => ?_, hK _ ?_⟩); (first | exact rfl | exact ⟨rfl, rfl⟩); clear hK K))
            with_reducible refine wpRead_nil ?_
            refine held_one 21 (by kernel_rfl) ?_
            simp only [pick, List.getD_cons_zero, List.getD_cons_succ]
            go_wp2_with fail
            refine ⟨HFD.out, ?_⟩
            refine held_one 22 (by kernel_rfl) ?_
            simp only [pick, List.getD_cons_zero, List.getD_cons_succ]
            go_wp2_with fail
            refine ⟨HFD.out, ?_⟩
            refine wpAnyH_done (by kernel_rfl) ?_ _
            go_wp2_with fail
            go_ret2
            exact ⟨by rw [HKE.out]; rfl, G2.out.1.drew⟩
    · obtain rfl : n = i := by omega
      obtain rfl : n = ix := by omega
      have hil : ((n : Int) < (n : Int)) = False := by simp
      have hh : hs = false := by rw [HD.out]; simp
      have HH := Lib.hid hh
      clear hh
      have f0 : w2.cell? ⟨x, 0, none⟩ = some (.slice a n c) := cell_of G.out.2.2.1 rfl
      obtain ⟨p0, p1⟩ := PfS.cells (w := w2) G.out.2.1
      have HFM := Lib.hid (show FmS x q (.slice a n c) k w2 from ⟨f0, G.out.2.1⟩)
      go_wp2_with fail
      refine wp_region_quiet_tail (fun w' => w' = w2.drew) 20 (by kernel_rfl) (by kernel_rfl) rfl ?_
      simp only [List.take_succ_cons, List.take_zero, List.drop_succ_cons, List.drop_zero]
      iterate 20 ((with_reducible refine wpQuiet_step (fun K hK => ?_)); go_simp; first | (rw [if_neg (by decide)]; (with_reducible refine hK _ ?_); clear hK K) | ((with_reducible refine hK _ ?_); clear hK K) | (apply Exists.intro; (with_reducible refine ⟨fun w' hw' => ?_, hK _ ?_⟩); (subst hw'; first | (go_simp; first | exact rfl | exact ⟨rfl, rfl⟩) | exact rfl | exact ⟨rfl, rfl⟩); clear hK K))
      refine wpQuiet_nil ?_
      rintro _ rfl
      go_wp2_with fail
      refine wp_region_heldP (FmS x q (.slice a n c) k) (by kernel_rfl) ?_
      have HFD := Lib.hid (show FmS x q (.slice a n c) k w2.drew.drew from HFM.out)
      refine held_reads [0, 1, 2, 3, 4, 5, 6, 7, 8, 9, 10, 11, 12, 13, 14, 15, 16, 17, 18, 19, 20] (g := 2) rfl (by kernel_rfl) HFD.out (fun _ _ d _ _ h => by cases d <;> exact h) ?_
      simp only [pick, List.getD_cons_zero, List.getD_cons_succ]
      ((with_reducible refine wpRead_step (fun K hK => ?_)); go_simp; first | ((with_reducible refine hK _ ?_); clear hK K) | (apply Exists.intro; (with_reducible refine ⟨fun w' hw' => ?_, hK _ ?_⟩); (first | exact rfl | exact ⟨rfl, rfl⟩); clear hK K))
      ((with_reducible refine wpRead_step (fun K hK => ?_)); go_simp; first | ((with_reducible refine hK _ ?_); clear hK K) | (apply Exists.intro; (with_reducible refine ⟨fun w' hw' => ?_, hK _ ?_⟩); (first | exact rfl | exact ⟨rfl, rfl⟩); clear hK K))
      ((with_reducible refine wpRead_step (fun K hK => ?_)); go_simp; first | ((with_reducible refine hK _ ?_); clear hK K) | (apply Exists.intro; (with_reducible refine ⟨fun w' hw' => ?_, hK _ ?_⟩); (first | exact rfl | exact ⟨rfl, rfl⟩); clear hK K))
      ((with_reducible refine wpRead_step (fun K hK => ?_)); go_simp; first | ((with_reducible refine hK _ ?_); clear hK K) | (apply Exists.intro; (with_reducible refine ⟨fun w' hw' => ?_, hK _ ?_⟩); (first | exact rfl | exact ⟨rfl, rfl⟩); clear hK K))
      ((with_reducible refine wpRead_step (fun K hK => ?_)); go_simp; first | ((with_reducible refine hK _ ?_); clear hK K) | (apply Exists.intro; (with_reducible refine ⟨fun w' hw' => ?_, hK _ ?_⟩); (first | exact rfl | exact ⟨rfl, rfl⟩); clear hK K))
      ((with_reducible refine wpRead_step (fun K hK => ?_)); go_simp; first | ((with_reducible refine hK _ ?_); clear hK K) | (apply Exists.intro; (with_reducible refine ⟨fun w' hw' => ?_, hK _ ?_⟩); (obtain ⟨f0, fp⟩ := hw'; obtain ⟨p0, p1⟩ := PfS.cells fp; go_simp; first | exact rfl | exact ⟨rfl, rfl⟩); clear hK K))
      ((with_reducible refine wpRead_step (fun K hK => ?_)); go_simp; first | ((with_reducible refine hK _ ?_); clear hK K) | (apply Exists.intro; (with_reducible refine ⟨fun w' hw' => ?_, hK _ ?_⟩); (first | exact rfl | exact ⟨rfl, rfl⟩); clear hK K))
      ((with_reducible refine wpRead_step (fun K hK => ?_)); go_simp; first | ((with_reducible refine hK _ ?_); clear hK K) | (apply Exists.intro; (with_reducible refine ⟨fun w' hw' => ?_, hK _ ?_⟩); (first | exact rfl | exact ⟨rfl, rfl⟩); clear hK K))
      ((with_reducible refine wpRead_step (fun K hK => ?_)); go_simp; first | ((with_reducible refine hK _ ?_); clear hK K) | (apply Exists.intro; (with_reducible refine ⟨fun w' hw' => ?_, hK _ ?_⟩); (first | exact rfl | exact ⟨rfl, rfl⟩); clear hK K))
      ((with_reducible refine wpRead_step (fun K hK => ?_)); go_simp; first | ((with_reducible refine hK _ ?_); clear hK K) | (apply Exists.intro; (with_reducible refine ⟨fun w' hw' => ?_, hK _ ?_⟩); (first | exact rfl | exact ⟨rfl, rfl⟩); clear hK K))
      ((with_reducible refine wpRead_step (fun K hK => ?_)); go_simp; first | ((with_reducible refine hK _ ?_); clear hK K) | (apply Exists.intro; (with_reducible refine ⟨fun w' hw' => ?_, hK _ ?_⟩); (first | exact rfl | exact ⟨rfl, rfl⟩); clear hK K))
      ((with_reducible refine wpRead_step (fun K hK => ?_)); go_simp; first | ((with_reducible refine hK _ ?_); clear hK K) | (apply Exists.intro; (with_reducible refine ⟨fun w' hw' => ?_, hK _ ?_⟩); (first | exact rfl | exact ⟨rfl, rfl⟩); clear hK K))
      ((with_reducible refine wpRead_step (fun K hK => ?_)); go_simp; first | ((with_reducible refine hK _ ?_); clear hK K) | (apply Exists.intro; (with_reducible refine ⟨fun w' hw' => ?_, hK _ ?_⟩); (first | exact rfl | exact ⟨rfl, rfl⟩); clear hK K))
      ((with_reducible refine wpRead_step (fun K hK => ?_)); go_simp; first | ((with_reducible refine hK _ ?_); clear hK K) | (apply Exists.intro; (with_reducible refine ⟨fun w' hw' => ?_, hK _ ?_⟩); (first | exact rfl | exact ⟨rfl, rfl⟩); clear hK K))
      ((with_reducible refine wpRead_step (fun K hK => ?_)); go_simp; first | ((with_reducible refine hK _ ?_); clear hK K) | (apply Exists.intro; (with_reducible refine ⟨fun w' hw' => ?_, hK _ ?_⟩); (first | exact rfl | exact ⟨rfl, rfl⟩); clear hK K))
      ((with_reducible refine wpRead_step (fun K hK => ?_)); go_simp; first | ((with_reducible refine hK _ ?_); clear hK K) | (apply Exists.intro; (with_reducible refine ⟨fun w' hw' => ?_, hK _ ?_⟩); (first | exact rfl | exact ⟨rfl, rfl⟩); clear hK K))
      ((with_reducible refine wpRead_step (fun K hK => ?_)); go_simp; first | ((with_reducible refine hK _ ?_); clear hK K) | (apply Exists.intro; (with_reducible refine ⟨fun w' hw' => ?_, hK _ ?_⟩); (first | exact rfl | exact ⟨rfl, rfl⟩); clear hK K))
      ((with_reducible refine wpRead_step (fun K hK => ?_)); go_simp; first | ((with_reducible refine hK _ ?_); clear hK K) | (apply Exists.intro; (with_reducible refine ⟨fun w' hw' => ?_, hK _ ?_⟩); (first | exact rfl | exact ⟨rfl, rfl⟩); clear hK K))
      ((with_reducible refine wpRead_step (fun K hK => ?_)); go_simp; first | ((with_reducible refine hK _ ?_); clear hK K) | (apply Exists.intro; (with_reducible refine ⟨fun w' hw' => ?_, hK _ ?_⟩); (first | exact rfl | exact ⟨rfl, rfl⟩); clear hK K))
      ((with_reducible refine wpRead_step (fun K hK => ?_)); go_simp; first | ((with_reducible refine hK _ ?_); clear hK K) | (apply Exists.intro; (with_reducible refine ⟨fun w' hw' => ?_, hK _ ?_⟩); (first | exact rfl | exact ⟨rfl, rfl⟩); clear hK K))
      ((with_reducible refine wpRead_step (fun K hK => ?_)); go_simp; first | ((with_reducible refine hK _ ?_); clear hK K) | (apply Exists.intro; (with_reducible refine ⟨fun w' hw' => ?_, hK _ ?_⟩); (first | exact rfl | exact ⟨rfl, rfl⟩); clear hK K))
      with_reducible refine wpRead_nil ?_
      refine held_one 21 (by kernel_rfl) ?_
      simp only [pick, List.getD_cons_zero, List.getD_cons_succ]
      go_wp2_with fail
      refine ⟨HFD.out, ?_⟩
      refine held_one 22 (by kernel_rfl) ?_
      simp only [pick, List.getD_cons_zero, List.getD_cons_succ]
      go_wp2_with fail
      refine ⟨HFD.out, ?_⟩
      refine wpAnyH_done (by kernel_rfl) ?_ _
      go_wp2_with fail
      go_ret2
      exact ⟨by rw [HH.out]; rfl, G.out.1.drew⟩
end Go.Proofs.Ytfmehahjjgalfaa
/- Slices of slices: what s[:i] and s[i:] are, and what they read as. -/
namespace Go.Proofs.Ytfmehahjjgalfaa
open Go.RowKit
namespace Rep
variable {α : Type} [Inhabited α] {R : Rep α} {P : Program}
theorem Ty.elem {t : TypeId} {bytes : Nat} (hT : Ty P t R bytes) : P.elem t = R.T := by
  unfold Program.elem; rw [hT.ht]
theorem Ty.elem' {t : TypeId} {bytes : Nat} (hT : Ty P t R bytes) : P.underlying t = some (.slice (P.elem t)) := by rw [hT.elem]; exact hT.ht
theorem Ty.size {t : TypeId} {bytes : Nat} (hT : Ty P t R bytes) (w : World) : (sizeOf (P.elem t)).run P w = .ok R.k w := by
  rw [hT.elem]
  obtain ⟨i, z, h1, h2, h3, h4, h5⟩ := hT.hi
  simp [sizeOf, typeInfo, h1, h3]
/-- where the cut slice begins -/
def cutAddr (a : Option Addr) (l m k : Nat) : Option Addr := if m = l then a else a.map (·.add (l * k))
theorem cutAddr_some {b o l m k : Nat} : ∃ o', cutAddr (some ⟨b, o, none⟩) l m k = some ⟨b, o', none⟩ ∧ (m ≠ l → o' = o + l * k) := by
  unfold cutAddr
  split
  · rename_i h; exact ⟨o, rfl, fun h' => absurd h h'⟩
  · refine ⟨o + l * k, ?_, fun _ => rfl⟩
    show some ((⟨b, o, none⟩ : Addr).add (l * k)) = _
    unfold Addr.add; split <;> simp_all
theorem cutAddr_none {l m k : Nat} : cutAddr none l m k = none := by unfold cutAddr; split <;> rfl
theorem cutAddr_isNone {a : Option Addr} {l m k : Nat} (h : cutAddr a l m k = none) : a = none := by
  unfold cutAddr at h
  split at h
  · exact h
  · cases a with
    | none => rfl
    | some _ => cases h
theorem cut_from {t : TypeId} {bytes : Nat} (hT : Ty P t R bytes) {w : World} {a : Option Addr} {n c : Nat} {L : List α} (hs : R.Sl w a n c L) (hnc : n ≤ c) (hn0 : a = none → c = 0) {i : Nat} (hi : i ≤ n) :
    ∃ sa, (∀ W, (Instr.sliceAt t (.slice a n c) (some (.int .i64 (i : Int))) none none).run P W = .ok (.slice sa (n - i) (c - i)) W) ∧ (∀ W, (Instr.slice t (.slice a n c) (some (.int .i64 (i : Int))) none none).run P W = .ok (.slice sa (n - i) (c - i)) W) ∧
      R.Sl w sa (n - i) (c - i) (L.drop i) ∧ (sa = none → c - i = 0) ∧ ∀ b o, a = some ⟨b, o, none⟩ → ∃ o', sa = some ⟨b, o', none⟩ := by
  have h2 : ∀ W, (Instr.slice t (.slice a n c) (some (.int .i64 (i : Int))) none none).run P W = .ok (.slice (cutAddr a i c R.k) (n - i) (c - i)) W := fun W => by
    rw [run_slice_l W t a n c hT.elem' .i64 (i : Int) (by omega) (by omega), hT.size W]
    simp only [Result.andThen, sliced, Int.toNat_natCast, cutAddr]
  refine ⟨cutAddr a i c R.k, fun W => ?_, h2, ⟨by rw [List.length_drop, ← hs.len], by have := hs.max; omega, fun h0 => ?_⟩, fun e => ?_, fun b o e => ?_⟩
  · rw [run_sliceAt_slice W t _ _ _ _ hT.elem']; exact h2 W
  · obtain ⟨b, o, e, hr⟩ := hs.row (by omega)
    obtain ⟨o', e', ho'⟩ := cutAddr_some (b := b) (o := o) (l := i) (m := c) (k := R.k)
    rw [e, e']
    refine ⟨b, o', rfl, ?_⟩
    rw [ho' (by omega)]
    exact hr.drop i
  · rw [hn0 (cutAddr_isNone e)]; omega
  · subst e
    obtain ⟨o', e', -⟩ := cutAddr_some (b := b) (o := o) (l := i) (m := c) (k := R.k)
    exact ⟨o', e'⟩
theorem cut_to {t : TypeId} {bytes : Nat} (hT : Ty P t R bytes) {w : World} {a : Option Addr} {n c : Nat} {L : List α} (hs : R.Sl w a n c L) (hnc : n ≤ c) (hn0 : a = none → c = 0) {i : Nat} (hi : i ≤ n) :
    ∃ sa, (∀ W, (Instr.sliceAt t (.slice a n c) none (some (.int .i64 (i : Int))) none).run P W = .ok (.slice sa i c) W) ∧ (∀ W, (Instr.slice t (.slice a n c) none (some (.int .i64 (i : Int))) none).run P W = .ok (.slice sa i c) W) ∧
      R.Sl w sa i c (L.take i) ∧ (sa = none → c = 0) ∧ ∀ b o, a = some ⟨b, o, none⟩ → ∃ o', sa = some ⟨b, o', none⟩ := by
  have h2 : ∀ W, (Instr.slice t (.slice a n c) none (some (.int .i64 (i : Int))) none).run P W = .ok (.slice (cutAddr a 0 c R.k) i c) W := fun W => by
    rw [run_slice_h W t a n c hT.elem' .i64 (i : Int) (by omega) (by omega), hT.size W]
    simp only [Result.andThen, sliced, Int.toNat_natCast, cutAddr, Nat.sub_zero]
  refine ⟨cutAddr a 0 c R.k, fun W => ?_, h2, ⟨by rw [List.length_take, ← hs.len]; omega, by have := hs.max; omega, fun h0 => ?_⟩, fun e => hn0 (cutAddr_isNone e), fun b o e => ?_⟩
  · rw [run_sliceAt_slice W t _ _ _ _ hT.elem']; exact h2 W
  · obtain ⟨b, o, e, hr⟩ := hs.row (by omega)
    obtain ⟨o', e', ho'⟩ := cutAddr_some (b := b) (o := o) (l := 0) (m := c) (k := R.k)
    rw [e, e']
    refine ⟨b, o', rfl, ?_⟩
    rw [ho' (by omega), Nat.zero_mul, Nat.add_zero]
    exact hr.take i
  · subst e
    obtain ⟨o', e', -⟩ := cutAddr_some (b := b) (o := o) (l := 0) (m := c) (k := R.k)
    exact ⟨o', e'⟩
end Rep
end Go.Proofs.Ytfmehahjjgalfaa
