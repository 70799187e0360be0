/- A table of detours: New, Set, Get, Delete, Len. -/
import Derived.Test.YtfmehahjjgalfaaDb
import Derived.Test.YtfmehahjjgalfaaRl
namespace Go.Proofs.Ytfmehahjjgalfaa
open Go.RowKit
open Go.ChangeMaps (setBlock)

theorem laidOut : laidOutB Try.prog = true := by kernel_rfl
theorem rowP : (58 : TypeId) < Try.prog.types.size := of_decide_eq_true (by kernel_rfl)
theorem wideP : (match Try.prog.underlying 58 with | some (.array _ _) | some (.struct _) => true | _ => false) = true := by kernel_rfl
set_option maxRecDepth 100000 in
theorem lawP : WideMaps.KeyLaw Try.prog 58 := deep_law_laid laidOut (m := 2) (by omega) rowP (by kernel_rfl) wideP
theorem keyP : Try.prog.keyType 58 = true := by kernel_rfl
theorem sizeT : Try.prog.types.size + 1 = 204 + 1 + 1 + 1 := by kernel_rfl
theorem cellsP : Try.prog.cellsOf 58 = 2 := by kernel_rfl
theorem cells3 : Try.prog.cellsOf 3 = 1 := by kernel_rfl
theorem cells22 : Try.prog.cellsOf 56 = 1 := by kernel_rfl
def PK.val (k : PK) : Value := .agg #[.int .u32 (k.1 : Int), .int .i64 k.2]
def PK.wf (k : PK) : Prop := (Lit.int .u32 (k.1 : Int)).wf = true ∧ (Lit.int .i64 k.2).wf = true
theorem PK.reads (k : PK) (h : PK.wf k) : ∃ l, keyOf Try.prog 58 (PK.val k) = some l := by
  obtain ⟨h2, h3⟩ := h
  have hf : (PK.val k).formed Try.prog 58 = true := by simp [Value.formed, Try.underlying58, PK.val, cellsP]
  have i1 : ∀ d n, (Lit.int .i64 n).wf = true → Try.prog.keyLits (d + 1) 3 [.int .i64 n] = some [.int .i64 n] := by
    intro d n h; simp [Program.keyLits, Try.underlying3, h]
  have i2 : ∀ d n, (Lit.int .u32 n).wf = true → Try.prog.keyLits (d + 1) 56 [.int .u32 n] = some [.int .u32 n] := by
    intro d n h; simp [Program.keyLits, Try.underlying56, h]
  have i3 : ∀ d, Try.prog.keyLits (d + 1 + 1) 58 [.int .u32 (k.1 : Int), .int .i64 k.2] = some [.int .u32 (k.1 : Int), .int .i64 k.2] := by
    intro d; unfold Program.keyLits; simp [Try.underlying58, cellsP, cells3, cells22, i1 d _ h3, i2 d _ h2]
  unfold keyOf
  simp only [Try.underlying58]
  rw [keyP, hf, sizeT]
  have := i3 (204 + 1)
  simp only [PK.val, Value.cells, this]
  exact ⟨_, rfl⟩
def PN : MR.Enc Try.prog 58 PK where
  enc := PK.val
  ok := PK.wf
  law := Maps.Keyed.of_law lawP
  reads := PK.reads
  inj a b h := by
    obtain ⟨a1, a2⟩ := a
    obtain ⟨b1, b2⟩ := b
    simp [PK.val] at h
    exact Prod.ext (by omega) h.2
theorem wfI {n : Int} (h : -9223372036854775808 ≤ n ∧ n ≤ 9223372036854775807) : (Lit.int .i64 n).wf = true := by
  simp only [Lit.wf, IntKind.min, IntKind.max, IntKind.signed, IntKind.bits, Bool.and_eq_true, decide_eq_true_eq]
  simpa using h
theorem wfU {n : Int} (h : 0 ≤ n ∧ n ≤ 4294967295) : (Lit.int .u32 n).wf = true := by
  simp only [Lit.wf, IntKind.min, IntKind.max, IntKind.signed, IntKind.bits, Bool.and_eq_true]
  simpa using h
theorem setBlock_other {b i : Nat} {W : World} {o : Obj} (h : i ≠ b) : (setBlock W b o).heap[i]? = W.heap[i]? := by
  show (W.heap.setIfInBounds b o)[i]? = _
  rw [Array.getElem?_setIfInBounds, if_neg (Ne.symm h)]
theorem bcall {B : Nat} {w w2 w3 : World} (h : Below B w w2) (hB : B ≤ w.heap.size) (h3 : Below w2.heap.size w2 w3) : Below B w w3 := h.trans (h3.mono (Nat.le_trans hB h.size))
/-- these blocks are as they were -/
def SameAt (bs : List Nat) (w0 w : World) : Prop := ∀ b ∈ bs, w.heap[b]? = w0.heap[b]?
theorem SameAt.refl (bs : List Nat) (w : World) : SameAt bs w w := fun _ _ => rfl
theorem SameAt.on {bs : List Nat} {w0 w w' : World} (h : SameAt bs w0 w) (hb : Below w.heap.size w w') (hl : ∀ b ∈ bs, b < w.heap.size) : SameAt bs w0 w' := fun b hm => (hb.block _ (hl b hm)).trans (h b hm)

/-- a table of detours in memory -/
structure TabAt (w : World) (t bm : Nat) (L : List Ov) : Prop where
  out : ∃ clk es, w.heap[t]? = some (.cells #[.map (some bm)] 115) ∧ MR.MapAt PN w bm es clk ∧ Kl.Lay Ov.key Ov.v es L
  ord : Ord L
theorem TabAt.on {w w' : World} {t bm : Nat} {L : List Ov} (H : TabAt w t bm L) (h1 : w'.heap[t]? = w.heap[t]?) (h2 : w'.heap[bm]? = w.heap[bm]?) : TabAt w' t bm L := by
  obtain ⟨⟨clk, es, k1, k2, k3⟩, ho⟩ := H
  exact ⟨⟨clk, es, h1.trans k1, k2.blk_iff PN h2, k3⟩, ho⟩
theorem TabAt.lt {w : World} {t bm : Nat} {L : List Ov} (H : TabAt w t bm L) : t < w.heap.size ∧ bm < w.heap.size ∧ t ≠ bm := by
  obtain ⟨⟨clk, es, k1, k2, k3⟩, ho⟩ := H
  exact ⟨lt_of_blk k1, lt_of_blk k2.blk, fun e => by subst e; rw [k2.blk] at k1; cases k1⟩
theorem TabAt.keep {w w' : World} {t bm : Nat} {L : List Ov} (H : TabAt w t bm L) (hb : Below w.heap.size w w') : TabAt w' t bm L := H.on (hb.block _ H.lt.1) (hb.block _ H.lt.2.1)
theorem TabAt.c0 {w : World} {t bm : Nat} {L : List Ov} (H : TabAt w t bm L) : w.cell? ⟨t, 0, none⟩ = some (.map (some bm)) := by
  obtain ⟨⟨clk, es, k1, k2, k3⟩, ho⟩ := H
  exact cell_of k1 rfl
theorem zeroO (w : World) : (zeroValue 62).run Try.prog w = .ok (.agg #[.int .i64 0, .int .u32 0, .int .i64 0, .int .i64 0, .int .i64 0]) w := by kernel_rfl
def getO (L : List Ov) (k : PK) : Ov := (Kl.look Ov.key L k).getD ovZ
theorem TabAt.lookup {w : World} {t bm : Nat} {L : List Ov} (H : TabAt w t bm L) {k : PK} (hk : PN.ok k) (W : World) (hW : W.heap[bm]? = w.heap[bm]?) :
    (Instr.lookup 113 (.map (some bm)) (.agg #[.int .u32 (k.1 : Int), .int .i64 k.2]) true).run Try.prog W = .ok (.tuple #[(getO L k).v, .bool (hasO L k)]) W := by
  obtain ⟨⟨clk, es, k1, k2, k3⟩, ho⟩ := H
  have h := MR.run_lookup PN (k2.blk_iff PN hW) hk Try.underlying113 zeroO true
  rw [k3.get, if_pos rfl] at h
  have e1 : ((Kl.look Ov.key L k).map Ov.v).getD (.agg #[.int .i64 0, .int .u32 0, .int .i64 0, .int .i64 0, .int .i64 0]) = (getO L k).v := by unfold getO; cases Kl.look Ov.key L k <;> rfl
  have e2 : ((Kl.look Ov.key L k).map Ov.v).isSome = hasO L k := by unfold hasO; cases Kl.look Ov.key L k <;> rfl
  rw [e1, e2] at h
  exact h
theorem TabAt.update {w : World} {t bm : Nat} {L : List Ov} (H : TabAt w t bm L) {o : Ov} (hk : PN.ok o.key) :
    ∃ O, (Instr.mapUpdate 113 (.map (some bm)) (.agg #[.int .u32 (o.ad : Int), .int .i64 o.ln]) (.agg #[.int .i64 o.r, .int .u32 (o.ad : Int), .int .i64 o.ln, .int .i64 o.id, .int .i64 o.till])).run Try.prog w = .ok () (setBlock w bm O) ∧ TabAt (setBlock w bm O) t bm (setO L o) := by
  have hne := H.lt.2.2
  obtain ⟨⟨clk, es, k1, k2, k3⟩, ho⟩ := H
  have hu := MR.run_update PN k2 hk Try.underlying113 (Ov.v o)
  exact ⟨_, hu.1, ⟨_, _, (setBlock_other hne).trans k1, hu.2, k3.put (ho.set o).keys (look_set ho o) hu.2.nodup hu.2.bnodup⟩, ho.set o⟩
theorem TabAt.delete {w : World} {t bm : Nat} {L : List Ov} (H : TabAt w t bm L) {k : PK} (hk : PN.ok k) (K' ty : TypeId) :
    ∃ O, (Builtin.delete_ #[113, K'] ty #[.map (some bm), .agg #[.int .u32 (k.1 : Int), .int .i64 k.2]]).run Try.prog w = .ok (.tuple #[]) (setBlock w bm O) ∧ TabAt (setBlock w bm O) t bm (L.filter fun x => decide (x.key ≠ k)) := by
  have hne := H.lt.2.2
  obtain ⟨⟨clk, es, k1, k2, k3⟩, ho⟩ := H
  have hu := MR.run_delete PN k2 hk Try.underlying113 (K' := K') ty
  exact ⟨_, hu.1, ⟨_, _, (setBlock_other hne).trans k1, hu.2, k3.del k⟩, ho.filter _⟩
theorem TabAt.len {w : World} {t bm : Nat} {L : List Ov} (H : TabAt w t bm L) (W : World) (hW : W.heap[bm]? = w.heap[bm]?) (ty : TypeId) : (Builtin.len_ #[113] ty #[.map (some bm)]).run Try.prog W = .ok (.int .i64 L.length) W := by
  obtain ⟨⟨clk, es, k1, k2, k3⟩, ho⟩ := H
  have := MR.run_len PN (k2.blk_iff PN hW) Try.underlying113 ty
  rw [k3.len] at this
  exact this
set_option maxRecDepth 100000 in
theorem tnew_any (w : World) : Calls Try.prog 30 #[] w fun e w' => ∃ t bm, e = .returned (.pointer (some ⟨t, 0, none⟩)) ∧ TabAt w' t bm [] ∧ Below w.heap.size w w' ∧ w.heap.size ≤ t ∧ w.heap.size ≤ bm := by
  have hmm := @run_makeMap Try.prog
  go_enter Try.func30, Try.ntmps30
  go_wp2_with fail
  go_ret
  exact ⟨w.heap.size + 1, w.heap.size, rfl, ⟨⟨0, [], hnewAt (by simp), MR.mapAt_made PN (hold (hnew _ _)), Kl.Lay.nil⟩, Ord.nil⟩, ((Below.refl _ _).alloc (Nat.le_refl _) _).alloc (by simp) _, by omega, Nat.le_refl _⟩
theorem tmade_nil (w : World) : Calls Try.prog 67 #[.pointer none] w fun e w' => e = .returned (.bool false) ∧ w' = w := by
  go_enter Try.func67, Try.ntmps67
  go_wp2_with fail
  go_ret
  exact ⟨rfl, rfl⟩
set_option maxRecDepth 100000 in
theorem tmade_any {w : World} {t bm : Nat} {L : List Ov} (H : TabAt w t bm L) : Calls Try.prog 67 #[.pointer (some ⟨t, 0, none⟩)] w fun e w' => e = .returned (.bool true) ∧ w' = w := by
  have c0 := H.c0
  clear H
  have hne : (binOp BinOp.neq 113 (.map (some bm)) (.map none)).run Try.prog w = .ok (.bool true) w := by kernel_rfl
  go_enter Try.func67, Try.ntmps67
  go_wp2_with fail
  go_ret
  exact ⟨rfl, rfl⟩
set_option maxRecDepth 100000 in
theorem tlen_nil (w : World) : Calls Try.prog 43 #[.pointer none] w fun e w' => e = .returned (.int .i64 0) ∧ w' = w := by
  go_enter Try.func43, Try.ntmps43
  go_wp2_with fail
  go_ret
  exact ⟨rfl, rfl⟩
set_option maxRecDepth 100000 in
theorem tlen_any {w : World} {t bm : Nat} {L : List Ov} (H : TabAt w t bm L) : Calls Try.prog 43 #[.pointer (some ⟨t, 0, none⟩)] w fun e w' => e = .returned (.int .i64 (L.length : Nat)) ∧ w' = w := by
  have c0 := H.c0
  have hl := H.len w rfl
  clear H
  generalize L.length = n at *
  go_enter Try.func43, Try.ntmps43
  go_wp2_with fail
  go_ret
  exact ⟨rfl, rfl⟩
def setE (L : List Ov) (o : Ov) : Int := if okP o.ad o.ln then (if !hasO L o.key && decide (4096 ≤ L.length) then 2 else 0) else 20
structure TSet (w w' : World) (t bm : Nat) (L : List Ov) (o : Ov) : Prop where
  tab : TabAt w' t bm (if setE L o = 0 then setO L o else L)
  but : But w w' [bm]
theorem tset_nil (o : Ov) (w : World) : Calls Try.prog 32 #[.pointer none, o.v] w fun e w' => e = .returned (.int .i64 6) ∧ Below w.heap.size w w' := by
  have HB := Lib.hid ((Below.refl w.heap.size w).alloc (Nat.le_refl _) (.cells #[.int .i64 o.r, .int .u32 (o.ad : Int), .int .i64 o.ln, .int .i64 o.id, .int .i64 o.till] 62))
  unfold Ov.v
  go_enter Try.func32, Try.ntmps32
  go_wp2_with fail
  refine (tmade_nil _).mono ?_
  rintro e W1 ⟨rfl, rfl⟩
  go_wp2_with fail
  go_ret
  exact ⟨rfl, HB.out⟩
def OvS (q : Nat) (o : Ov) (w : World) : Prop := w.heap[q]? = some (.cells #[.int .i64 o.r, .int .u32 (o.ad : Int), .int .i64 o.ln, .int .i64 o.id, .int .i64 o.till] 62)
theorem OvS.cells {q : Nat} {o : Ov} {w : World} (h : OvS q o w) : w.cell? ⟨q, 0, none⟩ = some (.int .i64 o.r) ∧ w.cell? ⟨q, 1, none⟩ = some (.int .u32 (o.ad : Int)) ∧ w.cell? ⟨q, 2, none⟩ = some (.int .i64 o.ln) ∧ w.cell? ⟨q, 3, none⟩ = some (.int .i64 o.id) ∧ w.cell? ⟨q, 4, none⟩ = some (.int .i64 o.till) := ⟨cell_of h rfl, cell_of h rfl, cell_of h rfl, cell_of h rfl, cell_of h rfl⟩
theorem OvS.on {q : Nat} {o : Ov} {w w' : World} (h : OvS q o w) (hb : w'.heap[q]? = w.heap[q]?) : OvS q o w' := hb.trans h
set_option maxRecDepth 100000 in
set_option maxHeartbeats 2000000 in
theorem tset_any {w : World} {t bm : Nat} {L : List Ov} (H : TabAt w t bm L) {o : Ov} (ha : o.ad < 4294967296) (hk : PN.ok o.key) : Calls Try.prog 32 #[.pointer (some ⟨t, 0, none⟩), o.v] w fun e w' => e = .returned (.int .i64 (setE L o)) ∧ TSet w w' t bm L o := by
  have hal := (Below.refl w.heap.size w).alloc (Nat.le_refl _) (.cells #[.int .i64 o.r, .int .u32 (o.ad : Int), .int .i64 o.ln, .int .i64 o.id, .int .i64 o.till] 62)
  have hos : OvS w.heap.size o (w.alloc (.cells #[.int .i64 o.r, .int .u32 (o.ad : Int), .int .i64 o.ln, .int .i64 o.id, .int .i64 o.till] 62)) := hnew _ _
  have HM := Lib.hid (tmade_any (H.keep hal))
  have F0 := Lib.hid (And.intro hal (And.intro (H.keep hal) hos))
  have HK := Lib.hid hk
  have hck := fun w => check_any o.ad o.ln ha w
  have HLT := Lib.hid H.lt
  obtain ⟨z0, z1, z2, z3, z4⟩ := hos.cells
  clear hal hos hk H
  unfold Ov.v
  cases hok : okP o.ad o.ln with
  | false =>
    have hE : setE L o = 20 := by unfold setE; rw [hok]; rfl
    rw [hE]
    have HCK := Lib.hid (show ∀ w, Calls Try.prog 68 #[pfx o.ad o.ln] w fun e w' => e = .returned (.int .i64 20) ∧ Below w.heap.size w w' from fun w => by have := hck w; rw [hok] at this; exact this)
    clear hck
    go_enter Try.func32, Try.ntmps32
    go_wp2_with fail
    refine HM.out.mono ?_
    rintro e W1 ⟨rfl, hw⟩
    subst hw
    go_wp2_with fail
    refine (HCK.out _).mono ?_
    rintro e W2 ⟨rfl, hb⟩
    have F1 := Lib.hid (And.intro (bcall F0.out.1 (Nat.le_refl _) hb) (F0.out.2.1.keep hb))
    clear hb F0
    go_wp2_with fail
    go_ret
    exact ⟨rfl, by rw [hE]; exact F1.out.2, But.of_below F1.out.1 _⟩
  | true =>
    have HCK := Lib.hid (show ∀ w, Calls Try.prog 68 #[pfx o.ad o.ln] w fun e w' => e = .returned (.int .i64 0) ∧ Below w.heap.size w w' from fun w => by have := hck w; rw [hok] at this; exact this)
    clear hck
    obtain ⟨hs, hhs⟩ : ∃ hs, hasO L o.key = hs := ⟨_, rfl⟩
    have HHS := Lib.hid hhs
    have HOK := Lib.hid hok
    clear hok hhs
    go_enter Try.func32, Try.ntmps32
    go_wp2_with fail
    refine HM.out.mono ?_
    rintro e W1 ⟨rfl, hw⟩
    subst hw
    go_wp2_with fail
    refine (HCK.out _).mono ?_
    rintro e W2 ⟨rfl, hb⟩
    have F1 := Lib.hid (And.intro (bcall F0.out.1 (Nat.le_refl _) hb) (And.intro (F0.out.2.1.keep hb) (F0.out.2.2.on (hb.block _ (lt_of_blk F0.out.2.2)))))
    clear hb F0 HM HCK z0 z1 z2 z3 z4
    go_wp2_with fail
    have hd := (Below.refl W2.heap.size W2).drew
    have F2 := Lib.hid (And.intro (bcall F1.out.1 (Nat.le_refl _) hd) (And.intro (F1.out.2.1.keep hd) (F1.out.2.2.on (hd.block _ (lt_of_blk F1.out.2.2)))))
    clear hd F1
    refine wp_region_heldP (SameAt [t, bm, w.heap.size] W2.drew) (by kernel_rfl) ?_
    generalize W2.drew = W3 at *
    obtain ⟨q, hq⟩ : ∃ q, w.heap.size = q := ⟨_, rfl⟩
    have HQ := Lib.hid hq
    have F3 := Lib.hid (show Below w.heap.size w W3 ∧ TabAt W3 t bm L ∧ OvS q o W3 from hq ▸ F2.out)
    rw [hq]
    clear hq F2
    have hc := show ∀ w', SameAt [t, bm, q] W3 w' → w'.cell? ⟨t, 0, none⟩ = some (.map (some bm)) ∧ w'.cell? ⟨q, 0, none⟩ = some (.int .i64 o.r) ∧ w'.cell? ⟨q, 1, none⟩ = some (.int .u32 (o.ad : Int)) ∧ w'.cell? ⟨q, 2, none⟩ = some (.int .i64 o.ln) ∧ w'.cell? ⟨q, 3, none⟩ = some (.int .i64 o.id) ∧ w'.cell? ⟨q, 4, none⟩ = some (.int .i64 o.till) ∧ (Instr.lookup 113 (.map (some bm)) (.agg #[.int .u32 (o.ad : Int), .int .i64 o.ln]) true).run Try.prog w' = .ok (.tuple #[(getO L o.key).v, .bool hs]) w' from fun w' hw' => by
      have hk1 := F3.out.2.1.lookup HK.out w' (hw' bm (by simp))
      rw [HHS.out] at hk1
      obtain ⟨g0, g1, g2, g3, g4⟩ := (F3.out.2.2.on (hw' q (by simp))).cells
      exact ⟨(cell_same (hw' t (by simp))).trans F3.out.2.1.c0, g0, g1, g2, g3, g4, hk1⟩
    have HC := Lib.hid hc
    have hsz : t < W3.heap.size ∧ bm < W3.heap.size ∧ q < W3.heap.size := ⟨F3.out.2.1.lt.1, F3.out.2.1.lt.2.1, lt_of_blk F3.out.2.2⟩
    have HSZ := Lib.hid hsz
    have HS0 := Lib.hid (SameAt.refl [t, bm, q] W3)
    clear hc hsz
    generalize getO L o.key = g0 at *
    unfold Ov.v at HC
    refine held_reads [0, 1, 2, 3, 4, 5, 6, 7, 8, 9, 10] (g := 3) rfl (by kernel_rfl) HS0.out (fun _ _ d _ _ h => by cases d <;> exact h) ?_
    simp only [pick, List.getD_cons_zero, List.getD_cons_succ]
    ((with_reducible refine wpRead_step (fun K hK => ?_)); go_simp; first | ((with_reducible refine hK _ ?_); clear hK K) | (apply Exists.intro; (with_reducible refine ⟨fun w' hw' => ?_, hK _ ?_⟩); (first | exact rfl | exact ⟨rfl, rfl⟩); clear hK K))
    ((with_reducible refine wpRead_step (fun K hK => ?_)); go_simp; first | ((with_reducible refine hK _ ?_); clear hK K) | (apply Exists.intro; (with_reducible refine ⟨fun w' hw' => ?_, hK _ ?_⟩); (first | exact rfl | exact ⟨rfl, rfl⟩); clear hK K))
    ((with_reducible refine wpRead_step (fun K hK => ?_)); go_simp; first | ((with_reducible refine hK _ ?_); clear hK K) | (apply Exists.intro; (with_reducible refine ⟨fun w' hw' => ?_, hK _ ?_⟩); (first | exact rfl | exact ⟨rfl, rfl⟩); clear hK K))
    ((with_reducible refine wpRead_step (fun K hK => ?_)); go_simp; first | ((with_reducible refine hK _ ?_); clear hK K) | (apply Exists.intro; (with_reducible refine ⟨fun w' hw' => ?_, hK _ ?_⟩); (obtain ⟨f0, f1, f2, f3, f4, f5, l0⟩ := HC.out w' hw'; go_simp; first | exact rfl | exact ⟨rfl, rfl⟩); clear hK K))
    ((with_reducible refine wpRead_step (fun K hK => ?_)); go_simp; first | ((with_reducible refine hK _ ?_); clear hK K) | (apply Exists.intro; (with_reducible refine ⟨fun w' hw' => ?_, hK _ ?_⟩); (first | exact rfl | exact ⟨rfl, rfl⟩); clear hK K))
    ((with_reducible refine wpRead_step (fun K hK => ?_)); go_simp; first | ((with_reducible refine hK _ ?_); clear hK K) | (apply Exists.intro; (with_reducible refine ⟨fun w' hw' => ?_, hK _ ?_⟩); (first | exact rfl | exact ⟨rfl, rfl⟩); clear hK K))
    ((with_reducible refine wpRead_step (fun K hK => ?_)); go_simp; first | ((with_reducible refine hK _ ?_); clear hK K) | (apply Exists.intro; (with_reducible refine ⟨fun w' hw' => ?_, hK _ ?_⟩); (obtain ⟨f0, f1, f2, f3, f4, f5, l0⟩ := HC.out w' hw'; go_simp; first | exact rfl | exact ⟨rfl, rfl⟩); clear hK K))
    ((with_reducible refine wpRead_step (fun K hK => ?_)); go_simp; first | ((with_reducible refine hK _ ?_); clear hK K) | (apply Exists.intro; (with_reducible refine ⟨fun w' hw' => ?_, hK _ ?_⟩); (obtain ⟨f0, f1, f2, f3, f4, f5, l0⟩ := HC.out w' hw'; go_simp; first | exact rfl | exact ⟨rfl, rfl⟩); clear hK K))
    ((with_reducible refine wpRead_step (fun K hK => ?_)); go_simp; first | ((with_reducible refine hK _ ?_); clear hK K) | (apply Exists.intro; (with_reducible refine ⟨fun w' hw' => ?_, hK _ ?_⟩); (first | exact rfl | exact ⟨rfl, rfl⟩); clear hK K))
    ((with_reducible refine wpRead_step (fun K hK => ?_)); go_simp; first | ((with_reducible refine hK _ ?_); clear hK K) | (apply Exists.intro; (with_reducible refine ⟨fun w' hw' => ?_, hK _ ?_⟩); (first | exact rfl | exact ⟨rfl, rfl⟩); clear hK K))
    ((with_reducible refine wpRead_step (fun K hK => ?_)); go_simp; first | ((with_reducible refine hK _ ?_); clear hK K) | (apply Exists.intro; (with_reducible refine ⟨fun w' hw' => ?_, hK _ ?_⟩); (first | exact rfl | exact ⟨rfl, rfl⟩); clear hK K))
    with_reducible refine wpRead_nil ?_
    have hal := (Below.refl W3.heap.size W3).alloc (Nat.le_refl _) (.cells #[.int .i64 g0.r, .int .u32 (g0.ad : Int), .int .i64 g0.ln, .int .i64 g0.id, .int .i64 g0.till] 62)
    have F4 := Lib.hid (And.intro (bcall F3.out.1 (Nat.le_refl _) hal) (And.intro (F3.out.2.1.keep hal) (And.intro (F3.out.2.2.on (hal.block _ HSZ.out.2.2)) (show SameAt [t, bm, q] W3 (W3.alloc (.cells #[.int .i64 g0.r, .int .u32 (g0.ad : Int), .int .i64 g0.ln, .int .i64 g0.id, .int .i64 g0.till] 62)) from (SameAt.refl _ _).on hal (by simp; exact HSZ.out)))))
    have halz := (Below.refl W3.heap.size W3).alloc (Nat.le_refl _) (.cells #[.int .i64 0, .int .u32 0, .int .i64 0, .int .i64 0, .int .i64 0] 62)
    have HZ := Lib.hid (show SameAt [t, bm, q] W3 (W3.alloc (.cells #[.int .i64 0, .int .u32 0, .int .i64 0, .int .i64 0, .int .i64 0] 62)) from (SameAt.refl _ _).on halz (by simp; exact HSZ.out))
    clear hal halz F3
    refine held_one 11 (by kernel_rfl) ?_
    simp only [pick, List.getD_cons_zero, List.getD_cons_succ]
    go_wp2_with fail
    refine ⟨HZ.out, ?_⟩
    refine held_one 12 (by kernel_rfl) ?_
    simp only [pick, List.getD_cons_zero, List.getD_cons_succ]
    go_wp2_with fail
    generalize W3.alloc (.cells #[.int .i64 g0.r, .int .u32 (g0.ad : Int), .int .i64 g0.ln, .int .i64 g0.id, .int .i64 g0.till] 62) = W4 at *
    refine ⟨F4.out.2.2.2, ?_⟩
    refine held_one 13 (by kernel_rfl) ?_
    simp only [pick, List.getD_cons_zero, List.getD_cons_succ]
    go_wp2_with fail
    refine ⟨F4.out.2.2.2, ?_⟩
    refine wpAnyH_done (by kernel_rfl) ?_ _
    have HL := Lib.hid (F4.out.2.1.len W4 rfl)
    have c0 := F4.out.2.1.c0
    obtain ⟨z0, z1, z2, z3, z4⟩ := F4.out.2.2.1.cells
    have hln := fun ty => F4.out.2.1.len W4 rfl ty
    obtain ⟨nl, hnl⟩ : ∃ nl, L.length = nl := ⟨_, rfl⟩
    have HNL := Lib.hid hnl
    rw [hnl] at hln
    clear hnl HL
    cases hs with
    | true =>
      have hE : setE L o = 0 := by unfold setE; rw [HOK.out, HHS.out]; rfl
      have HE := Lib.hid hE; clear hE
      obtain ⟨O, hup, htab⟩ := (F4.out.2.1.on (w' := W4.drew) rfl rfl).update HK.out
      have F5 := Lib.hid (And.intro F4.out.1.drew (And.intro htab hup))
      have hds := (But.of_below F4.out.1 [bm]).drew.setBlock (b := bm) (.inr (by simp)) O
      have F6 := Lib.hid hds
      clear hds htab
      go_wp2_with fail
      refine wp_region_pieces (by kernel_rfl) ?_
      refine wpAny_seg (fun w' => w' = W4.drew) [0, 1, 2, 3, 4, 5, 6, 7] (g := 1) rfl (by kernel_rfl) rfl ?_
      simp only [pick, List.getD_cons_zero, List.getD_cons_succ]
      iterate 8 ((with_reducible refine wpQuiet_step (fun K hK => ?_)); go_simp; first | ((with_reducible refine hK _ ?_); clear hK K) | (apply Exists.intro; (with_reducible refine ⟨fun w' hw' => ?_, hK _ ?_⟩); (subst hw'; go_simp; first | exact rfl | exact ⟨rfl, rfl⟩); clear hK K))
      refine wpQuiet_nil ?_
      rintro _ rfl
      refine wpAny_one 8 (by kernel_rfl) ?_
      simp only [pick, List.getD_cons_zero, List.getD_cons_succ]
      go_wp2_with fail
      refine wpAny_done (by kernel_rfl) ?_ _
      go_wp2_with fail
      go_ret
      exact ⟨ret_int HE.out.symm, by rw [HE.out, if_pos rfl]; exact F5.out.2.1, F6.out⟩
    | false =>
      by_cases h4 : 4096 ≤ nl
      · have hE : setE L o = 2 := by unfold setE; rw [HOK.out, HHS.out, HNL.out]; simp [h4]
        have HE := Lib.hid hE; clear hE
        have h4t : ((4096 : Int) ≤ (nl : Int)) = True := by simp; omega
        clear h4
        go_wp2_with fail
        go_ret
        exact ⟨ret_int HE.out.symm, by rw [HE.out]; exact F4.out.2.1, But.of_below F4.out.1 _⟩
      · have hE : setE L o = 0 := by unfold setE; rw [HOK.out, HHS.out, HNL.out]; simp [h4]
        have HE := Lib.hid hE; clear hE
        have h4t : ((4096 : Int) ≤ (nl : Int)) = False := by simp; omega
        clear h4
        obtain ⟨O, hup, htab⟩ := (F4.out.2.1.on (w' := W4.drew) rfl rfl).update HK.out
        have F5 := Lib.hid (And.intro F4.out.1.drew (And.intro htab hup))
        have hds := (But.of_below F4.out.1 [bm]).drew.setBlock (b := bm) (.inr (by simp)) O
        have F6 := Lib.hid hds
        clear hds htab
        go_wp2_with fail
        refine wp_region_pieces (by kernel_rfl) ?_
        refine wpAny_seg (fun w' => w' = W4.drew) [0, 1, 2, 3, 4, 5, 6, 7] (g := 1) rfl (by kernel_rfl) rfl ?_
        simp only [pick, List.getD_cons_zero, List.getD_cons_succ]
        iterate 8 ((with_reducible refine wpQuiet_step (fun K hK => ?_)); go_simp; first | ((with_reducible refine hK _ ?_); clear hK K) | (apply Exists.intro; (with_reducible refine ⟨fun w' hw' => ?_, hK _ ?_⟩); (subst hw'; go_simp; first | exact rfl | exact ⟨rfl, rfl⟩); clear hK K))
        refine wpQuiet_nil ?_
        rintro _ rfl
        refine wpAny_one 8 (by kernel_rfl) ?_
        simp only [pick, List.getD_cons_zero, List.getD_cons_succ]
        go_wp2_with fail
        refine wpAny_done (by kernel_rfl) ?_ _
        go_wp2_with fail
        go_ret
        exact ⟨ret_int HE.out.symm, by rw [HE.out, if_pos rfl]; exact F5.out.2.1, F6.out⟩
end Go.Proofs.Ytfmehahjjgalfaa
