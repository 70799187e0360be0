/- Timers: New, Len, At, Set, Stop. -/
import Derived.Test.YtfmehahjjgalfaaDf
namespace Go.Proofs.Ytfmehahjjgalfaa.Tim
open Go.RowKit
open Go.ChangeMaps (setBlock)

abbrev TK := Int × Int
structure Tm where
  k : TK
  at' : Int
deriving Inhabited, DecidableEq
def Tm.v (x : Tm) : Value := .int .i64 x.at'
theorem rowK : (31 : TypeId) < Try.prog.types.size := of_decide_eq_true (by kernel_rfl)
theorem wideK : (match Try.prog.underlying 31 with | some (.array _ _) | some (.struct _) => true | _ => false) = true := by kernel_rfl
set_option maxRecDepth 100000 in
theorem lawK : WideMaps.KeyLaw Try.prog 31 := deep_law_laid laidOut (m := 2) (by omega) rowK (by kernel_rfl) wideK
theorem keyK : Try.prog.keyType 31 = true := by kernel_rfl
theorem cellsK : Try.prog.cellsOf 31 = 2 := by kernel_rfl
def TK.val (k : TK) : Value := .agg #[.int .i64 k.1, .int .i64 k.2]
def TK.wf (k : TK) : Prop := (Lit.int .i64 k.1).wf = true ∧ (Lit.int .i64 k.2).wf = true
theorem TK.reads (k : TK) (h : TK.wf k) : ∃ l, keyOf Try.prog 31 (TK.val k) = some l := by
  obtain ⟨h2, h3⟩ := h
  have hf : (TK.val k).formed Try.prog 31 = true := by simp [Value.formed, Try.underlying31, TK.val, cellsK]
  have i1 : ∀ d n, (Lit.int .i64 n).wf = true → Try.prog.keyLits (d + 1) 3 [.int .i64 n] = some [.int .i64 n] := by
    intro d n h; simp [Program.keyLits, Try.underlying3, h]
  have i3 : ∀ d, Try.prog.keyLits (d + 1 + 1) 31 [.int .i64 k.1, .int .i64 k.2] = some [.int .i64 k.1, .int .i64 k.2] := by
    intro d; unfold Program.keyLits; simp [Try.underlying31, cellsK, cells3, i1 d _ h3, i1 d _ h2]
  unfold keyOf
  simp only [Try.underlying31]
  rw [keyK, hf, sizeT]
  have := i3 (204 + 1)
  simp only [TK.val, Value.cells, this]
  exact ⟨_, rfl⟩
def TN : MR.Enc Try.prog 31 TK where
  enc := TK.val
  ok := TK.wf
  law := Maps.Keyed.of_law lawK
  reads := TK.reads
  inj a b h := by
    obtain ⟨a1, a2⟩ := a
    obtain ⟨b1, b2⟩ := b
    simp [TK.val] at h
    exact Prod.ext h.1 h.2
/-- timers in memory -/
structure TimAt (w : World) (t bm : Nat) (L : List Tm) : Prop where
  out : ∃ clk es, w.heap[t]? = some (.cells #[.map (some bm)] 106) ∧ MR.MapAt TN w bm es clk ∧ Kl.Lay Tm.k Tm.v es L
theorem TimAt.on {w w' : World} {t bm : Nat} {L : List Tm} (H : TimAt w t bm L) (h1 : w'.heap[t]? = w.heap[t]?) (h2 : w'.heap[bm]? = w.heap[bm]?) : TimAt w' t bm L := by
  obtain ⟨clk, es, k1, k2, k3⟩ := H.out
  exact ⟨clk, es, h1.trans k1, k2.blk_iff TN h2, k3⟩
theorem TimAt.lt {w : World} {t bm : Nat} {L : List Tm} (H : TimAt w t bm L) : t < w.heap.size ∧ bm < w.heap.size ∧ t ≠ bm := by
  obtain ⟨clk, es, k1, k2, k3⟩ := H.out
  exact ⟨lt_of_blk k1, lt_of_blk k2.blk, fun e => by subst e; rw [k2.blk] at k1; cases k1⟩
theorem TimAt.keep {w w' : World} {t bm : Nat} {L : List Tm} (H : TimAt w t bm L) (hb : Below w.heap.size w w') : TimAt w' t bm L := H.on (hb.block _ H.lt.1) (hb.block _ H.lt.2.1)
theorem TimAt.c0 {w : World} {t bm : Nat} {L : List Tm} (H : TimAt w t bm L) : w.cell? ⟨t, 0, none⟩ = some (.map (some bm)) := by
  obtain ⟨clk, es, k1, k2, k3⟩ := H.out
  exact cell_of k1 rfl
def look (L : List Tm) (k : TK) : Option Tm := Kl.look Tm.k L k
def atO (L : List Tm) (k : TK) : Int := match look L k with | some x => x.at' | none => 0
def hasT (L : List Tm) (k : TK) : Bool := (look L k).isSome
theorem zero3 (w : World) : (zeroValue 3).run Try.prog w = .ok (.int .i64 0) w := by kernel_rfl
theorem TimAt.lookup {w : World} {t bm : Nat} {L : List Tm} (H : TimAt w t bm L) {k : TK} (hk : TN.ok k) (W : World) (hW : W.heap[bm]? = w.heap[bm]?) :
    (Instr.lookup 104 (.map (some bm)) (.agg #[.int .i64 k.1, .int .i64 k.2]) true).run Try.prog W = .ok (.tuple #[.int .i64 (atO L k), .bool (hasT L k)]) W := by
  obtain ⟨clk, es, k1, k2, k3⟩ := H.out
  have h := MR.run_lookup TN (k2.blk_iff TN hW) hk Try.underlying104 zero3 true
  rw [k3.get, if_pos rfl] at h
  have e1 : ((Kl.look Tm.k L k).map Tm.v).getD (.int .i64 0) = .int .i64 (atO L k) := by unfold atO look; cases Kl.look Tm.k L k <;> rfl
  have e2 : ((Kl.look Tm.k L k).map Tm.v).isSome = hasT L k := by unfold hasT look; cases Kl.look Tm.k L k <;> rfl
  rw [e1, e2] at h
  exact h
/-- behind a one is set -/
def setT (L : List Tm) (x : Tm) : List Tm := (L.filter fun y => decide (y.k ≠ x.k)) ++ [x]
theorem set_keys {L : List Tm} (h : (L.map Tm.k).Nodup) (x : Tm) : ((setT L x).map Tm.k).Nodup := by
  unfold setT
  rw [List.map_append, List.nodup_append]
  refine ⟨Kl.nodup_filter h _, by simp, fun a ha b hb => ?_⟩
  simp at hb
  subst hb
  obtain ⟨y, hy, rfl⟩ := List.mem_map.1 ha
  simpa using (List.mem_filter.1 hy).2
theorem look_set {L : List Tm} (h : (L.map Tm.k).Nodup) (x : Tm) (k : TK) : Kl.look Tm.k (setT L x) k = if k = x.k then some x else Kl.look Tm.k L k := by
  have hn := set_keys h x
  split
  · rename_i e; exact (Kl.look_some hn).2 ⟨by unfold setT; simp, e.symm⟩
  · rename_i e
    cases hl : Kl.look Tm.k L k with
    | none =>
      refine Kl.look_no fun y hy => ?_
      unfold setT at hy
      rcases List.mem_append.1 hy with hy | hy
      · exact Kl.look_none hl (List.mem_filter.1 hy).1
      · simp at hy; subst hy; exact Ne.symm e
    | some y =>
      obtain ⟨h1, h2⟩ := Kl.look_mem hl
      refine (Kl.look_some hn).2 ⟨?_, h2⟩
      unfold setT
      exact List.mem_append.2 (.inl (List.mem_filter.2 ⟨h1, by simp; rw [h2]; exact e⟩))
theorem TimAt.nd {w : World} {t bm : Nat} {L : List Tm} (H : TimAt w t bm L) : (L.map Tm.k).Nodup := by
  obtain ⟨clk, es, k1, k2, k3⟩ := H.out
  exact k3.nd
theorem TimAt.update {w : World} {t bm : Nat} {L : List Tm} (H : TimAt w t bm L) {k : TK} (hk : TN.ok k) (n : Int) :
    ∃ O, (Instr.mapUpdate 104 (.map (some bm)) (.agg #[.int .i64 k.1, .int .i64 k.2]) (.int .i64 n)).run Try.prog w = .ok () (setBlock w bm O) ∧ TimAt (setBlock w bm O) t bm (setT L ⟨k, n⟩) := by
  have hne := H.lt.2.2
  obtain ⟨clk, es, k1, k2, k3⟩ := H.out
  have hu := MR.run_update TN k2 hk Try.underlying104 (Tm.v ⟨k, n⟩)
  exact ⟨_, hu.1, ⟨_, _, (setBlock_other hne).trans k1, hu.2, k3.put (x := ⟨k, n⟩) (set_keys k3.nd _) (look_set k3.nd ⟨k, n⟩) hu.2.nodup hu.2.bnodup⟩⟩
theorem TimAt.delete {w : World} {t bm : Nat} {L : List Tm} (H : TimAt w t bm L) {k : TK} (hk : TN.ok k) (K' ty : TypeId) :
    ∃ O, (Builtin.delete_ #[104, K'] ty #[.map (some bm), .agg #[.int .i64 k.1, .int .i64 k.2]]).run Try.prog w = .ok (.tuple #[]) (setBlock w bm O) ∧ TimAt (setBlock w bm O) t bm (L.filter fun x => decide (x.k ≠ k)) := by
  have hne := H.lt.2.2
  obtain ⟨clk, es, k1, k2, k3⟩ := H.out
  have hu := MR.run_delete TN k2 hk Try.underlying104 (K' := K') ty
  exact ⟨_, hu.1, ⟨_, _, (setBlock_other hne).trans k1, hu.2, k3.del k⟩⟩
theorem TimAt.len {w : World} {t bm : Nat} {L : List Tm} (H : TimAt w t bm L) (W : World) (hW : W.heap[bm]? = w.heap[bm]?) (ty : TypeId) : (Builtin.len_ #[104] ty #[.map (some bm)]).run Try.prog W = .ok (.int .i64 L.length) W := by
  obtain ⟨clk, es, k1, k2, k3⟩ := H.out
  have := MR.run_len TN (k2.blk_iff TN hW) Try.underlying104 ty
  rw [k3.len] at this
  exact this
set_option maxRecDepth 100000 in
theorem new_any (w : World) : Calls Try.prog 16 #[] w fun e w' => ∃ t bm, e = .returned (.pointer (some ⟨t, 0, none⟩)) ∧ TimAt w' t bm [] ∧ Below w.heap.size w w' ∧ w.heap.size ≤ t ∧ w.heap.size ≤ bm := by
  have hmm := @run_makeMap Try.prog
  go_enter Try.func16, Try.ntmps16
  go_wp2_with fail
  go_ret
  exact ⟨w.heap.size + 1, w.heap.size, rfl, ⟨0, [], hnewAt (by simp), MR.mapAt_made TN (hold (hnew _ _)), Kl.Lay.nil⟩, ((Below.refl _ _).alloc (Nat.le_refl _) _).alloc (by simp) _, by omega, Nat.le_refl _⟩
set_option maxRecDepth 100000 in
theorem len_nil (w : World) : Calls Try.prog 29 #[.pointer none] w fun e w' => e = .returned (.int .i64 0) ∧ w' = w := by
  go_enter Try.func29, Try.ntmps29
  go_wp2_with fail
  go_ret
  exact ⟨rfl, rfl⟩
set_option maxRecDepth 100000 in
theorem len_any {w : World} {t bm : Nat} {L : List Tm} (H : TimAt w t bm L) : Calls Try.prog 29 #[.pointer (some ⟨t, 0, none⟩)] w fun e w' => e = .returned (.int .i64 (L.length : Nat)) ∧ w' = w := by
  have c0 := H.c0
  have hl := H.len w rfl
  clear H
  generalize L.length = n at *
  go_enter Try.func29, Try.ntmps29
  go_wp2_with fail
  go_ret
  exact ⟨rfl, rfl⟩
end Go.Proofs.Ytfmehahjjgalfaa.Tim
