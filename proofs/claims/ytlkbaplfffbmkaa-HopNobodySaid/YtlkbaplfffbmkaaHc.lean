/- Maps by numbers, and by nets; hop.Check of good ones. -/
import Derived.Test.YtlkbaplfffbmkaaHb
import Derived.Test.YtlkbaplfffbmkaaMap
import Derived.DeepKeys4
namespace Go.Proofs.Ytlkbaplfffbmkaa
open Go.RowKit
open Go.ChangeMaps (setBlock)

theorem laidOut : laidOutB Try.prog = true := by kernel_rfl
theorem row133 : (87 : TypeId) < Try.prog.types.size := of_decide_eq_true (by kernel_rfl)
theorem wide133 : (match Try.prog.underlying 87 with | some (.array _ _) | some (.struct _) => true | _ => false) = true := by kernel_rfl
set_option maxRecDepth 100000 in
theorem law133 : WideMaps.KeyLaw Try.prog 87 := deep_law_laid laidOut (m := 3) (by omega) row133 (by kernel_rfl) wide133
theorem key133 : Try.prog.keyType 87 = true := by kernel_rfl
theorem key3 : Try.prog.keyType 3 = true := by kernel_rfl
theorem sizeT : Try.prog.types.size + 1 = 166 + 1 + 1 + 1 := by kernel_rfl
structure NK where
  r : Int
  a : Int
  l : Int
  deriving DecidableEq
def NK.val (k : NK) : Value := .agg #[.int .i64 k.r, .int .u32 k.a, .int .i64 k.l]
def NK.wf (k : NK) : Prop := (Lit.int .i64 k.r).wf = true ∧ (Lit.int .u32 k.a).wf = true ∧ (Lit.int .i64 k.l).wf = true
theorem cells133 : Try.prog.cellsOf 87 = 3 := by kernel_rfl
theorem cells37 : Try.prog.cellsOf 32 = 2 := by kernel_rfl
theorem cells3 : Try.prog.cellsOf 3 = 1 := by kernel_rfl
theorem cells22 : Try.prog.cellsOf 23 = 1 := by kernel_rfl
theorem lits3 (d : Nat) (n : Int) (h : (Lit.int .i64 n).wf = true) : Try.prog.keyLits (d + 1) 3 [.int .i64 n] = some [.int .i64 n] := by
  simp [Program.keyLits, Try.underlying3, h]
theorem NK.reads (k : NK) (h : k.wf) : ∃ l, keyOf Try.prog 87 k.val = some l := by
  obtain ⟨h1, h2, h3⟩ := h
  have hf : (NK.val k).formed Try.prog 87 = true := by simp [Value.formed, Try.underlying87, NK.val, cells133]
  have i2 : ∀ d n, (Lit.int .u32 n).wf = true → Try.prog.keyLits (d + 1) 23 [.int .u32 n] = some [.int .u32 n] := by
    intro d n h; simp [Program.keyLits, Try.underlying23, h]
  have i3 : ∀ d, Try.prog.keyLits (d + 1 + 1) 32 [.int .u32 k.a, .int .i64 k.l] = some [.int .u32 k.a, .int .i64 k.l] := by
    intro d; unfold Program.keyLits; simp [Try.underlying32, cells37, cells3, cells22, lits3 d _ h3, i2 d _ h2]
  have i4 : ∀ d, Try.prog.keyLits (d + 1 + 1 + 1) 87 [.int .i64 k.r, .int .u32 k.a, .int .i64 k.l] = some [.int .i64 k.r, .int .u32 k.a, .int .i64 k.l] := by
    intro d; unfold Program.keyLits; simp [Try.underlying87, cells133, cells37, cells3, lits3 (d + 1) _ h1, i3 d]
  unfold keyOf
  simp only [Try.underlying87]
  rw [key133, hf, sizeT]
  have := i4 166
  simp only [NK.val, Value.cells, this]
  exact ⟨_, rfl⟩
def NN : MR.Enc Try.prog 87 NK where
  enc := NK.val
  ok := NK.wf
  law := Maps.Keyed.of_law law133
  reads := NK.reads
  inj a b h := by
    cases a; cases b
    simp [NK.val] at h
    simp [h]
def IN : MR.Enc Try.prog 3 Int where
  enc := .int .i64
  ok n := (Lit.int .i64 n).wf = true
  law := Maps.int_keyed Try.underlying3
  reads n h := by
    unfold keyOf
    simp only [Try.underlying3]
    exact ⟨.int .i64 n, by simp [mapKey, Try.underlying3, h]⟩
  inj a b h := by simpa using h
theorem below_setBlock {B b : Nat} {w W : World} {o : Obj} (h : Below B w W) (hb : B ≤ b) : Below B w (setBlock W b o) :=
  ⟨h.os, h.tape, h.output, by show w.heap.size ≤ (W.heap.setIfInBounds b o).size; rw [Array.size_setIfInBounds]; exact h.size, fun i hi => by
    show (W.heap.setIfInBounds b o)[i]? = _
    rw [Array.getElem?_setIfInBounds, if_neg (by omega)]
    exact h.block i hi⟩
theorem setBlock_other {b i : Nat} {W : World} {o : Obj} (h : i ≠ b) : (setBlock W b o).heap[i]? = W.heap[i]? := by
  show (W.heap.setIfInBounds b o)[i]? = _
  rw [Array.getElem?_setIfInBounds, if_neg (Ne.symm h)]
theorem wfI {n : Int} (h : -9223372036854775808 ≤ n ∧ n ≤ 9223372036854775807) : (Lit.int .i64 n).wf = true := by
  simp only [Lit.wf, IntKind.min, IntKind.max, IntKind.signed, IntKind.bits, Bool.and_eq_true, decide_eq_true_eq]
  simpa using h
theorem wfU {n : Int} (h : 0 ≤ n ∧ n ≤ 4294967295) : (Lit.int .u32 n).wf = true := by
  simp only [Lit.wf, IntKind.min, IntKind.max, IntKind.signed, IntKind.bits, Bool.and_eq_true]
  simpa using h
def If.net (x : If) : NK := ⟨x.r, x.ad, x.ln⟩
theorem put_new {κ : Type} [DecidableEq κ] {l : List (MR.Ent κ)} {x : κ} (v : Value) (c : Nat) (h : x ∉ l.map (·.1)) : MR.put l x v c = l ++ [(x, v, c)] := by unfold MR.put; rw [if_neg h]
theorem put_keys {κ : Type} [DecidableEq κ] {l : List (MR.Ent κ)} {x : κ} (v : Value) (c : Nat) (h : x ∉ l.map (·.1)) : (MR.put l x v c).map (·.1) = l.map (·.1) ++ [x] := by rw [put_new v c h]; simp
theorem Good.id_new {l : List If} (h : Good l) {i : Nat} (hi : i < l.length) : (l.getD i default).id ∉ (l.take i).map If.id := by
  intro hm
  obtain ⟨y, hy, e⟩ := List.mem_map.1 hm
  obtain ⟨k, hk, rfl⟩ := List.mem_iff_getElem.1 hy
  rw [List.length_take] at hk
  have := h.ids k i (by omega) hi
  rw [List.getElem_take] at e
  rw [← e, List.getD_eq_getElem?_getD, List.getElem?_eq_getElem (by omega)] at this
  exact this rfl
theorem Good.net_new {l : List If} (h : Good l) {i : Nat} (hi : i < l.length) : (l.getD i default).net ∉ (l.take i).map If.net := by
  intro hm
  obtain ⟨y, hy, e⟩ := List.mem_map.1 hm
  obtain ⟨k, hk, rfl⟩ := List.mem_iff_getElem.1 hy
  rw [List.length_take] at hk
  have := h.nets k i (by omega) hi
  rw [List.getElem_take] at e
  simp only [If.net, NK.mk.injEq] at e
  have e2 : l.getD k default = l[k] := by rw [List.getD_eq_getElem?_getD, List.getElem?_eq_getElem (by omega)]; rfl
  rw [e2] at this
  exact this e.1 (by omega) e.2.2
theorem take_map_succ {α β : Type} [Inhabited α] (f : α → β) (l : List α) {i : Nat} (h : i < l.length) : (l.take (i + 1)).map f = (l.take i).map f ++ [f (l.getD i default)] := by
  rw [List.take_succ_eq_append_getElem h, List.map_append]
  simp [List.getD_eq_getElem?_getD, h]
theorem okI_bd {x : If} (h : okI x = true) : IN.ok x.id ∧ (x.ad < 4294967296 → NN.ok x.net) := by
  obtain ⟨h1, h2, h3, h4, h5, h6, h7⟩ := okI_iff.1 h
  obtain ⟨h8, h9, -⟩ := okP_iff.1 h5
  exact ⟨wfI (by omega), fun ha => ⟨wfI (by show -9223372036854775808 ≤ x.r ∧ x.r ≤ 9223372036854775807; omega), wfU (by show 0 ≤ (x.ad : Int) ∧ (x.ad : Int) ≤ 4294967295; omega), wfI (by show -9223372036854775808 ≤ x.ln ∧ x.ln ≤ 9223372036854775807; omega)⟩⟩

end Go.Proofs.Ytlkbaplfffbmkaa
