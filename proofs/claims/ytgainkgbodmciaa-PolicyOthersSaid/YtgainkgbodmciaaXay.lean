/- What an argument that reads as data is in memory: ints, bools, strings, slices; structs by 'Reads.struct'. -/
import Derived.Test.YtgainkgbodmciaaXaa
import Derived.ProofKit
import Derived.OpenShut
import Derived.Carry
import Derived.Deep.Slices
import Derived.Deep.Fields
import Derived.ChangeSame
import Derived.Test.YtgainkgbodmciaaXax
namespace Go.Proofs.Ytgainkgbodmciaa
open Go.ChangeShapes Go.WideShapes Go.ChangeAt Go.RowKit Go.Deep

/-- cells that read as data of type T are those of some a -/
structure Reads (P : Program) (T : TypeId) {α : Type} (cells : α → List Value) (ok : World → α → Prop) : Prop where
  read : ∀ {H : Type} {enc : TypeId × Value → H} {w : World} {spare : Nat → Bool} {held : Bool} {fuel : Nat} {cs : List Value} {x : DataW H × List MemPlace}, DataW.trod enc P w 0 spare held fuel T cs = some x → ∃ a, cs = cells a ∧ ok w a
theorem Reads.int {P : Program} {T : TypeId} {k : IntKind} (ht : P.underlying T = some (.int k)) : Reads P T (fun n : Int => [.int k n]) (fun _ n => (Lit.int k n).wf = true) :=
  ⟨fun h => by obtain ⟨n, e, _, hw⟩ := DataW.trod_int ht h; exact ⟨n, e, hw⟩⟩
theorem Reads.bool {P : Program} {T : TypeId} (ht : P.underlying T = some .bool) : Reads P T (fun b : Bool => [.bool b]) (fun _ _ => True) :=
  ⟨fun h => by obtain ⟨n, e, _⟩ := DataW.trod_bool ht h; exact ⟨n, e, trivial⟩⟩
theorem Reads.string {P : Program} {T : TypeId} (ht : P.underlying T = some .string) : Reads P T (fun s : ByteArray => [.string s]) (fun _ s => s.size ≤ maxLen) :=
  ⟨fun h => by obtain ⟨s, e, _, hw⟩ := DataW.trod_string ht h; exact ⟨s, e, hw⟩⟩
theorem wf64 {n : Int} (h : (Lit.int .i64 n).wf = true) : -9223372036854775808 ≤ n ∧ n ≤ 9223372036854775807 := by
  simp only [Lit.wf, IntKind.min, IntKind.max, IntKind.signed, IntKind.bits, Bool.and_eq_true, decide_eq_true_eq] at h
  simpa using h
theorem wfu32 {n : Int} (h : (Lit.int .u32 n).wf = true) : 0 ≤ n ∧ n ≤ 4294967295 := by
  simp only [Lit.wf, IntKind.min, IntKind.max, IntKind.signed, IntKind.bits, Bool.and_eq_true] at h
  simpa using h
theorem wfu8 {n : Int} (h : (Lit.int .u8 n).wf = true) : 0 ≤ n ∧ n ≤ 255 := by
  simp only [Lit.wf, IntKind.min, IntKind.max, IntKind.signed, IntKind.bits, Bool.and_eq_true] at h
  simpa using h

/-- a slice, and what it reads as -/
structure SlV (α : Type) where
  a : Option Addr
  n : Nat
  c : Nat
  l : List α
structure SlOk {α : Type} [Inhabited α] (R : Rep α) (ok : World → α → Prop) (w : World) (s : SlV α) : Prop where
  sl : R.Sl w s.a s.n s.c s.l
  nil : s.a = none → s.c = 0
  nc : s.n ≤ s.c
  cm : s.c ≤ maxLen
  all : ∀ x ∈ s.l, ok w x
theorem Reads.slice {P : Program} {t : TypeId} {α : Type} [Inhabited α] {R : Rep α} {ok : World → α → Prop} (ht : P.underlying t = some (.slice R.T)) (hk : P.cellsOf R.T = R.k) (h : Reads P R.T R.cells ok) :
    Reads P t (fun s : SlV α => [.slice s.a s.n s.c]) (SlOk R ok) :=
  ⟨fun {H enc w spare held fuel cs x} hx => by
    rcases open_slice ht hx with ⟨rfl, _⟩ | ⟨a, len, cap, m, n, D, Pl, rfl, _, hl, hm, hmm, _, hi⟩
    · exact ⟨⟨none, 0, 0, []⟩, rfl, ⟨⟨rfl, by show 0 ≤ maxLen; omega, fun h0 => absurd h0 (by show ¬ 0 < 0; omega)⟩, fun _ => rfl, Nat.le_refl _, by show 0 ≤ maxLen; omega, fun x hx => by cases hx⟩⟩
    · have hml : len ≤ m := by rw [hmm]; split <;> omega
      have hel : ∀ i, i < len → ∃ y : α, (∀ j, j < R.k → w.cell? (a.add (i * R.k + j)) = (R.cells y)[j]?) ∧ ok w y := by
        intro i hi'
        obtain ⟨cs', hc, ht'⟩ := hi i (by omega)
        rw [hk] at hc
        obtain ⟨y, rfl, hok⟩ := h.read ht'
        obtain ⟨_, _, hat⟩ := World.cells?_some hc
        exact ⟨y, fun j hj => by rw [← add_add]; exact hat j hj, hok⟩
      let f : Nat → α := fun i => if h0 : i < len then (hel i h0).choose else default
      have hf : ∀ i, i < len → (∀ j, j < R.k → w.cell? (a.add (i * R.k + j)) = (R.cells (f i))[j]?) ∧ ok w (f i) := fun i h0 => by
        have := (hel i h0).choose_spec
        simp only [f, h0, dif_pos]; exact this
      refine ⟨⟨some a, len, cap, (List.range len).map f⟩, rfl, ⟨⟨by simp, by show len ≤ maxLen; omega, fun h0 => ?_⟩, fun e => (by cases e), hl, hm, fun x hx => ?_⟩⟩
      · have hpos : 0 < len := h0
        have hk0 := R.pos
        have h00 := (hf 0 hpos).1 0 hk0
        have hsome : ∃ v, (R.cells (f 0))[0]? = some v := ⟨_, List.getElem?_eq_getElem (by rw [R.len]; exact hk0)⟩
        obtain ⟨v, hv⟩ := hsome
        rw [hv, Nat.zero_mul, Nat.add_zero] at h00
        have ha0 : a.add 0 = a := by unfold Addr.add; simp
        rw [ha0] at h00
        have hsp : a.spot = none := by
          unfold World.cell? at h00
          split at h00
          · split at h00
            · cases h00
            · rename_i hs; simpa using hs
          · cases h00
        obtain ⟨b, off, sp⟩ := a
        dsimp only at hsp
        subst hsp
        refine ⟨b, off, rfl, ⟨World.block_lt_of_cell? w _ h00, fun i hi' j hj => ?_⟩⟩
        have hi'' : i < len := by simpa using hi'
        have := (hf i hi'').1 j hj
        have hadd : (⟨b, off, none⟩ : Addr).add (i * R.k + j) = ⟨b, off + i * R.k + j, none⟩ := by
          unfold Addr.add
          split
          · rename_i h0; simp
          · simp [Nat.add_assoc]
        rw [hadd] at this
        rw [this]
        simp [List.getD_eq_getElem?_getD, hi'']
      · obtain ⟨i, hi', rfl⟩ := List.mem_map.1 hx
        exact (hf i (by simpa using hi')).2⟩
/-- the fields of a struct, each by what reads it -/
theorem Reads.fields {P : Program} {T : TypeId} {fs : Array Field} (ht : P.underlying T = some (.struct fs)) {H : Type} {enc : TypeId × Value → H} {w : World} {spare : Nat → Bool} {held : Bool} {fuel : Nat} {cs : List Value} {x : DataW H × List MemPlace}
    (h : DataW.trod enc P w 0 spare held fuel T cs = some x) : cs.length = P.cellsOf T ∧ ∀ (i : Nat) (f : Field), fs[i]? = some f → ∃ (n : Nat) (y : DataW H × List MemPlace), DataW.trod enc P w 0 spare held n f.type ((cs.drop f.offset).take (P.cellsOf f.type)) = some y := by
  obtain ⟨xs, n, _, _, hl, hlen, hx⟩ := DataW.trod_struct ht h
  refine ⟨hl, fun i f hf => ⟨n, ?_⟩⟩
  have hi : i < xs.length := by rw [hlen]; exact (Array.getElem?_eq_some_iff.1 hf).1
  exact ⟨xs[i], by rw [hx i f hf]; simp [hi]⟩
theorem Reads.conv {P : Program} {T : TypeId} {α β : Type} {cells : α → List Value} {ok : World → α → Prop} {cells' : β → List Value} {ok' : World → β → Prop} (h : Reads P T cells ok) (g : ∀ w a, ok w a → ∃ b, cells a = cells' b ∧ ok' w b) : Reads P T cells' ok' :=
  ⟨fun hx => by obtain ⟨a, rfl, hok⟩ := h.read hx; obtain ⟨b, e, hb⟩ := g _ a hok; exact ⟨b, e, hb⟩⟩
/-- an argument of one cell -/
theorem Reads.arg {P : Program} {T : TypeId} {α : Type} {cells : α → List Value} {ok : World → α → Prop} (h : Reads P T cells ok) {H : Type} {enc : TypeId × Value → H} {w : World} {spare : Nat → Bool} {held : Bool} {v : Value} {d : DataW H} {ps : List MemPlace}
    (hd : DataW.Trod enc P w 0 spare held T v d ps) : ∃ a, v.cells.toList = cells a ∧ ok w a := by
  obtain ⟨fuel, hf⟩ := hd
  exact h.read hf
end Go.Proofs.Ytgainkgbodmciaa
/- Arguments that come in. -/
namespace Go.Proofs.Ytgainkgbodmciaa
open Go.ChangeShapes Go.WideShapes Go.ChangeAt Go.RowKit

def I3 (n : Int) : Prop := -9223372036854775808 ≤ n ∧ n ≤ 9223372036854775807
theorem reads3 : Reads Try.prog 3 (fun n : Int => [.int .i64 n]) (fun _ n => I3 n) := (Reads.int Try.underlying3).conv fun _ n h => ⟨n, rfl, wf64 h⟩
theorem reads22 : Reads Try.prog 22 (fun n : Int => [.int .u32 n]) (fun _ n => 0 ≤ n ∧ n ≤ 4294967295) := (Reads.int Try.underlying22).conv fun _ n h => ⟨n, rfl, wfu32 h⟩
theorem reads22n : Reads Try.prog 22 (fun n : Nat => [.int .u32 (n : Int)]) (fun _ n => n < 4294967296) := reads22.conv fun _ n h => ⟨n.toNat, by rw [Int.toNat_of_nonneg h.1], by omega⟩
theorem reads4 : Reads Try.prog 4 (fun b : Bool => [.bool b]) (fun _ _ => True) := Reads.bool Try.underlying4
def RI : Rep Int := ⟨3, 1, by decide, fun n => [.int .i64 n], fun _ => rfl, fun _ => rfl⟩
theorem reads24 : Reads Try.prog 24 (fun s : SlV Int => [.slice s.a s.n s.c]) (SlOk RI fun _ n => I3 n) := Reads.slice (R := RI) Try.underlying24 (by kernel_rfl) reads3
theorem intsAt_of {w : World} {s : SlV Int} (h : SlOk RI (fun _ n => I3 n) w s) : IntsAt w w.heap.size s.a s.n s.l := by
  refine ⟨h.sl.len, h.sl.max, fun h0 => ?_⟩
  obtain ⟨b, o, e, hr⟩ := h.sl.row h0
  refine ⟨b, o, e, hr.lt, fun i hi => ?_⟩
  have := hr.get i (by rw [← h.sl.len]; exact hi) 0 (by decide)
  simp only [RI, Nat.mul_one, Nat.add_zero, List.getElem?_cons_zero] at this
  exact this
def segOk (w : World) (s : SegV) : Prop := IntsAt w w.heap.size s.sa s.sn s.ns ∧ ∀ n ∈ s.ns, I3 n
def R129 : Rep SegV := ⟨129, 2, by decide, fun s => [.bool s.set, .slice s.sa s.sn s.sc], fun _ => rfl, fun _ => rfl⟩
set_option maxRecDepth 100000 in
theorem reads129 : Reads Try.prog 129 (R129.cells) (segOk) :=
  ⟨fun {H enc w spare held fuel cs x} h => by
    obtain ⟨hl, hf⟩ := Reads.fields Try.underlying129 h
    rw [show Try.prog.cellsOf 129 = 2 by kernel_rfl] at hl
    obtain ⟨c0, c1, rfl⟩ : ∃ c0 c1, cs = [c0, c1] := by
      match cs, hl with
      | [c0, c1], _ => exact ⟨c0, c1, rfl⟩
    obtain ⟨n0, y0, h0⟩ := hf 0 _ rfl
    have h0 : DataW.trod enc Try.prog w 0 spare held n0 4 [c0] = some y0 := by
      have q : Try.prog.cellsOf 4 = 1 := by kernel_rfl
      have z : DataW.trod enc Try.prog w 0 spare held n0 4 (([c0, c1].drop 0).take (Try.prog.cellsOf 4)) = some y0 := h0
      rw [q] at z; exact z
    obtain ⟨a0, e0, k0⟩ := (reads4).read h0
    obtain ⟨n1, y1, h1⟩ := hf 1 _ rfl
    have h1 : DataW.trod enc Try.prog w 0 spare held n1 24 [c1] = some y1 := by
      have q : Try.prog.cellsOf 24 = 1 := by kernel_rfl
      have z : DataW.trod enc Try.prog w 0 spare held n1 24 (([c0, c1].drop 1).take (Try.prog.cellsOf 24)) = some y1 := h1
      rw [q] at z; exact z
    obtain ⟨a1, e1, k1⟩ := (reads24).read h1
    simp only [List.cons.injEq, and_true] at e0 e1
    subst e0
    subst e1
    exact ⟨⟨a0, a1.a, a1.n, a1.c, a1.l⟩, rfl, ⟨intsAt_of k1, k1.all⟩⟩⟩
theorem reads40s : Reads Try.prog 40 (fun s : SlV SegV => [.slice s.a s.n s.c]) (SlOk R129 segOk) := Reads.slice (R := R129) Try.underlying40 (by kernel_rfl) reads129
theorem pathAt_of {w : World} {s : SlV SegV} (h : SlOk R129 segOk w s) : PathAt w w.heap.size s.a s.n s.l := by
  refine ⟨h.sl.len, h.sl.max, fun h0 => ?_, fun x hx => (h.all x hx).1⟩
  obtain ⟨b, o, e, hr⟩ := h.sl.row h0
  refine ⟨b, o, e, hr.lt, fun i hi => ?_⟩
  have h1 := hr.get i (by rw [← h.sl.len]; exact hi) 0 (by decide)
  have h2 := hr.get i (by rw [← h.sl.len]; exact hi) 1 (by decide)
  simp only [R129, Nat.add_zero, List.getElem?_cons_zero, List.getElem?_cons_succ] at h1 h2
  exact ⟨h1, h2⟩
theorem pfirst_I3 {l : List SegV} (h : ∀ s ∈ l, ∀ n ∈ s.ns, I3 n) : -9223372036854775808 ≤ pfirst l ∧ pfirst l ≤ 9223372036854775807 := by
  unfold pfirst
  cases l with
  | nil => simp
  | cons s r =>
    dsimp only
    split
    · simp
    · cases hs : s.ns with
      | nil => simp
      | cons n t => exact h s (by simp) n (by rw [hs]; simp)
def atCells (x : Rt) : List Value := [.int .i64 x.o, .slice x.pa x.pn x.pc, .int .u32 x.nx, .int .i64 x.md, .int .i64 x.pf, .slice x.ca x.cn x.cc]
def rtIn (w : World) (x : Rt) : Prop := RtOk w w.heap.size x ∧ 0 ≤ x.nx ∧ x.nx < 4294967296
set_option maxRecDepth 100000 in
theorem reads37 : Reads Try.prog 37 (fun p : Int × Int => [.int .u32 p.1, .int .i64 p.2]) (fun _ _ => True) :=
  ⟨fun {H enc w spare held fuel cs x} h => by
    obtain ⟨hl, hf⟩ := Reads.fields Try.underlying37 h
    rw [show Try.prog.cellsOf 37 = 2 by kernel_rfl] at hl
    obtain ⟨c0, c1, rfl⟩ : ∃ c0 c1, cs = [c0, c1] := by
      match cs, hl with
      | [c0, c1], _ => exact ⟨c0, c1, rfl⟩
    obtain ⟨n0, y0, h0⟩ := hf 0 _ rfl
    have h0 : DataW.trod enc Try.prog w 0 spare held n0 22 [c0] = some y0 := by
      have q : Try.prog.cellsOf 22 = 1 := by kernel_rfl
      have z : DataW.trod enc Try.prog w 0 spare held n0 22 (([c0, c1].drop 0).take (Try.prog.cellsOf 22)) = some y0 := h0
      rw [q] at z; exact z
    obtain ⟨a0, e0, k0⟩ := (reads22).read h0
    obtain ⟨n1, y1, h1⟩ := hf 1 _ rfl
    have h1 : DataW.trod enc Try.prog w 0 spare held n1 3 [c1] = some y1 := by
      have q : Try.prog.cellsOf 3 = 1 := by kernel_rfl
      have z : DataW.trod enc Try.prog w 0 spare held n1 3 (([c0, c1].drop 1).take (Try.prog.cellsOf 3)) = some y1 := h1
      rw [q] at z; exact z
    obtain ⟨a1, e1, k1⟩ := (reads3).read h1
    simp only [List.cons.injEq, and_true] at e0 e1
    subst e0
    subst e1
    exact ⟨(a0, a1), rfl, trivial⟩⟩
set_option maxRecDepth 100000 in
theorem reads37n : Reads Try.prog 37 (fun p : Nat × Int => [.int .u32 (p.1 : Int), .int .i64 p.2]) (fun _ p => p.1 < 4294967296) :=
  ⟨fun {H enc w spare held fuel cs x} h => by
    obtain ⟨hl, hf⟩ := Reads.fields Try.underlying37 h
    rw [show Try.prog.cellsOf 37 = 2 by kernel_rfl] at hl
    obtain ⟨c0, c1, rfl⟩ : ∃ c0 c1, cs = [c0, c1] := by
      match cs, hl with
      | [c0, c1], _ => exact ⟨c0, c1, rfl⟩
    obtain ⟨n0, y0, h0⟩ := hf 0 _ rfl
    have h0 : DataW.trod enc Try.prog w 0 spare held n0 22 [c0] = some y0 := by
      have q : Try.prog.cellsOf 22 = 1 := by kernel_rfl
      have z : DataW.trod enc Try.prog w 0 spare held n0 22 (([c0, c1].drop 0).take (Try.prog.cellsOf 22)) = some y0 := h0
      rw [q] at z; exact z
    obtain ⟨a0, e0, k0⟩ := (reads22n).read h0
    obtain ⟨n1, y1, h1⟩ := hf 1 _ rfl
    have h1 : DataW.trod enc Try.prog w 0 spare held n1 3 [c1] = some y1 := by
      have q : Try.prog.cellsOf 3 = 1 := by kernel_rfl
      have z : DataW.trod enc Try.prog w 0 spare held n1 3 (([c0, c1].drop 1).take (Try.prog.cellsOf 3)) = some y1 := h1
      rw [q] at z; exact z
    obtain ⟨a1, e1, k1⟩ := (reads3).read h1
    simp only [List.cons.injEq, and_true] at e0 e1
    subst e0
    subst e1
    exact ⟨(a0, a1), rfl, k0⟩⟩
set_option maxRecDepth 100000 in
theorem reads39 : Reads Try.prog 39 (fun p : Int × (Int × Int) × Int => [.int .i64 p.1, .int .u32 p.2.1.1, .int .i64 p.2.1.2, .int .i64 p.2.2]) (fun _ _ => True) :=
  ⟨fun {H enc w spare held fuel cs x} h => by
    obtain ⟨hl, hf⟩ := Reads.fields Try.underlying39 h
    rw [show Try.prog.cellsOf 39 = 4 by kernel_rfl] at hl
    obtain ⟨c0, c1, c2, c3, rfl⟩ : ∃ c0 c1 c2 c3, cs = [c0, c1, c2, c3] := by
      match cs, hl with
      | [c0, c1, c2, c3], _ => exact ⟨c0, c1, c2, c3, rfl⟩
    obtain ⟨n0, y0, h0⟩ := hf 0 _ rfl
    have h0 : DataW.trod enc Try.prog w 0 spare held n0 3 [c0] = some y0 := by
      have q : Try.prog.cellsOf 3 = 1 := by kernel_rfl
      have z : DataW.trod enc Try.prog w 0 spare held n0 3 (([c0, c1, c2, c3].drop 0).take (Try.prog.cellsOf 3)) = some y0 := h0
      rw [q] at z; exact z
    obtain ⟨a0, e0, k0⟩ := (reads3).read h0
    obtain ⟨n1, y1, h1⟩ := hf 1 _ rfl
    have h1 : DataW.trod enc Try.prog w 0 spare held n1 37 [c1, c2] = some y1 := by
      have q : Try.prog.cellsOf 37 = 2 := by kernel_rfl
      have z : DataW.trod enc Try.prog w 0 spare held n1 37 (([c0, c1, c2, c3].drop 1).take (Try.prog.cellsOf 37)) = some y1 := h1
      rw [q] at z; exact z
    obtain ⟨a1, e1, k1⟩ := (reads37).read h1
    obtain ⟨n2, y2, h2⟩ := hf 2 _ rfl
    have h2 : DataW.trod enc Try.prog w 0 spare held n2 3 [c3] = some y2 := by
      have q : Try.prog.cellsOf 3 = 1 := by kernel_rfl
      have z : DataW.trod enc Try.prog w 0 spare held n2 3 (([c0, c1, c2, c3].drop 3).take (Try.prog.cellsOf 3)) = some y2 := h2
      rw [q] at z; exact z
    obtain ⟨a2, e2, k2⟩ := (reads3).read h2
    simp only [List.cons.injEq, and_true] at e0 e1 e2
    subst e0
    obtain ⟨rfl, rfl⟩ := e1
    subst e2
    exact ⟨(a0, a1, a2), rfl, trivial⟩⟩
set_option maxRecDepth 100000 in
theorem reads42 : Reads Try.prog 42 (atCells) (rtIn) :=
  ⟨fun {H enc w spare held fuel cs x} h => by
    obtain ⟨hl, hf⟩ := Reads.fields Try.underlying42 h
    rw [show Try.prog.cellsOf 42 = 6 by kernel_rfl] at hl
    obtain ⟨c0, c1, c2, c3, c4, c5, rfl⟩ : ∃ c0 c1 c2 c3 c4 c5, cs = [c0, c1, c2, c3, c4, c5] := by
      match cs, hl with
      | [c0, c1, c2, c3, c4, c5], _ => exact ⟨c0, c1, c2, c3, c4, c5, rfl⟩
    obtain ⟨n0, y0, h0⟩ := hf 0 _ rfl
    have h0 : DataW.trod enc Try.prog w 0 spare held n0 3 [c0] = some y0 := by
      have q : Try.prog.cellsOf 3 = 1 := by kernel_rfl
      have z : DataW.trod enc Try.prog w 0 spare held n0 3 (([c0, c1, c2, c3, c4, c5].drop 0).take (Try.prog.cellsOf 3)) = some y0 := h0
      rw [q] at z; exact z
    obtain ⟨a0, e0, k0⟩ := (reads3).read h0
    obtain ⟨n1, y1, h1⟩ := hf 1 _ rfl
    have h1 : DataW.trod enc Try.prog w 0 spare held n1 40 [c1] = some y1 := by
      have q : Try.prog.cellsOf 40 = 1 := by kernel_rfl
      have z : DataW.trod enc Try.prog w 0 spare held n1 40 (([c0, c1, c2, c3, c4, c5].drop 1).take (Try.prog.cellsOf 40)) = some y1 := h1
      rw [q] at z; exact z
    obtain ⟨a1, e1, k1⟩ := (reads40s).read h1
    obtain ⟨n2, y2, h2⟩ := hf 2 _ rfl
    have h2 : DataW.trod enc Try.prog w 0 spare held n2 22 [c2] = some y2 := by
      have q : Try.prog.cellsOf 22 = 1 := by kernel_rfl
      have z : DataW.trod enc Try.prog w 0 spare held n2 22 (([c0, c1, c2, c3, c4, c5].drop 2).take (Try.prog.cellsOf 22)) = some y2 := h2
      rw [q] at z; exact z
    obtain ⟨a2, e2, k2⟩ := (reads22).read h2
    obtain ⟨n3, y3, h3⟩ := hf 3 _ rfl
    have h3 : DataW.trod enc Try.prog w 0 spare held n3 3 [c3] = some y3 := by
      have q : Try.prog.cellsOf 3 = 1 := by kernel_rfl
      have z : DataW.trod enc Try.prog w 0 spare held n3 3 (([c0, c1, c2, c3, c4, c5].drop 3).take (Try.prog.cellsOf 3)) = some y3 := h3
      rw [q] at z; exact z
    obtain ⟨a3, e3, k3⟩ := (reads3).read h3
    obtain ⟨n4, y4, h4⟩ := hf 4 _ rfl
    have h4 : DataW.trod enc Try.prog w 0 spare held n4 3 [c4] = some y4 := by
      have q : Try.prog.cellsOf 3 = 1 := by kernel_rfl
      have z : DataW.trod enc Try.prog w 0 spare held n4 3 (([c0, c1, c2, c3, c4, c5].drop 4).take (Try.prog.cellsOf 3)) = some y4 := h4
      rw [q] at z; exact z
    obtain ⟨a4, e4, k4⟩ := (reads3).read h4
    obtain ⟨n5, y5, h5⟩ := hf 5 _ rfl
    have h5 : DataW.trod enc Try.prog w 0 spare held n5 24 [c5] = some y5 := by
      have q : Try.prog.cellsOf 24 = 1 := by kernel_rfl
      have z : DataW.trod enc Try.prog w 0 spare held n5 24 (([c0, c1, c2, c3, c4, c5].drop 5).take (Try.prog.cellsOf 24)) = some y5 := h5
      rw [q] at z; exact z
    obtain ⟨a5, e5, k5⟩ := (reads24).read h5
    simp only [List.cons.injEq, and_true] at e0 e1 e2 e3 e4 e5
    subst e0
    subst e1
    subst e2
    subst e3
    subst e4
    subst e5
    exact ⟨⟨0, 0, 0, 0, a0, a1.a, a1.n, a1.c, a2, a3, a4, a5.a, a5.n, a5.c, a1.l, a5.l⟩, rfl, ⟨⟨pathAt_of k1, intsAt_of k5, k4.2, pfirst_I3 fun s hs => (k1.all s hs).2⟩, k2.1, by have := k2.2; show a2 < 4294967296; omega⟩⟩⟩
set_option maxRecDepth 100000 in
theorem reads44 : Reads Try.prog 44 (R40.cells) (rtIn) :=
  ⟨fun {H enc w spare held fuel cs x} h => by
    obtain ⟨hl, hf⟩ := Reads.fields Try.underlying44 h
    rw [show Try.prog.cellsOf 44 = 10 by kernel_rfl] at hl
    obtain ⟨c0, c1, c2, c3, c4, c5, c6, c7, c8, c9, rfl⟩ : ∃ c0 c1 c2 c3 c4 c5 c6 c7 c8 c9, cs = [c0, c1, c2, c3, c4, c5, c6, c7, c8, c9] := by
      match cs, hl with
      | [c0, c1, c2, c3, c4, c5, c6, c7, c8, c9], _ => exact ⟨c0, c1, c2, c3, c4, c5, c6, c7, c8, c9, rfl⟩
    obtain ⟨n0, y0, h0⟩ := hf 0 _ rfl
    have h0 : DataW.trod enc Try.prog w 0 spare held n0 39 [c0, c1, c2, c3] = some y0 := by
      have q : Try.prog.cellsOf 39 = 4 := by kernel_rfl
      have z : DataW.trod enc Try.prog w 0 spare held n0 39 (([c0, c1, c2, c3, c4, c5, c6, c7, c8, c9].drop 0).take (Try.prog.cellsOf 39)) = some y0 := h0
      rw [q] at z; exact z
    obtain ⟨a0, e0, k0⟩ := (reads39).read h0
    obtain ⟨n1, y1, h1⟩ := hf 1 _ rfl
    have h1 : DataW.trod enc Try.prog w 0 spare held n1 42 [c4, c5, c6, c7, c8, c9] = some y1 := by
      have q : Try.prog.cellsOf 42 = 6 := by kernel_rfl
      have z : DataW.trod enc Try.prog w 0 spare held n1 42 (([c0, c1, c2, c3, c4, c5, c6, c7, c8, c9].drop 4).take (Try.prog.cellsOf 42)) = some y1 := h1
      rw [q] at z; exact z
    obtain ⟨a1, e1, k1⟩ := (reads42).read h1
    simp only [List.cons.injEq, and_true] at e0 e1
    obtain ⟨rfl, rfl, rfl, rfl⟩ := e0
    obtain ⟨rfl, rfl, rfl, rfl, rfl, rfl⟩ := e1
    exact ⟨⟨a0.1, a0.2.1.1, a0.2.1.2, a0.2.2, a1.o, a1.pa, a1.pn, a1.pc, a1.nx, a1.md, a1.pf, a1.ca, a1.cn, a1.cc, a1.path, a1.comms⟩, rfl, ⟨⟨k1.1.path, k1.1.comms, k1.1.pf1, k1.1.fr⟩, k1.2⟩⟩⟩
theorem reads28 : Reads Try.prog 28 (fun s : SlV Rt => [.slice s.a s.n s.c]) (SlOk R40 rtIn) := Reads.slice (R := R40) Try.underlying28 (by kernel_rfl) reads44
theorem came_of {w : World} {s : SlV Rt} (h : SlOk R40 rtIn w s) : Came w s.a s.n s.c s.l := ⟨h.sl, h.nil, fun x hx => (h.all x hx).1⟩
theorem nx_of {w : World} {s : SlV Rt} (h : SlOk R40 rtIn w s) : NxOk s.l := fun x hx => (h.all x hx).2
def ifIn (_w : World) (x : If) : Prop := x.ad < 4294967296
set_option maxRecDepth 100000 in
theorem reads83 : Reads Try.prog 83 (RIf.cells) (ifIn) :=
  ⟨fun {H enc w spare held fuel cs x} h => by
    obtain ⟨hl, hf⟩ := Reads.fields Try.underlying83 h
    rw [show Try.prog.cellsOf 83 = 5 by kernel_rfl] at hl
    obtain ⟨c0, c1, c2, c3, c4, rfl⟩ : ∃ c0 c1 c2 c3 c4, cs = [c0, c1, c2, c3, c4] := by
      match cs, hl with
      | [c0, c1, c2, c3, c4], _ => exact ⟨c0, c1, c2, c3, c4, rfl⟩
    obtain ⟨n0, y0, h0⟩ := hf 0 _ rfl
    have h0 : DataW.trod enc Try.prog w 0 spare held n0 3 [c0] = some y0 := by
      have q : Try.prog.cellsOf 3 = 1 := by kernel_rfl
      have z : DataW.trod enc Try.prog w 0 spare held n0 3 (([c0, c1, c2, c3, c4].drop 0).take (Try.prog.cellsOf 3)) = some y0 := h0
      rw [q] at z; exact z
    obtain ⟨a0, e0, k0⟩ := (reads3).read h0
    obtain ⟨n1, y1, h1⟩ := hf 1 _ rfl
    have h1 : DataW.trod enc Try.prog w 0 spare held n1 3 [c1] = some y1 := by
      have q : Try.prog.cellsOf 3 = 1 := by kernel_rfl
      have z : DataW.trod enc Try.prog w 0 spare held n1 3 (([c0, c1, c2, c3, c4].drop 1).take (Try.prog.cellsOf 3)) = some y1 := h1
      rw [q] at z; exact z
    obtain ⟨a1, e1, k1⟩ := (reads3).read h1
    obtain ⟨n2, y2, h2⟩ := hf 2 _ rfl
    have h2 : DataW.trod enc Try.prog w 0 spare held n2 37 [c2, c3] = some y2 := by
      have q : Try.prog.cellsOf 37 = 2 := by kernel_rfl
      have z : DataW.trod enc Try.prog w 0 spare held n2 37 (([c0, c1, c2, c3, c4].drop 2).take (Try.prog.cellsOf 37)) = some y2 := h2
      rw [q] at z; exact z
    obtain ⟨a2, e2, k2⟩ := (reads37n).read h2
    obtain ⟨n3, y3, h3⟩ := hf 3 _ rfl
    have h3 : DataW.trod enc Try.prog w 0 spare held n3 3 [c4] = some y3 := by
      have q : Try.prog.cellsOf 3 = 1 := by kernel_rfl
      have z : DataW.trod enc Try.prog w 0 spare held n3 3 (([c0, c1, c2, c3, c4].drop 4).take (Try.prog.cellsOf 3)) = some y3 := h3
      rw [q] at z; exact z
    obtain ⟨a3, e3, k3⟩ := (reads3).read h3
    simp only [List.cons.injEq, and_true] at e0 e1 e2 e3
    subst e0
    subst e1
    obtain ⟨rfl, rfl⟩ := e2
    subst e3
    exact ⟨⟨a0, a1, a2.1, a2.2, a3⟩, rfl, k2⟩⟩
theorem reads23 : Reads Try.prog 23 (fun s : SlV If => [.slice s.a s.n s.c]) (SlOk RIf ifIn) := Reads.slice (R := RIf) Try.underlying23 (by kernel_rfl) reads83
theorem ifs_of {w : World} {s : SlV If} (h : SlOk RIf ifIn w s) : Ifs w s.a s.n s.c s.l := ⟨h.sl, h.all⟩
def cyIn (_w : World) (y : Cy) : Prop := I3 y.id ∧ I3 y.cp
set_option maxRecDepth 100000 in
theorem reads52 : Reads Try.prog 52 (RCy.cells) (cyIn) :=
  ⟨fun {H enc w spare held fuel cs x} h => by
    obtain ⟨hl, hf⟩ := Reads.fields Try.underlying52 h
    rw [show Try.prog.cellsOf 52 = 3 by kernel_rfl] at hl
    obtain ⟨c0, c1, c2, rfl⟩ : ∃ c0 c1 c2, cs = [c0, c1, c2] := by
      match cs, hl with
      | [c0, c1, c2], _ => exact ⟨c0, c1, c2, rfl⟩
    obtain ⟨n0, y0, h0⟩ := hf 0 _ rfl
    have h0 : DataW.trod enc Try.prog w 0 spare held n0 3 [c0] = some y0 := by
      have q : Try.prog.cellsOf 3 = 1 := by kernel_rfl
      have z : DataW.trod enc Try.prog w 0 spare held n0 3 (([c0, c1, c2].drop 0).take (Try.prog.cellsOf 3)) = some y0 := h0
      rw [q] at z; exact z
    obtain ⟨a0, e0, k0⟩ := (reads3).read h0
    obtain ⟨n1, y1, h1⟩ := hf 1 _ rfl
    have h1 : DataW.trod enc Try.prog w 0 spare held n1 3 [c1] = some y1 := by
      have q : Try.prog.cellsOf 3 = 1 := by kernel_rfl
      have z : DataW.trod enc Try.prog w 0 spare held n1 3 (([c0, c1, c2].drop 1).take (Try.prog.cellsOf 3)) = some y1 := h1
      rw [q] at z; exact z
    obtain ⟨a1, e1, k1⟩ := (reads3).read h1
    obtain ⟨n2, y2, h2⟩ := hf 2 _ rfl
    have h2 : DataW.trod enc Try.prog w 0 spare held n2 4 [c2] = some y2 := by
      have q : Try.prog.cellsOf 4 = 1 := by kernel_rfl
      have z : DataW.trod enc Try.prog w 0 spare held n2 4 (([c0, c1, c2].drop 2).take (Try.prog.cellsOf 4)) = some y2 := h2
      rw [q] at z; exact z
    obtain ⟨a2, e2, k2⟩ := (reads4).read h2
    simp only [List.cons.injEq, and_true] at e0 e1 e2
    subst e0
    subst e1
    subst e2
    exact ⟨⟨a0, a1, a2⟩, rfl, ⟨k0, k1⟩⟩⟩
theorem reads64 : Reads Try.prog 64 (fun s : SlV Cy => [.slice s.a s.n s.c]) (SlOk RCy cyIn) := Reads.slice (R := RCy) Try.underlying64 (by kernel_rfl) reads52
theorem cys_of {w : World} {s : SlV Cy} (h : SlOk RCy cyIn w s) : Cys w s.a s.n s.c s.l := ⟨h.sl, fun y hy => wfI (h.all y hy).1⟩
def csIn (w : World) (x : Cs) : Prop := ∃ L, Cys w x.a x.n x.c L
set_option maxRecDepth 100000 in
theorem reads66 : Reads Try.prog 66 (RCs.cells) (csIn) :=
  ⟨fun {H enc w spare held fuel cs x} h => by
    obtain ⟨hl, hf⟩ := Reads.fields Try.underlying66 h
    rw [show Try.prog.cellsOf 66 = 3 by kernel_rfl] at hl
    obtain ⟨c0, c1, c2, rfl⟩ : ∃ c0 c1 c2, cs = [c0, c1, c2] := by
      match cs, hl with
      | [c0, c1, c2], _ => exact ⟨c0, c1, c2, rfl⟩
    obtain ⟨n0, y0, h0⟩ := hf 0 _ rfl
    have h0 : DataW.trod enc Try.prog w 0 spare held n0 3 [c0] = some y0 := by
      have q : Try.prog.cellsOf 3 = 1 := by kernel_rfl
      have z : DataW.trod enc Try.prog w 0 spare held n0 3 (([c0, c1, c2].drop 0).take (Try.prog.cellsOf 3)) = some y0 := h0
      rw [q] at z; exact z
    obtain ⟨a0, e0, k0⟩ := (reads3).read h0
    obtain ⟨n1, y1, h1⟩ := hf 1 _ rfl
    have h1 : DataW.trod enc Try.prog w 0 spare held n1 3 [c1] = some y1 := by
      have q : Try.prog.cellsOf 3 = 1 := by kernel_rfl
      have z : DataW.trod enc Try.prog w 0 spare held n1 3 (([c0, c1, c2].drop 1).take (Try.prog.cellsOf 3)) = some y1 := h1
      rw [q] at z; exact z
    obtain ⟨a1, e1, k1⟩ := (reads3).read h1
    obtain ⟨n2, y2, h2⟩ := hf 2 _ rfl
    have h2 : DataW.trod enc Try.prog w 0 spare held n2 64 [c2] = some y2 := by
      have q : Try.prog.cellsOf 64 = 1 := by kernel_rfl
      have z : DataW.trod enc Try.prog w 0 spare held n2 64 (([c0, c1, c2].drop 2).take (Try.prog.cellsOf 64)) = some y2 := h2
      rw [q] at z; exact z
    obtain ⟨a2, e2, k2⟩ := (reads64).read h2
    simp only [List.cons.injEq, and_true] at e0 e1 e2
    subst e0
    subst e1
    subst e2
    exact ⟨⟨a0, a1, a2.a, a2.n, a2.c⟩, rfl, ⟨_, cys_of k2⟩⟩⟩
theorem reads27 : Reads Try.prog 27 (fun s : SlV Cs => [.slice s.a s.n s.c]) (SlOk RCs csIn) := Reads.slice (R := RCs) Try.underlying27 (by kernel_rfl) reads66
structure CfV where
  C : Array Value
  lg : Int
  im : Nat
  da : Option Addr
  dn : Nat
  dc : Nat
  ds : List Int
structure cfIn (w : World) (v : CfV) : Prop where
  a : CfA v.C v.lg v.im v.da v.dn v.dc
  i : IntsAt w w.heap.size v.da v.dn v.ds
  nc : v.dn ≤ v.dc
  cm : v.dc ≤ maxLen
set_option maxHeartbeats 1000000 in
set_option maxRecDepth 100000 in
theorem reads26 : Reads Try.prog 26 (fun v : CfV => v.C.toList) (cfIn) :=
  ⟨fun {H enc w spare held fuel cs x} h => by
    obtain ⟨hl, hf⟩ := Reads.fields Try.underlying26 h
    rw [show Try.prog.cellsOf 26 = 20 by kernel_rfl] at hl
    obtain ⟨c0, c1, c2, c3, c4, c5, c6, c7, c8, c9, c10, c11, c12, c13, c14, c15, c16, c17, c18, c19, rfl⟩ : ∃ c0 c1 c2 c3 c4 c5 c6 c7 c8 c9 c10 c11 c12 c13 c14 c15 c16 c17 c18 c19, cs = [c0, c1, c2, c3, c4, c5, c6, c7, c8, c9, c10, c11, c12, c13, c14, c15, c16, c17, c18, c19] := by
      match cs, hl with
      | [c0, c1, c2, c3, c4, c5, c6, c7, c8, c9, c10, c11, c12, c13, c14, c15, c16, c17, c18, c19], _ => exact ⟨c0, c1, c2, c3, c4, c5, c6, c7, c8, c9, c10, c11, c12, c13, c14, c15, c16, c17, c18, c19, rfl⟩
    obtain ⟨n0, y0, h0⟩ := hf 0 _ rfl
    have h0 : DataW.trod enc Try.prog w 0 spare held n0 3 [c0] = some y0 := by
      have q : Try.prog.cellsOf 3 = 1 := by kernel_rfl
      have z : DataW.trod enc Try.prog w 0 spare held n0 3 (([c0, c1, c2, c3, c4, c5, c6, c7, c8, c9, c10, c11, c12, c13, c14, c15, c16, c17, c18, c19].drop 0).take (Try.prog.cellsOf 3)) = some y0 := h0
      rw [q] at z; exact z
    obtain ⟨a0, e0, k0⟩ := (reads3).read h0
    obtain ⟨n1, y1, h1⟩ := hf 1 _ rfl
    have h1 : DataW.trod enc Try.prog w 0 spare held n1 22 [c1] = some y1 := by
      have q : Try.prog.cellsOf 22 = 1 := by kernel_rfl
      have z : DataW.trod enc Try.prog w 0 spare held n1 22 (([c0, c1, c2, c3, c4, c5, c6, c7, c8, c9, c10, c11, c12, c13, c14, c15, c16, c17, c18, c19].drop 1).take (Try.prog.cellsOf 22)) = some y1 := h1
      rw [q] at z; exact z
    obtain ⟨a1, e1, k1⟩ := (reads22).read h1
    obtain ⟨n2, y2, h2⟩ := hf 2 _ rfl
    have h2 : DataW.trod enc Try.prog w 0 spare held n2 3 [c2] = some y2 := by
      have q : Try.prog.cellsOf 3 = 1 := by kernel_rfl
      have z : DataW.trod enc Try.prog w 0 spare held n2 3 (([c0, c1, c2, c3, c4, c5, c6, c7, c8, c9, c10, c11, c12, c13, c14, c15, c16, c17, c18, c19].drop 2).take (Try.prog.cellsOf 3)) = some y2 := h2
      rw [q] at z; exact z
    obtain ⟨a2, e2, k2⟩ := (reads3).read h2
    obtain ⟨n3, y3, h3⟩ := hf 3 _ rfl
    have h3 : DataW.trod enc Try.prog w 0 spare held n3 3 [c3] = some y3 := by
      have q : Try.prog.cellsOf 3 = 1 := by kernel_rfl
      have z : DataW.trod enc Try.prog w 0 spare held n3 3 (([c0, c1, c2, c3, c4, c5, c6, c7, c8, c9, c10, c11, c12, c13, c14, c15, c16, c17, c18, c19].drop 3).take (Try.prog.cellsOf 3)) = some y3 := h3
      rw [q] at z; exact z
    obtain ⟨a3, e3, k3⟩ := (reads3).read h3
    obtain ⟨n4, y4, h4⟩ := hf 4 _ rfl
    have h4 : DataW.trod enc Try.prog w 0 spare held n4 3 [c4] = some y4 := by
      have q : Try.prog.cellsOf 3 = 1 := by kernel_rfl
      have z : DataW.trod enc Try.prog w 0 spare held n4 3 (([c0, c1, c2, c3, c4, c5, c6, c7, c8, c9, c10, c11, c12, c13, c14, c15, c16, c17, c18, c19].drop 4).take (Try.prog.cellsOf 3)) = some y4 := h4
      rw [q] at z; exact z
    obtain ⟨a4, e4, k4⟩ := (reads3).read h4
    obtain ⟨n5, y5, h5⟩ := hf 5 _ rfl
    have h5 : DataW.trod enc Try.prog w 0 spare held n5 3 [c5] = some y5 := by
      have q : Try.prog.cellsOf 3 = 1 := by kernel_rfl
      have z : DataW.trod enc Try.prog w 0 spare held n5 3 (([c0, c1, c2, c3, c4, c5, c6, c7, c8, c9, c10, c11, c12, c13, c14, c15, c16, c17, c18, c19].drop 5).take (Try.prog.cellsOf 3)) = some y5 := h5
      rw [q] at z; exact z
    obtain ⟨a5, e5, k5⟩ := (reads3).read h5
    obtain ⟨n6, y6, h6⟩ := hf 6 _ rfl
    have h6 : DataW.trod enc Try.prog w 0 spare held n6 3 [c6] = some y6 := by
      have q : Try.prog.cellsOf 3 = 1 := by kernel_rfl
      have z : DataW.trod enc Try.prog w 0 spare held n6 3 (([c0, c1, c2, c3, c4, c5, c6, c7, c8, c9, c10, c11, c12, c13, c14, c15, c16, c17, c18, c19].drop 6).take (Try.prog.cellsOf 3)) = some y6 := h6
      rw [q] at z; exact z
    obtain ⟨a6, e6, k6⟩ := (reads3).read h6
    obtain ⟨n7, y7, h7⟩ := hf 7 _ rfl
    have h7 : DataW.trod enc Try.prog w 0 spare held n7 23 [c7] = some y7 := by
      have q : Try.prog.cellsOf 23 = 1 := by kernel_rfl
      have z : DataW.trod enc Try.prog w 0 spare held n7 23 (([c0, c1, c2, c3, c4, c5, c6, c7, c8, c9, c10, c11, c12, c13, c14, c15, c16, c17, c18, c19].drop 7).take (Try.prog.cellsOf 23)) = some y7 := h7
      rw [q] at z; exact z
    obtain ⟨a7, e7, k7⟩ := (reads23).read h7
    obtain ⟨n8, y8, h8⟩ := hf 8 _ rfl
    have h8 : DataW.trod enc Try.prog w 0 spare held n8 3 [c8] = some y8 := by
      have q : Try.prog.cellsOf 3 = 1 := by kernel_rfl
      have z : DataW.trod enc Try.prog w 0 spare held n8 3 (([c0, c1, c2, c3, c4, c5, c6, c7, c8, c9, c10, c11, c12, c13, c14, c15, c16, c17, c18, c19].drop 8).take (Try.prog.cellsOf 3)) = some y8 := h8
      rw [q] at z; exact z
    obtain ⟨a8, e8, k8⟩ := (reads3).read h8
    obtain ⟨n9, y9, h9⟩ := hf 9 _ rfl
    have h9 : DataW.trod enc Try.prog w 0 spare held n9 3 [c9] = some y9 := by
      have q : Try.prog.cellsOf 3 = 1 := by kernel_rfl
      have z : DataW.trod enc Try.prog w 0 spare held n9 3 (([c0, c1, c2, c3, c4, c5, c6, c7, c8, c9, c10, c11, c12, c13, c14, c15, c16, c17, c18, c19].drop 9).take (Try.prog.cellsOf 3)) = some y9 := h9
      rw [q] at z; exact z
    obtain ⟨a9, e9, k9⟩ := (reads3).read h9
    obtain ⟨n10, y10, h10⟩ := hf 10 _ rfl
    have h10 : DataW.trod enc Try.prog w 0 spare held n10 3 [c10] = some y10 := by
      have q : Try.prog.cellsOf 3 = 1 := by kernel_rfl
      have z : DataW.trod enc Try.prog w 0 spare held n10 3 (([c0, c1, c2, c3, c4, c5, c6, c7, c8, c9, c10, c11, c12, c13, c14, c15, c16, c17, c18, c19].drop 10).take (Try.prog.cellsOf 3)) = some y10 := h10
      rw [q] at z; exact z
    obtain ⟨a10, e10, k10⟩ := (reads3).read h10
    obtain ⟨n11, y11, h11⟩ := hf 11 _ rfl
    have h11 : DataW.trod enc Try.prog w 0 spare held n11 3 [c11] = some y11 := by
      have q : Try.prog.cellsOf 3 = 1 := by kernel_rfl
      have z : DataW.trod enc Try.prog w 0 spare held n11 3 (([c0, c1, c2, c3, c4, c5, c6, c7, c8, c9, c10, c11, c12, c13, c14, c15, c16, c17, c18, c19].drop 11).take (Try.prog.cellsOf 3)) = some y11 := h11
      rw [q] at z; exact z
    obtain ⟨a11, e11, k11⟩ := (reads3).read h11
    obtain ⟨n12, y12, h12⟩ := hf 12 _ rfl
    have h12 : DataW.trod enc Try.prog w 0 spare held n12 3 [c12] = some y12 := by
      have q : Try.prog.cellsOf 3 = 1 := by kernel_rfl
      have z : DataW.trod enc Try.prog w 0 spare held n12 3 (([c0, c1, c2, c3, c4, c5, c6, c7, c8, c9, c10, c11, c12, c13, c14, c15, c16, c17, c18, c19].drop 12).take (Try.prog.cellsOf 3)) = some y12 := h12
      rw [q] at z; exact z
    obtain ⟨a12, e12, k12⟩ := (reads3).read h12
    obtain ⟨n13, y13, h13⟩ := hf 13 _ rfl
    have h13 : DataW.trod enc Try.prog w 0 spare held n13 3 [c13] = some y13 := by
      have q : Try.prog.cellsOf 3 = 1 := by kernel_rfl
      have z : DataW.trod enc Try.prog w 0 spare held n13 3 (([c0, c1, c2, c3, c4, c5, c6, c7, c8, c9, c10, c11, c12, c13, c14, c15, c16, c17, c18, c19].drop 13).take (Try.prog.cellsOf 3)) = some y13 := h13
      rw [q] at z; exact z
    obtain ⟨a13, e13, k13⟩ := (reads3).read h13
    obtain ⟨n14, y14, h14⟩ := hf 14 _ rfl
    have h14 : DataW.trod enc Try.prog w 0 spare held n14 3 [c14] = some y14 := by
      have q : Try.prog.cellsOf 3 = 1 := by kernel_rfl
      have z : DataW.trod enc Try.prog w 0 spare held n14 3 (([c0, c1, c2, c3, c4, c5, c6, c7, c8, c9, c10, c11, c12, c13, c14, c15, c16, c17, c18, c19].drop 14).take (Try.prog.cellsOf 3)) = some y14 := h14
      rw [q] at z; exact z
    obtain ⟨a14, e14, k14⟩ := (reads3).read h14
    obtain ⟨n15, y15, h15⟩ := hf 15 _ rfl
    have h15 : DataW.trod enc Try.prog w 0 spare held n15 3 [c15] = some y15 := by
      have q : Try.prog.cellsOf 3 = 1 := by kernel_rfl
      have z : DataW.trod enc Try.prog w 0 spare held n15 3 (([c0, c1, c2, c3, c4, c5, c6, c7, c8, c9, c10, c11, c12, c13, c14, c15, c16, c17, c18, c19].drop 15).take (Try.prog.cellsOf 3)) = some y15 := h15
      rw [q] at z; exact z
    obtain ⟨a15, e15, k15⟩ := (reads3).read h15
    obtain ⟨n16, y16, h16⟩ := hf 16 _ rfl
    have h16 : DataW.trod enc Try.prog w 0 spare held n16 3 [c16] = some y16 := by
      have q : Try.prog.cellsOf 3 = 1 := by kernel_rfl
      have z : DataW.trod enc Try.prog w 0 spare held n16 3 (([c0, c1, c2, c3, c4, c5, c6, c7, c8, c9, c10, c11, c12, c13, c14, c15, c16, c17, c18, c19].drop 16).take (Try.prog.cellsOf 3)) = some y16 := h16
      rw [q] at z; exact z
    obtain ⟨a16, e16, k16⟩ := (reads3).read h16
    obtain ⟨n17, y17, h17⟩ := hf 17 _ rfl
    have h17 : DataW.trod enc Try.prog w 0 spare held n17 24 [c17] = some y17 := by
      have q : Try.prog.cellsOf 24 = 1 := by kernel_rfl
      have z : DataW.trod enc Try.prog w 0 spare held n17 24 (([c0, c1, c2, c3, c4, c5, c6, c7, c8, c9, c10, c11, c12, c13, c14, c15, c16, c17, c18, c19].drop 17).take (Try.prog.cellsOf 24)) = some y17 := h17
      rw [q] at z; exact z
    obtain ⟨a17, e17, k17⟩ := (reads24).read h17
    obtain ⟨n18, y18, h18⟩ := hf 18 _ rfl
    have h18 : DataW.trod enc Try.prog w 0 spare held n18 3 [c18] = some y18 := by
      have q : Try.prog.cellsOf 3 = 1 := by kernel_rfl
      have z : DataW.trod enc Try.prog w 0 spare held n18 3 (([c0, c1, c2, c3, c4, c5, c6, c7, c8, c9, c10, c11, c12, c13, c14, c15, c16, c17, c18, c19].drop 18).take (Try.prog.cellsOf 3)) = some y18 := h18
      rw [q] at z; exact z
    obtain ⟨a18, e18, k18⟩ := (reads3).read h18
    obtain ⟨n19, y19, h19⟩ := hf 19 _ rfl
    have h19 : DataW.trod enc Try.prog w 0 spare held n19 3 [c19] = some y19 := by
      have q : Try.prog.cellsOf 3 = 1 := by kernel_rfl
      have z : DataW.trod enc Try.prog w 0 spare held n19 3 (([c0, c1, c2, c3, c4, c5, c6, c7, c8, c9, c10, c11, c12, c13, c14, c15, c16, c17, c18, c19].drop 19).take (Try.prog.cellsOf 3)) = some y19 := h19
      rw [q] at z; exact z
    obtain ⟨a19, e19, k19⟩ := (reads3).read h19
    simp only [List.cons.injEq, and_true] at e0 e1 e2 e3 e4 e5 e6 e7 e8 e9 e10 e11 e12 e13 e14 e15 e16 e17 e18 e19
    subst e0
    subst e1
    subst e2
    subst e3
    subst e4
    subst e5
    subst e6
    subst e7
    subst e8
    subst e9
    subst e10
    subst e11
    subst e12
    subst e13
    subst e14
    subst e15
    subst e16
    subst e17
    subst e18
    subst e19
    exact ⟨⟨#[.int .i64 a0, .int .u32 a1, .int .i64 a2, .int .i64 a3, .int .i64 a4, .int .i64 a5, .int .i64 a6, .slice a7.a a7.n a7.c, .int .i64 a8, .int .i64 a9, .int .i64 a10, .int .i64 a11, .int .i64 a12, .int .i64 a13, .int .i64 a14, .int .i64 a15, .int .i64 a16, .slice a17.a a17.n a17.c, .int .i64 a18, .int .i64 a19], a16, a7.n, a17.a, a17.n, a17.c, a17.l⟩, rfl, ⟨⟨rfl, ⟨a7.a, a7.c, rfl⟩, rfl, rfl, by simp [Value.oneCell'], k7.sl.max, k17.sl.max⟩, intsAt_of k17, k17.nc, k17.cm⟩⟩⟩
theorem own : ownKnob Try.prog.godebug = none := by kernel_rfl
end Go.Proofs.Ytgainkgbodmciaa
