/- What an argument that reads as data is in memory: ints, bools, strings, slices; structs by 'Reads.struct'. -/
import Derived.Test.YtfmehahjjgalfaaEl
import Derived.ProofKit
import Derived.OpenShut
import Derived.Carry
import Derived.Deep.Slices
import Derived.Deep.Fields
import Derived.ChangeSame
namespace Go.Proofs.Ytfmehahjjgalfaa
open Go.ChangeShapes Go.WideShapes Go.ChangeAt Go.RowKit Go.Deep

/-- cells that read as data of type T are those of some a -/
structure Reads (P : Program) (T : TypeId) {α : Type} (cells : α → List Value) (ok : World → α → Prop) : Prop where
  read : ∀ {H : Type} {enc : TypeId × Value → H} {w : World} {spare : Nat → Bool} {held : Bool} {fuel : Nat} {cs : List Value} {x : DataW H × List MemPlace}, DataW.trod enc P w 0 spare held fuel T cs = some x → ∃ a, cs = cells a ∧ ok w a
theorem Reads.int {P : Program} {T : TypeId} {k : IntKind} (ht : P.underlying T = some (.int k)) : Reads P T (fun n : Int => [.int k n]) (fun _ n => (Lit.int k n).wf = true) :=
  ⟨fun h => by obtain ⟨n, e, _, hw⟩ := DataW.trod_int ht h; exact ⟨n, e, hw⟩⟩
theorem Reads.bool {P : Program} {T : TypeId} (ht : P.underlying T = some .bool) : Reads P T (fun b : Bool => [.bool b]) (fun _ _ => True) :=
  ⟨fun h => by obtain ⟨n, e, _⟩ := DataW.trod_bool ht h; exact ⟨n, e, trivial⟩⟩
theorem Reads.string {P : Program} {T : TypeId} (ht : P.underlying T = some .string) : Reads P T (fun s : ByteArray => [.string s]) (fun _ s => s.size ≤ maxLen) :=
  ⟨fun h => by obtain ⟨s, e, _, hw⟩ := DataW.trod_string ht h; exact ⟨s, e, hw⟩⟩
theorem wf64 {n : Int} (h : (Lit.int .i64 n).wf = true) : -9223372036854775808 ≤ n ∧ n ≤ 9223372036854775807 := by
  simp only [Lit.wf, IntKind.min, IntKind.max, IntKind.signed, IntKind.bits, Bool.and_eq_true, decide_eq_true_eq] at h
  simpa using h
theorem wfu32 {n : Int} (h : (Lit.int .u32 n).wf = true) : 0 ≤ n ∧ n ≤ 4294967295 := by
  simp only [Lit.wf, IntKind.min, IntKind.max, IntKind.signed, IntKind.bits, Bool.and_eq_true] at h
  simpa using h
theorem wfu8 {n : Int} (h : (Lit.int .u8 n).wf = true) : 0 ≤ n ∧ n ≤ 255 := by
  simp only [Lit.wf, IntKind.min, IntKind.max, IntKind.signed, IntKind.bits, Bool.and_eq_true] at h
  simpa using h

/-- a slice, and what it reads as -/
structure SlV (α : Type) where
  a : Option Addr
  n : Nat
  c : Nat
  l : List α
structure SlOk {α : Type} [Inhabited α] (R : Rep α) (ok : World → α → Prop) (w : World) (s : SlV α) : Prop where
  sl : R.Sl w s.a s.n s.c s.l
  nil : s.a = none → s.c = 0
  nc : s.n ≤ s.c
  cm : s.c ≤ maxLen
  all : ∀ x ∈ s.l, ok w x
theorem Reads.slice {P : Program} {t : TypeId} {α : Type} [Inhabited α] {R : Rep α} {ok : World → α → Prop} (ht : P.underlying t = some (.slice R.T)) (hk : P.cellsOf R.T = R.k) (h : Reads P R.T R.cells ok) :
    Reads P t (fun s : SlV α => [.slice s.a s.n s.c]) (SlOk R ok) :=
  ⟨fun {H enc w spare held fuel cs x} hx => by
    rcases open_slice ht hx with ⟨rfl, _⟩ | ⟨a, len, cap, m, n, D, Pl, rfl, _, hl, hm, hmm, _, hi⟩
    · exact ⟨⟨none, 0, 0, []⟩, rfl, ⟨⟨rfl, by show 0 ≤ maxLen; omega, fun h0 => absurd h0 (by show ¬ 0 < 0; omega)⟩, fun _ => rfl, Nat.le_refl _, by show 0 ≤ maxLen; omega, fun x hx => by cases hx⟩⟩
    · have hml : len ≤ m := by rw [hmm]; split <;> omega
      have hel : ∀ i, i < len → ∃ y : α, (∀ j, j < R.k → w.cell? (a.add (i * R.k + j)) = (R.cells y)[j]?) ∧ ok w y := by
        intro i hi'
        obtain ⟨cs', hc, ht'⟩ := hi i (by omega)
        rw [hk] at hc
        obtain ⟨y, rfl, hok⟩ := h.read ht'
        obtain ⟨_, _, hat⟩ := World.cells?_some hc
        exact ⟨y, fun j hj => by rw [← add_add]; exact hat j hj, hok⟩
      let f : Nat → α := fun i => if h0 : i < len then (hel i h0).choose else default
      have hf : ∀ i, i < len → (∀ j, j < R.k → w.cell? (a.add (i * R.k + j)) = (R.cells (f i))[j]?) ∧ ok w (f i) := fun i h0 => by
        have := (hel i h0).choose_spec
        simp only [f, h0, dif_pos]; exact this
      refine ⟨⟨some a, len, cap, (List.range len).map f⟩, rfl, ⟨⟨by simp, by show len ≤ maxLen; omega, fun h0 => ?_⟩, fun e => (by cases e), hl, hm, fun x hx => ?_⟩⟩
      · have hpos : 0 < len := h0
        have hk0 := R.pos
        have h00 := (hf 0 hpos).1 0 hk0
        have hsome : ∃ v, (R.cells (f 0))[0]? = some v := ⟨_, List.getElem?_eq_getElem (by rw [R.len]; exact hk0)⟩
        obtain ⟨v, hv⟩ := hsome
        rw [hv, Nat.zero_mul, Nat.add_zero] at h00
        have ha0 : a.add 0 = a := by unfold Addr.add; simp
        rw [ha0] at h00
        have hsp : a.spot = none := by
          unfold World.cell? at h00
          split at h00
          · split at h00
            · cases h00
            · rename_i hs; simpa using hs
          · cases h00
        obtain ⟨b, off, sp⟩ := a
        dsimp only at hsp
        subst hsp
        refine ⟨b, off, rfl, ⟨World.block_lt_of_cell? w _ h00, fun i hi' j hj => ?_⟩⟩
        have hi'' : i < len := by simpa using hi'
        have := (hf i hi'').1 j hj
        have hadd : (⟨b, off, none⟩ : Addr).add (i * R.k + j) = ⟨b, off + i * R.k + j, none⟩ := by
          unfold Addr.add
          split
          · rename_i h0; simp
          · simp [Nat.add_assoc]
        rw [hadd] at this
        rw [this]
        simp [List.getD_eq_getElem?_getD, hi'']
      · obtain ⟨i, hi', rfl⟩ := List.mem_map.1 hx
        exact (hf i (by simpa using hi')).2⟩
/-- the fields of a struct, each by what reads it -/
theorem Reads.fields {P : Program} {T : TypeId} {fs : Array Field} (ht : P.underlying T = some (.struct fs)) {H : Type} {enc : TypeId × Value → H} {w : World} {spare : Nat → Bool} {held : Bool} {fuel : Nat} {cs : List Value} {x : DataW H × List MemPlace}
    (h : DataW.trod enc P w 0 spare held fuel T cs = some x) : cs.length = P.cellsOf T ∧ ∀ (i : Nat) (f : Field), fs[i]? = some f → ∃ (n : Nat) (y : DataW H × List MemPlace), DataW.trod enc P w 0 spare held n f.type ((cs.drop f.offset).take (P.cellsOf f.type)) = some y := by
  obtain ⟨xs, n, _, _, hl, hlen, hx⟩ := DataW.trod_struct ht h
  refine ⟨hl, fun i f hf => ⟨n, ?_⟩⟩
  have hi : i < xs.length := by rw [hlen]; exact (Array.getElem?_eq_some_iff.1 hf).1
  exact ⟨xs[i], by rw [hx i f hf]; simp [hi]⟩
theorem Reads.conv {P : Program} {T : TypeId} {α β : Type} {cells : α → List Value} {ok : World → α → Prop} {cells' : β → List Value} {ok' : World → β → Prop} (h : Reads P T cells ok) (g : ∀ w a, ok w a → ∃ b, cells a = cells' b ∧ ok' w b) : Reads P T cells' ok' :=
  ⟨fun hx => by obtain ⟨a, rfl, hok⟩ := h.read hx; obtain ⟨b, e, hb⟩ := g _ a hok; exact ⟨b, e, hb⟩⟩
/-- an argument of one cell -/
theorem Reads.arg {P : Program} {T : TypeId} {α : Type} {cells : α → List Value} {ok : World → α → Prop} (h : Reads P T cells ok) {H : Type} {enc : TypeId × Value → H} {w : World} {spare : Nat → Bool} {held : Bool} {v : Value} {d : DataW H} {ps : List MemPlace}
    (hd : DataW.Trod enc P w 0 spare held T v d ps) : ∃ a, v.cells.toList = cells a ∧ ok w a := by
  obtain ⟨fuel, hf⟩ := hd
  exact h.read hf
end Go.Proofs.Ytfmehahjjgalfaa
