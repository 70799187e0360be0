/- Arguments that come in: chapter 23. -/
import Derived.Test.YtfmehahjjgalfaaDp
import Derived.Test.YtfmehahjjgalfaaOp
namespace Go.Proofs.Ytfmehahjjgalfaa
open Go.ChangeShapes Go.WideShapes Go.ChangeAt Go.RowKit Go.Deep

def I3 (n : Int) : Prop := -9223372036854775808 ≤ n ∧ n ≤ 9223372036854775807
theorem reads3 : Reads Try.prog 3 (fun n : Int => [.int .i64 n]) (fun _ n => I3 n) := (Reads.int Try.underlying3).conv fun _ n h => ⟨n, rfl, wf64 h⟩
theorem readsU : Reads Try.prog 56 (fun n : Nat => [.int .u32 (n : Int)]) (fun _ n => n < 4294967296) := (Reads.int Try.underlying56).conv fun _ n h => ⟨n.toNat, by rw [Int.toNat_of_nonneg (wfu32 h).1], by have := wfu32 h; omega⟩
def ovIn (_w : World) (o : Ov) : Prop := o.ad < 4294967296 ∧ I3 o.ln
def opIn (w : World) (y : OpT) : Prop := ovIn w y.o
theorem ov_ok {w : World} {o : Ov} (h : ovIn w o) : o.ad < 4294967296 ∧ PN.ok o.key := ⟨h.1, okK h.1 h.2⟩
set_option maxRecDepth 100000 in
theorem readsP : Reads Try.prog 58 (fun p : Nat × Int => [.int .u32 (p.1 : Int), .int .i64 p.2]) (fun _ p => p.1 < 4294967296 ∧ I3 p.2) :=
  ⟨fun {H enc w spare held fuel cs x} h => by
    obtain ⟨hl, hf⟩ := Reads.fields Try.underlying58 h
    rw [show Try.prog.cellsOf 58 = 2 by kernel_rfl] at hl
    obtain ⟨c0, c1, rfl⟩ : ∃ c0 c1, cs = [c0, c1] := by
      match cs, hl with
      | [c0, c1], _ => exact ⟨c0, c1, rfl⟩
    obtain ⟨n0, y0, h0⟩ := hf 0 _ rfl
    have h0 : DataW.trod enc Try.prog w 0 spare held n0 56 [c0] = some y0 := by
      have q : Try.prog.cellsOf 56 = 1 := by kernel_rfl
      have z : DataW.trod enc Try.prog w 0 spare held n0 56 (([c0, c1].drop 0).take (Try.prog.cellsOf 56)) = some y0 := h0
      rw [q] at z; exact z
    obtain ⟨a0, e0, k0⟩ := (readsU).read h0
    obtain ⟨n1, y1, h1⟩ := hf 1 _ rfl
    have h1 : DataW.trod enc Try.prog w 0 spare held n1 3 [c1] = some y1 := by
      have q : Try.prog.cellsOf 3 = 1 := by kernel_rfl
      have z : DataW.trod enc Try.prog w 0 spare held n1 3 (([c0, c1].drop 1).take (Try.prog.cellsOf 3)) = some y1 := h1
      rw [q] at z; exact z
    obtain ⟨a1, e1, k1⟩ := (reads3).read h1
    simp only [List.cons.injEq, and_true] at e0 e1
    subst e0
    subst e1
    exact ⟨(a0, a1), rfl, ⟨k0, k1⟩⟩⟩
set_option maxRecDepth 100000 in
theorem readsK : Reads Try.prog 60 (fun p : Int × (Nat × Int) × Int => [.int .i64 p.1, .int .u32 (p.2.1.1 : Int), .int .i64 p.2.1.2, .int .i64 p.2.2]) (fun _ p => p.2.1.1 < 4294967296 ∧ I3 p.2.1.2) :=
  ⟨fun {H enc w spare held fuel cs x} h => by
    obtain ⟨hl, hf⟩ := Reads.fields Try.underlying60 h
    rw [show Try.prog.cellsOf 60 = 4 by kernel_rfl] at hl
    obtain ⟨c0, c1, c2, c3, rfl⟩ : ∃ c0 c1 c2 c3, cs = [c0, c1, c2, c3] := by
      match cs, hl with
      | [c0, c1, c2, c3], _ => exact ⟨c0, c1, c2, c3, rfl⟩
    obtain ⟨n0, y0, h0⟩ := hf 0 _ rfl
    have h0 : DataW.trod enc Try.prog w 0 spare held n0 3 [c0] = some y0 := by
      have q : Try.prog.cellsOf 3 = 1 := by kernel_rfl
      have z : DataW.trod enc Try.prog w 0 spare held n0 3 (([c0, c1, c2, c3].drop 0).take (Try.prog.cellsOf 3)) = some y0 := h0
      rw [q] at z; exact z
    obtain ⟨a0, e0, k0⟩ := (reads3).read h0
    obtain ⟨n1, y1, h1⟩ := hf 1 _ rfl
    have h1 : DataW.trod enc Try.prog w 0 spare held n1 58 [c1, c2] = some y1 := by
      have q : Try.prog.cellsOf 58 = 2 := by kernel_rfl
      have z : DataW.trod enc Try.prog w 0 spare held n1 58 (([c0, c1, c2, c3].drop 1).take (Try.prog.cellsOf 58)) = some y1 := h1
      rw [q] at z; exact z
    obtain ⟨a1, e1, k1⟩ := (readsP).read h1
    obtain ⟨n2, y2, h2⟩ := hf 2 _ rfl
    have h2 : DataW.trod enc Try.prog w 0 spare held n2 3 [c3] = some y2 := by
      have q : Try.prog.cellsOf 3 = 1 := by kernel_rfl
      have z : DataW.trod enc Try.prog w 0 spare held n2 3 (([c0, c1, c2, c3].drop 3).take (Try.prog.cellsOf 3)) = some y2 := h2
      rw [q] at z; exact z
    obtain ⟨a2, e2, k2⟩ := (reads3).read h2
    simp only [List.cons.injEq, and_true] at e0 e1 e2
    subst e0
    obtain ⟨rfl, rfl⟩ := e1
    subst e2
    exact ⟨(a0, a1, a2), rfl, k1⟩⟩
set_option maxRecDepth 100000 in
theorem readsO : Reads Try.prog 62 (ROv.cells) (ovIn) :=
  ⟨fun {H enc w spare held fuel cs x} h => by
    obtain ⟨hl, hf⟩ := Reads.fields Try.underlying62 h
    rw [show Try.prog.cellsOf 62 = 5 by kernel_rfl] at hl
    obtain ⟨c0, c1, c2, c3, c4, rfl⟩ : ∃ c0 c1 c2 c3 c4, cs = [c0, c1, c2, c3, c4] := by
      match cs, hl with
      | [c0, c1, c2, c3, c4], _ => exact ⟨c0, c1, c2, c3, c4, rfl⟩
    obtain ⟨n0, y0, h0⟩ := hf 0 _ rfl
    have h0 : DataW.trod enc Try.prog w 0 spare held n0 60 [c0, c1, c2, c3] = some y0 := by
      have q : Try.prog.cellsOf 60 = 4 := by kernel_rfl
      have z : DataW.trod enc Try.prog w 0 spare held n0 60 (([c0, c1, c2, c3, c4].drop 0).take (Try.prog.cellsOf 60)) = some y0 := h0
      rw [q] at z; exact z
    obtain ⟨a0, e0, k0⟩ := (readsK).read h0
    obtain ⟨n1, y1, h1⟩ := hf 1 _ rfl
    have h1 : DataW.trod enc Try.prog w 0 spare held n1 3 [c4] = some y1 := by
      have q : Try.prog.cellsOf 3 = 1 := by kernel_rfl
      have z : DataW.trod enc Try.prog w 0 spare held n1 3 (([c0, c1, c2, c3, c4].drop 4).take (Try.prog.cellsOf 3)) = some y1 := h1
      rw [q] at z; exact z
    obtain ⟨a1, e1, k1⟩ := (reads3).read h1
    simp only [List.cons.injEq, and_true] at e0 e1
    obtain ⟨rfl, rfl, rfl, rfl⟩ := e0
    subst e1
    exact ⟨⟨a0.1, a0.2.1.1, a0.2.1.2, a0.2.2, a1⟩, rfl, k0⟩⟩
set_option maxRecDepth 100000 in
theorem readsOp : Reads Try.prog 64 (ROpT.cells) (opIn) :=
  ⟨fun {H enc w spare held fuel cs x} h => by
    obtain ⟨hl, hf⟩ := Reads.fields Try.underlying64 h
    rw [show Try.prog.cellsOf 64 = 7 by kernel_rfl] at hl
    obtain ⟨c0, c1, c2, c3, c4, c5, c6, rfl⟩ : ∃ c0 c1 c2 c3 c4 c5 c6, cs = [c0, c1, c2, c3, c4, c5, c6] := by
      match cs, hl with
      | [c0, c1, c2, c3, c4, c5, c6], _ => exact ⟨c0, c1, c2, c3, c4, c5, c6, rfl⟩
    obtain ⟨n0, y0, h0⟩ := hf 0 _ rfl
    have h0 : DataW.trod enc Try.prog w 0 spare held n0 3 [c0] = some y0 := by
      have q : Try.prog.cellsOf 3 = 1 := by kernel_rfl
      have z : DataW.trod enc Try.prog w 0 spare held n0 3 (([c0, c1, c2, c3, c4, c5, c6].drop 0).take (Try.prog.cellsOf 3)) = some y0 := h0
      rw [q] at z; exact z
    obtain ⟨a0, e0, k0⟩ := (reads3).read h0
    obtain ⟨n1, y1, h1⟩ := hf 1 _ rfl
    have h1 : DataW.trod enc Try.prog w 0 spare held n1 62 [c1, c2, c3, c4, c5] = some y1 := by
      have q : Try.prog.cellsOf 62 = 5 := by kernel_rfl
      have z : DataW.trod enc Try.prog w 0 spare held n1 62 (([c0, c1, c2, c3, c4, c5, c6].drop 1).take (Try.prog.cellsOf 62)) = some y1 := h1
      rw [q] at z; exact z
    obtain ⟨a1, e1, k1⟩ := (readsO).read h1
    obtain ⟨n2, y2, h2⟩ := hf 2 _ rfl
    have h2 : DataW.trod enc Try.prog w 0 spare held n2 3 [c6] = some y2 := by
      have q : Try.prog.cellsOf 3 = 1 := by kernel_rfl
      have z : DataW.trod enc Try.prog w 0 spare held n2 3 (([c0, c1, c2, c3, c4, c5, c6].drop 6).take (Try.prog.cellsOf 3)) = some y2 := h2
      rw [q] at z; exact z
    obtain ⟨a2, e2, k2⟩ := (reads3).read h2
    simp only [List.cons.injEq, and_true] at e0 e1 e2
    subst e0
    obtain ⟨rfl, rfl, rfl, rfl, rfl⟩ := e1
    subst e2
    exact ⟨⟨a0, a1, a2⟩, rfl, k1⟩⟩
theorem readsOl : Reads Try.prog 53 (fun s : SlV Ov => [.slice s.a s.n s.c]) (SlOk ROv ovIn) := Reads.slice (R := ROv) Try.underlying53 (by kernel_rfl) readsO
theorem readsOpl : Reads Try.prog 49 (fun s : SlV OpT => [.slice s.a s.n s.c]) (SlOk ROpT opIn) := Reads.slice (R := ROpT) Try.underlying49 (by kernel_rfl) readsOp
theorem own : ownKnob Try.prog.godebug = none := by kernel_rfl
theorem tdoes_i {w : World} {s : SlV OpT} (h : SlOk ROpT opIn w s) : Calls Try.prog 7 #[.slice s.a s.n s.c] w fun e w' => e = .returned (.bool true) ∧ Below w.heap.size w w' := tdoes_law ⟨h.sl, fun y hy => ov_ok (h.all y hy)⟩
theorem texpires_i {w : World} {s : SlV Ov} (h : SlOk ROv ovIn w s) (now : Int) : Calls Try.prog 8 #[.slice s.a s.n s.c, .int .i64 now] w fun e w' => e = .returned (.bool true) ∧ Below w.heap.size w w' := texpires_law ⟨h.sl, fun y hy => ov_ok (h.all y hy)⟩ now
theorem tanew_i {w : World} {a b : Ov} (ha : ovIn w a) : Calls Try.prog 10 #[.agg (ROv.cells a).toArray, .agg (ROv.cells b).toArray] w fun e w' => e = .returned (.bool true) ∧ Below w.heap.size w w' := tanew_law (b := b) (ov_ok ha).1 (ov_ok ha).2
end Go.Proofs.Ytfmehahjjgalfaa
