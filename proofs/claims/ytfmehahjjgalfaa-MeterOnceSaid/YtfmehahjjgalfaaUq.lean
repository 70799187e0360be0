/- Arguments that come in: chapter 17. -/
import Derived.Test.YtfmehahjjgalfaaUn
import Derived.Test.YtfmehahjjgalfaaUp
import Derived.Test.YtfmehahjjgalfaaOp
namespace Go.Proofs.Ytfmehahjjgalfaa.Me
open Go.ChangeShapes Go.WideShapes Go.ChangeAt Go.RowKit Go.Deep

def I3 (n : Int) : Prop := -9223372036854775808 ≤ n ∧ n ≤ 9223372036854775807
theorem reads3 : Reads Try.prog 3 (fun n : Int => [.int .i64 n]) (fun _ n => I3 n) := (Reads.int Try.underlying3).conv fun _ n h => ⟨n, rfl, wf64 h⟩
theorem readsU : Reads Try.prog 56 (fun n : Nat => [.int .u32 (n : Int)]) (fun _ n => n < 4294967296) := (Reads.int Try.underlying56).conv fun _ n h => ⟨n.toNat, by rw [Int.toNat_of_nonneg (wfu32 h).1], by have := wfu32 h; omega⟩
def ctIn (_w : World) (x : Ct) : Prop := x.p.1 < 4294967296 ∧ PN.ok x.p
def rtC (p : Int × Int × SlV Ct) : List Value := [.int .i64 p.1, .int .i64 p.2.1, .slice p.2.2.a p.2.2.n p.2.2.c]
def rtIn (w : World) (p : Int × Int × SlV Ct) : Prop := SlOk RCt ctIn w p.2.2
def opIn (w : World) (y : OpM) : Prop := SlOk RCt ctIn w y.s
theorem cts_of {w : World} {s : SlV Ct} (h : SlOk RCt ctIn w s) : Cts w s.a s.n s.c s.l := ⟨h.sl, h.all⟩
set_option maxRecDepth 100000 in
theorem readsP : Reads Try.prog 58 (fun p : Nat × Int => [.int .u32 (p.1 : Int), .int .i64 p.2]) (fun _ p => p.1 < 4294967296 ∧ I3 p.2) :=
  ⟨fun {H enc w spare held fuel cs x} h => by
    obtain ⟨hl, hf⟩ := Reads.fields Try.underlying58 h
    rw [show Try.prog.cellsOf 58 = 2 by kernel_rfl] at hl
    obtain ⟨c0, c1, rfl⟩ : ∃ c0 c1, cs = [c0, c1] := by
      match cs, hl with
      | [c0, c1], _ => exact ⟨c0, c1, rfl⟩
    obtain ⟨n0, y0, h0⟩ := hf 0 _ rfl
    have h0 : DataW.trod enc Try.prog w 0 spare held n0 56 [c0] = some y0 := by
      have q : Try.prog.cellsOf 56 = 1 := by kernel_rfl
      have z : DataW.trod enc Try.prog w 0 spare held n0 56 (([c0, c1].drop 0).take (Try.prog.cellsOf 56)) = some y0 := h0
      rw [q] at z; exact z
    obtain ⟨a0, e0, k0⟩ := (readsU).read h0
    obtain ⟨n1, y1, h1⟩ := hf 1 _ rfl
    have h1 : DataW.trod enc Try.prog w 0 spare held n1 3 [c1] = some y1 := by
      have q : Try.prog.cellsOf 3 = 1 := by kernel_rfl
      have z : DataW.trod enc Try.prog w 0 spare held n1 3 (([c0, c1].drop 1).take (Try.prog.cellsOf 3)) = some y1 := h1
      rw [q] at z; exact z
    obtain ⟨a1, e1, k1⟩ := (reads3).read h1
    simp only [List.cons.injEq, and_true] at e0 e1
    subst e0
    subst e1
    exact ⟨(a0, a1), rfl, ⟨k0, k1⟩⟩⟩
set_option maxRecDepth 100000 in
theorem readsCt : Reads Try.prog 128 (RCt.cells) (ctIn) :=
  ⟨fun {H enc w spare held fuel cs x} h => by
    obtain ⟨hl, hf⟩ := Reads.fields Try.underlying128 h
    rw [show Try.prog.cellsOf 128 = 3 by kernel_rfl] at hl
    obtain ⟨c0, c1, c2, rfl⟩ : ∃ c0 c1 c2, cs = [c0, c1, c2] := by
      match cs, hl with
      | [c0, c1, c2], _ => exact ⟨c0, c1, c2, rfl⟩
    obtain ⟨n0, y0, h0⟩ := hf 0 _ rfl
    have h0 : DataW.trod enc Try.prog w 0 spare held n0 58 [c0, c1] = some y0 := by
      have q : Try.prog.cellsOf 58 = 2 := by kernel_rfl
      have z : DataW.trod enc Try.prog w 0 spare held n0 58 (([c0, c1, c2].drop 0).take (Try.prog.cellsOf 58)) = some y0 := h0
      rw [q] at z; exact z
    obtain ⟨a0, e0, k0⟩ := (readsP).read h0
    obtain ⟨n1, y1, h1⟩ := hf 1 _ rfl
    have h1 : DataW.trod enc Try.prog w 0 spare held n1 3 [c2] = some y1 := by
      have q : Try.prog.cellsOf 3 = 1 := by kernel_rfl
      have z : DataW.trod enc Try.prog w 0 spare held n1 3 (([c0, c1, c2].drop 2).take (Try.prog.cellsOf 3)) = some y1 := h1
      rw [q] at z; exact z
    obtain ⟨a1, e1, k1⟩ := (reads3).read h1
    simp only [List.cons.injEq, and_true] at e0 e1
    obtain ⟨rfl, rfl⟩ := e0
    subst e1
    exact ⟨⟨a0, a1⟩, rfl, ⟨k0.1, okK k0.1 k0.2⟩⟩⟩
theorem readsCl : Reads Try.prog 80 (fun s : SlV Ct => [.slice s.a s.n s.c]) (SlOk RCt ctIn) := Reads.slice (R := RCt) Try.underlying80 (by kernel_rfl) readsCt
set_option maxRecDepth 100000 in
theorem readsRt : Reads Try.prog 82 (rtC) (rtIn) :=
  ⟨fun {H enc w spare held fuel cs x} h => by
    obtain ⟨hl, hf⟩ := Reads.fields Try.underlying82 h
    rw [show Try.prog.cellsOf 82 = 3 by kernel_rfl] at hl
    obtain ⟨c0, c1, c2, rfl⟩ : ∃ c0 c1 c2, cs = [c0, c1, c2] := by
      match cs, hl with
      | [c0, c1, c2], _ => exact ⟨c0, c1, c2, rfl⟩
    obtain ⟨n0, y0, h0⟩ := hf 0 _ rfl
    have h0 : DataW.trod enc Try.prog w 0 spare held n0 3 [c0] = some y0 := by
      have q : Try.prog.cellsOf 3 = 1 := by kernel_rfl
      have z : DataW.trod enc Try.prog w 0 spare held n0 3 (([c0, c1, c2].drop 0).take (Try.prog.cellsOf 3)) = some y0 := h0
      rw [q] at z; exact z
    obtain ⟨a0, e0, k0⟩ := (reads3).read h0
    obtain ⟨n1, y1, h1⟩ := hf 1 _ rfl
    have h1 : DataW.trod enc Try.prog w 0 spare held n1 3 [c1] = some y1 := by
      have q : Try.prog.cellsOf 3 = 1 := by kernel_rfl
      have z : DataW.trod enc Try.prog w 0 spare held n1 3 (([c0, c1, c2].drop 1).take (Try.prog.cellsOf 3)) = some y1 := h1
      rw [q] at z; exact z
    obtain ⟨a1, e1, k1⟩ := (reads3).read h1
    obtain ⟨n2, y2, h2⟩ := hf 2 _ rfl
    have h2 : DataW.trod enc Try.prog w 0 spare held n2 80 [c2] = some y2 := by
      have q : Try.prog.cellsOf 80 = 1 := by kernel_rfl
      have z : DataW.trod enc Try.prog w 0 spare held n2 80 (([c0, c1, c2].drop 2).take (Try.prog.cellsOf 80)) = some y2 := h2
      rw [q] at z; exact z
    obtain ⟨a2, e2, k2⟩ := (readsCl).read h2
    simp only [List.cons.injEq, and_true] at e0 e1 e2
    subst e0
    subst e1
    subst e2
    exact ⟨(a0, a1, a2), rfl, k2⟩⟩
set_option maxRecDepth 100000 in
theorem readsOp : Reads Try.prog 89 (ROpM.cells) (opIn) :=
  ⟨fun {H enc w spare held fuel cs x} h => by
    obtain ⟨hl, hf⟩ := Reads.fields Try.underlying89 h
    rw [show Try.prog.cellsOf 89 = 4 by kernel_rfl] at hl
    obtain ⟨c0, c1, c2, c3, rfl⟩ : ∃ c0 c1 c2 c3, cs = [c0, c1, c2, c3] := by
      match cs, hl with
      | [c0, c1, c2, c3], _ => exact ⟨c0, c1, c2, c3, rfl⟩
    obtain ⟨n0, y0, h0⟩ := hf 0 _ rfl
    have h0 : DataW.trod enc Try.prog w 0 spare held n0 82 [c0, c1, c2] = some y0 := by
      have q : Try.prog.cellsOf 82 = 3 := by kernel_rfl
      have z : DataW.trod enc Try.prog w 0 spare held n0 82 (([c0, c1, c2, c3].drop 0).take (Try.prog.cellsOf 82)) = some y0 := h0
      rw [q] at z; exact z
    obtain ⟨a0, e0, k0⟩ := (readsRt).read h0
    obtain ⟨n1, y1, h1⟩ := hf 1 _ rfl
    have h1 : DataW.trod enc Try.prog w 0 spare held n1 3 [c3] = some y1 := by
      have q : Try.prog.cellsOf 3 = 1 := by kernel_rfl
      have z : DataW.trod enc Try.prog w 0 spare held n1 3 (([c0, c1, c2, c3].drop 3).take (Try.prog.cellsOf 3)) = some y1 := h1
      rw [q] at z; exact z
    obtain ⟨a1, e1, k1⟩ := (reads3).read h1
    simp only [List.cons.injEq, and_true] at e0 e1
    obtain ⟨rfl, rfl, rfl⟩ := e0
    subst e1
    exact ⟨⟨a0.1, a0.2.1, a0.2.2, a1⟩, rfl, k0⟩⟩
theorem readsOl : Reads Try.prog 76 (fun s : SlV OpM => [.slice s.a s.n s.c]) (SlOk ROpM opIn) := Reads.slice (R := ROpM) Try.underlying76 (by kernel_rfl) readsOp
theorem readsIl : Reads Try.prog 45 (fun s : SlV Int => [.slice s.a s.n s.c]) (SlOk RIn (fun _ n => I3 n)) := Reads.slice (R := RIn) Try.underlying45 (by kernel_rfl) reads3
theorem own : ownKnob Try.prog.godebug = none := by kernel_rfl
theorem monce_i {w : World} {p : Int × Int × SlV Ct} (h : rtIn w p) (now : Int) : Calls Try.prog 15 #[.agg (rtC p).toArray, .int .i64 now] w fun e w' => e = .returned (.bool true) ∧ Below w.heap.size w w' := monce_law (cts_of h) _ _ _
theorem mold_i {w : World} {s : SlV OpM} (h : SlOk ROpM opIn w s) {y : OpM} (hy : opIn w y) : Calls Try.prog 12 #[.slice s.a s.n s.c, .agg (ROpM.cells y).toArray] w fun e w' => e = .returned (.bool true) ∧ Below w.heap.size w w' := mold_law ⟨h.sl, fun x hx => cts_of (h.all x hx)⟩ (cts_of hy)
theorem msums_i {w : World} {s : SlV Int} (h : SlOk RIn (fun _ n => I3 n) w s) : Calls Try.prog 14 #[.slice s.a s.n s.c] w fun e w' => e = .returned (.bool true) ∧ Below w.heap.size w w' := msums_law h.sl
end Go.Proofs.Ytfmehahjjgalfaa.Me
