/- Routes that come in. -/
import Derived.Test.YtlgmoiilfigamaaWx
import Derived.Test.YtlgmoiilfigamaaOp
namespace Go.Proofs.Ytlgmoiilfigamaa
open Go.ChangeShapes Go.WideShapes Go.ChangeAt Go.RowKit

def I3 (n : Int) : Prop := -9223372036854775808 ≤ n ∧ n ≤ 9223372036854775807
theorem reads3 : Reads Try.prog 3 (fun n : Int => [.int .i64 n]) (fun _ n => I3 n) := (Reads.int Try.underlying3).conv fun _ n h => ⟨n, rfl, wf64 h⟩
theorem reads30 : Reads Try.prog 30 (fun n : Int => [.int .u32 n]) (fun _ n => 0 ≤ n ∧ n ≤ 4294967295) := (Reads.int Try.underlying30).conv fun _ n h => ⟨n, rfl, wfu32 h⟩
theorem reads4 : Reads Try.prog 4 (fun b : Bool => [.bool b]) (fun _ _ => True) := Reads.bool Try.underlying4
def RI : Rep Int := ⟨3, 1, by decide, fun n => [.int .i64 n], fun _ => rfl, fun _ => rfl⟩
theorem reads36 : Reads Try.prog 36 (fun s : SlV Int => [.slice s.a s.n s.c]) (SlOk RI fun _ n => I3 n) := Reads.slice (R := RI) Try.underlying36 (by kernel_rfl) reads3
theorem reads32 : Reads Try.prog 32 (fun p : Int × Int => [.int .u32 p.1, .int .i64 p.2]) (fun _ _ => True) :=
  ⟨fun {H enc w spare held fuel cs x} h => by
    obtain ⟨hl, hf⟩ := Reads.fields Try.underlying32 h
    rw [show Try.prog.cellsOf 32 = 2 by kernel_rfl] at hl
    obtain ⟨c0, c1, rfl⟩ : ∃ c0 c1, cs = [c0, c1] := by
      match cs, hl with
      | [c0, c1], _ => exact ⟨c0, c1, rfl⟩
    obtain ⟨n0, y0, h0⟩ := hf 0 _ rfl
    have h0 : DataW.trod enc Try.prog w 0 spare held n0 30 [c0] = some y0 := by
      have q : Try.prog.cellsOf 30 = 1 := by kernel_rfl
      have z : DataW.trod enc Try.prog w 0 spare held n0 30 (([c0, c1].drop 0).take (Try.prog.cellsOf 30)) = some y0 := h0
      rw [q] at z; exact z
    obtain ⟨a0, e0, k0⟩ := (reads30).read h0
    obtain ⟨n1, y1, h1⟩ := hf 1 _ rfl
    have h1 : DataW.trod enc Try.prog w 0 spare held n1 3 [c1] = some y1 := by
      have q : Try.prog.cellsOf 3 = 1 := by kernel_rfl
      have z : DataW.trod enc Try.prog w 0 spare held n1 3 (([c0, c1].drop 1).take (Try.prog.cellsOf 3)) = some y1 := h1
      rw [q] at z; exact z
    obtain ⟨a1, e1, k1⟩ := (reads3).read h1
    simp only [List.cons.injEq, and_true] at e0 e1
    subst e0
    subst e1
    exact ⟨(a0, a1), rfl, trivial⟩⟩
theorem reads34 : Reads Try.prog 34 (fun p : Int × (Int × Int) × Int => [.int .i64 p.1, .int .u32 p.2.1.1, .int .i64 p.2.1.2, .int .i64 p.2.2]) (fun _ _ => True) :=
  ⟨fun {H enc w spare held fuel cs x} h => by
    obtain ⟨hl, hf⟩ := Reads.fields Try.underlying34 h
    rw [show Try.prog.cellsOf 34 = 4 by kernel_rfl] at hl
    obtain ⟨c0, c1, c2, c3, rfl⟩ : ∃ c0 c1 c2 c3, cs = [c0, c1, c2, c3] := by
      match cs, hl with
      | [c0, c1, c2, c3], _ => exact ⟨c0, c1, c2, c3, rfl⟩
    obtain ⟨n0, y0, h0⟩ := hf 0 _ rfl
    have h0 : DataW.trod enc Try.prog w 0 spare held n0 3 [c0] = some y0 := by
      have q : Try.prog.cellsOf 3 = 1 := by kernel_rfl
      have z : DataW.trod enc Try.prog w 0 spare held n0 3 (([c0, c1, c2, c3].drop 0).take (Try.prog.cellsOf 3)) = some y0 := h0
      rw [q] at z; exact z
    obtain ⟨a0, e0, k0⟩ := (reads3).read h0
    obtain ⟨n1, y1, h1⟩ := hf 1 _ rfl
    have h1 : DataW.trod enc Try.prog w 0 spare held n1 32 [c1, c2] = some y1 := by
      have q : Try.prog.cellsOf 32 = 2 := by kernel_rfl
      have z : DataW.trod enc Try.prog w 0 spare held n1 32 (([c0, c1, c2, c3].drop 1).take (Try.prog.cellsOf 32)) = some y1 := h1
      rw [q] at z; exact z
    obtain ⟨a1, e1, k1⟩ := (reads32).read h1
    obtain ⟨n2, y2, h2⟩ := hf 2 _ rfl
    have h2 : DataW.trod enc Try.prog w 0 spare held n2 3 [c3] = some y2 := by
      have q : Try.prog.cellsOf 3 = 1 := by kernel_rfl
      have z : DataW.trod enc Try.prog w 0 spare held n2 3 (([c0, c1, c2, c3].drop 3).take (Try.prog.cellsOf 3)) = some y2 := h2
      rw [q] at z; exact z
    obtain ⟨a2, e2, k2⟩ := (reads3).read h2
    simp only [List.cons.injEq, and_true] at e0 e1 e2
    subst e0
    obtain ⟨rfl, rfl⟩ := e1
    subst e2
    exact ⟨(a0, a1, a2), rfl, trivial⟩⟩
theorem intsAt_of {w : World} {s : SlV Int} (h : SlOk RI (fun _ n => I3 n) w s) : IntsAt w w.heap.size s.a s.n s.l := by
  refine ⟨h.sl.len, h.sl.max, fun h0 => ?_⟩
  obtain ⟨b, o, e, hr⟩ := h.sl.row h0
  refine ⟨b, o, e, hr.lt, fun i hi => ?_⟩
  have := hr.get i (by rw [← h.sl.len]; exact hi) 0 (by decide)
  simp only [RI, Nat.mul_one, Nat.add_zero, List.getElem?_cons_zero] at this
  exact this
def segOk (w : World) (s : SegV) : Prop := IntsAt w w.heap.size s.sa s.sn s.ns ∧ ∀ n ∈ s.ns, I3 n
def R43 : Rep SegV := ⟨43, 2, by decide, fun s => [.bool s.set, .slice s.sa s.sn s.sc], fun _ => rfl, fun _ => rfl⟩
theorem reads43 : Reads Try.prog 43 (R43.cells) (segOk) :=
  ⟨fun {H enc w spare held fuel cs x} h => by
    obtain ⟨hl, hf⟩ := Reads.fields Try.underlying43 h
    rw [show Try.prog.cellsOf 43 = 2 by kernel_rfl] at hl
    obtain ⟨c0, c1, rfl⟩ : ∃ c0 c1, cs = [c0, c1] := by
      match cs, hl with
      | [c0, c1], _ => exact ⟨c0, c1, rfl⟩
    obtain ⟨n0, y0, h0⟩ := hf 0 _ rfl
    have h0 : DataW.trod enc Try.prog w 0 spare held n0 4 [c0] = some y0 := by
      have q : Try.prog.cellsOf 4 = 1 := by kernel_rfl
      have z : DataW.trod enc Try.prog w 0 spare held n0 4 (([c0, c1].drop 0).take (Try.prog.cellsOf 4)) = some y0 := h0
      rw [q] at z; exact z
    obtain ⟨a0, e0, k0⟩ := (reads4).read h0
    obtain ⟨n1, y1, h1⟩ := hf 1 _ rfl
    have h1 : DataW.trod enc Try.prog w 0 spare held n1 36 [c1] = some y1 := by
      have q : Try.prog.cellsOf 36 = 1 := by kernel_rfl
      have z : DataW.trod enc Try.prog w 0 spare held n1 36 (([c0, c1].drop 1).take (Try.prog.cellsOf 36)) = some y1 := h1
      rw [q] at z; exact z
    obtain ⟨a1, e1, k1⟩ := (reads36).read h1
    simp only [List.cons.injEq, and_true] at e0 e1
    subst e0
    subst e1
    exact ⟨⟨a0, a1.a, a1.n, a1.c, a1.l⟩, rfl, ⟨intsAt_of k1, k1.all⟩⟩⟩
theorem reads35 : Reads Try.prog 35 (fun s : SlV SegV => [.slice s.a s.n s.c]) (SlOk R43 segOk) := Reads.slice (R := R43) Try.underlying35 (by kernel_rfl) reads43
theorem pathAt_of {w : World} {s : SlV SegV} (h : SlOk R43 segOk w s) : PathAt w w.heap.size s.a s.n s.l := by
  refine ⟨h.sl.len, h.sl.max, fun h0 => ?_, fun x hx => (h.all x hx).1⟩
  obtain ⟨b, o, e, hr⟩ := h.sl.row h0
  refine ⟨b, o, e, hr.lt, fun i hi => ?_⟩
  have h1 := hr.get i (by rw [← h.sl.len]; exact hi) 0 (by decide)
  have h2 := hr.get i (by rw [← h.sl.len]; exact hi) 1 (by decide)
  simp only [R43, Nat.add_zero, List.getElem?_cons_zero, List.getElem?_cons_succ] at h1 h2
  exact ⟨h1, h2⟩
theorem pfirst_I3 {l : List SegV} (h : ∀ s ∈ l, ∀ n ∈ s.ns, I3 n) : -9223372036854775808 ≤ pfirst l ∧ pfirst l ≤ 9223372036854775807 := by
  unfold pfirst
  cases l with
  | nil => simp
  | cons s r =>
    dsimp only
    split
    · simp
    · cases hs : s.ns with
      | nil => simp
      | cons n t => exact h s (by simp) n (by rw [hs]; simp)
/-- attributes, by their fields -/
def atCells (x : Rt) : List Value := [.int .i64 x.o, .slice x.pa x.pn x.pc, .int .u32 x.nx, .int .i64 x.md, .int .i64 x.pf, .slice x.ca x.cn x.cc]
theorem reads38 : Reads Try.prog 38 (atCells) (fun w x => RtOk w w.heap.size x) :=
  ⟨fun {H enc w spare held fuel cs x} h => by
    obtain ⟨hl, hf⟩ := Reads.fields Try.underlying38 h
    rw [show Try.prog.cellsOf 38 = 6 by kernel_rfl] at hl
    obtain ⟨c0, c1, c2, c3, c4, c5, rfl⟩ : ∃ c0 c1 c2 c3 c4 c5, cs = [c0, c1, c2, c3, c4, c5] := by
      match cs, hl with
      | [c0, c1, c2, c3, c4, c5], _ => exact ⟨c0, c1, c2, c3, c4, c5, rfl⟩
    obtain ⟨n0, y0, h0⟩ := hf 0 _ rfl
    have h0 : DataW.trod enc Try.prog w 0 spare held n0 3 [c0] = some y0 := by
      have q : Try.prog.cellsOf 3 = 1 := by kernel_rfl
      have z : DataW.trod enc Try.prog w 0 spare held n0 3 (([c0, c1, c2, c3, c4, c5].drop 0).take (Try.prog.cellsOf 3)) = some y0 := h0
      rw [q] at z; exact z
    obtain ⟨a0, e0, k0⟩ := (reads3).read h0
    obtain ⟨n1, y1, h1⟩ := hf 1 _ rfl
    have h1 : DataW.trod enc Try.prog w 0 spare held n1 35 [c1] = some y1 := by
      have q : Try.prog.cellsOf 35 = 1 := by kernel_rfl
      have z : DataW.trod enc Try.prog w 0 spare held n1 35 (([c0, c1, c2, c3, c4, c5].drop 1).take (Try.prog.cellsOf 35)) = some y1 := h1
      rw [q] at z; exact z
    obtain ⟨a1, e1, k1⟩ := (reads35).read h1
    obtain ⟨n2, y2, h2⟩ := hf 2 _ rfl
    have h2 : DataW.trod enc Try.prog w 0 spare held n2 30 [c2] = some y2 := by
      have q : Try.prog.cellsOf 30 = 1 := by kernel_rfl
      have z : DataW.trod enc Try.prog w 0 spare held n2 30 (([c0, c1, c2, c3, c4, c5].drop 2).take (Try.prog.cellsOf 30)) = some y2 := h2
      rw [q] at z; exact z
    obtain ⟨a2, e2, k2⟩ := (reads30).read h2
    obtain ⟨n3, y3, h3⟩ := hf 3 _ rfl
    have h3 : DataW.trod enc Try.prog w 0 spare held n3 3 [c3] = some y3 := by
      have q : Try.prog.cellsOf 3 = 1 := by kernel_rfl
      have z : DataW.trod enc Try.prog w 0 spare held n3 3 (([c0, c1, c2, c3, c4, c5].drop 3).take (Try.prog.cellsOf 3)) = some y3 := h3
      rw [q] at z; exact z
    obtain ⟨a3, e3, k3⟩ := (reads3).read h3
    obtain ⟨n4, y4, h4⟩ := hf 4 _ rfl
    have h4 : DataW.trod enc Try.prog w 0 spare held n4 3 [c4] = some y4 := by
      have q : Try.prog.cellsOf 3 = 1 := by kernel_rfl
      have z : DataW.trod enc Try.prog w 0 spare held n4 3 (([c0, c1, c2, c3, c4, c5].drop 4).take (Try.prog.cellsOf 3)) = some y4 := h4
      rw [q] at z; exact z
    obtain ⟨a4, e4, k4⟩ := (reads3).read h4
    obtain ⟨n5, y5, h5⟩ := hf 5 _ rfl
    have h5 : DataW.trod enc Try.prog w 0 spare held n5 36 [c5] = some y5 := by
      have q : Try.prog.cellsOf 36 = 1 := by kernel_rfl
      have z : DataW.trod enc Try.prog w 0 spare held n5 36 (([c0, c1, c2, c3, c4, c5].drop 5).take (Try.prog.cellsOf 36)) = some y5 := h5
      rw [q] at z; exact z
    obtain ⟨a5, e5, k5⟩ := (reads36).read h5
    simp only [List.cons.injEq, and_true] at e0 e1 e2 e3 e4 e5
    subst e0
    subst e1
    subst e2
    subst e3
    subst e4
    subst e5
    exact ⟨⟨0, 0, 0, 0, a0, a1.a, a1.n, a1.c, a2, a3, a4, a5.a, a5.n, a5.c, a1.l, a5.l⟩, rfl, ⟨pathAt_of k1, intsAt_of k5, k4.2, pfirst_I3 fun s hs => (k1.all s hs).2⟩⟩⟩
theorem reads40 : Reads Try.prog 40 (R40.cells) (fun w x => RtOk w w.heap.size x) :=
  ⟨fun {H enc w spare held fuel cs x} h => by
    obtain ⟨hl, hf⟩ := Reads.fields Try.underlying40 h
    rw [show Try.prog.cellsOf 40 = 10 by kernel_rfl] at hl
    obtain ⟨c0, c1, c2, c3, c4, c5, c6, c7, c8, c9, rfl⟩ : ∃ c0 c1 c2 c3 c4 c5 c6 c7 c8 c9, cs = [c0, c1, c2, c3, c4, c5, c6, c7, c8, c9] := by
      match cs, hl with
      | [c0, c1, c2, c3, c4, c5, c6, c7, c8, c9], _ => exact ⟨c0, c1, c2, c3, c4, c5, c6, c7, c8, c9, rfl⟩
    obtain ⟨n0, y0, h0⟩ := hf 0 _ rfl
    have h0 : DataW.trod enc Try.prog w 0 spare held n0 34 [c0, c1, c2, c3] = some y0 := by
      have q : Try.prog.cellsOf 34 = 4 := by kernel_rfl
      have z : DataW.trod enc Try.prog w 0 spare held n0 34 (([c0, c1, c2, c3, c4, c5, c6, c7, c8, c9].drop 0).take (Try.prog.cellsOf 34)) = some y0 := h0
      rw [q] at z; exact z
    obtain ⟨a0, e0, k0⟩ := (reads34).read h0
    obtain ⟨n1, y1, h1⟩ := hf 1 _ rfl
    have h1 : DataW.trod enc Try.prog w 0 spare held n1 38 [c4, c5, c6, c7, c8, c9] = some y1 := by
      have q : Try.prog.cellsOf 38 = 6 := by kernel_rfl
      have z : DataW.trod enc Try.prog w 0 spare held n1 38 (([c0, c1, c2, c3, c4, c5, c6, c7, c8, c9].drop 4).take (Try.prog.cellsOf 38)) = some y1 := h1
      rw [q] at z; exact z
    obtain ⟨a1, e1, k1⟩ := (reads38).read h1
    simp only [List.cons.injEq, and_true] at e0 e1
    obtain ⟨rfl, rfl, rfl, rfl⟩ := e0
    obtain ⟨rfl, rfl, rfl, rfl, rfl, rfl⟩ := e1
    exact ⟨⟨a0.1, a0.2.1.1, a0.2.1.2, a0.2.2, a1.o, a1.pa, a1.pn, a1.pc, a1.nx, a1.md, a1.pf, a1.ca, a1.cn, a1.cc, a1.path, a1.comms⟩, rfl, ⟨k1.path, k1.comms, k1.pf1, k1.fr⟩⟩⟩
theorem reads22 : Reads Try.prog 22 (fun s : SlV Rt => [.slice s.a s.n s.c]) (SlOk R40 fun w x => RtOk w w.heap.size x) := Reads.slice (R := R40) Try.underlying22 (by kernel_rfl) reads40
theorem came_of {w : World} {s : SlV Rt} (h : SlOk R40 (fun w x => RtOk w w.heap.size x) w s) : Came w s.a s.n s.c s.l := ⟨h.sl, h.nil, h.all⟩
theorem own : ownKnob Try.prog.godebug = none := by kernel_rfl
theorem laidOut : laidOutB Try.prog = true := by kernel_rfl
end Go.Proofs.Ytlgmoiilfigamaa
