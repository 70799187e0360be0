/- Arguments that come in: chapter 14. -/
import Derived.Test.YtadoflcomienoaaGreatKaf
import Derived.Test.YtadoflcomienoaaGreatKab
import Derived.Test.YtadoflcomienoaaGreatKak
import Derived.Test.YtadoflcomienoaaGreatKap
import Derived.Test.YtadoflcomienoaaGreatKar
import Derived.Test.YtadoflcomienoaaGreatProg
namespace Go.Proofs.YtadoflcomienoaaGreat
open Go.ChangeShapes Go.WideShapes Go.ChangeAt Go.RowKit Go.Deep

theorem reads3 : Reads Tryz.prog 3 (fun n : Int => [.int .i64 n]) (fun _ n => I64 n) := (Reads.int Tryz.underlying3).conv fun _ n h => ⟨n, rfl, wf64 h⟩
theorem readsI : Reads Tryz.prog 3 RI.cells OkI := (Reads.int Tryz.underlying3).conv fun _ n h => ⟨n, rfl, wf64 h⟩
theorem readsBo : Reads Tryz.prog 4 (fun b : Bool => [.bool b]) (fun _ _ => True) := Reads.bool Tryz.underlying4
theorem readsU : Reads Tryz.prog 37 (fun n : Nat => [.int .u32 (n : Int)]) (fun _ n => n < 4294967296) := (Reads.int Tryz.underlying37).conv fun _ n h => ⟨n.toNat, by rw [Int.toNat_of_nonneg (wfu32 h).1], by have := wfu32 h; omega⟩
theorem readsV : Reads Tryz.prog 37 (fun n : Int => [.int .u32 n]) (fun _ n => 0 ≤ n ∧ n ≤ 4294967295) := (Reads.int Tryz.underlying37).conv fun _ n h => ⟨n, rfl, wfu32 h⟩
theorem readsIs : Reads Tryz.prog 38 (fun s : SlV Int => [.slice s.a s.n s.c]) (SlOk RI OkI) := Reads.slice (R := RI) Tryz.underlying38 (by kernel_rfl) readsI
set_option maxRecDepth 100000 in
theorem readsP : Reads Tryz.prog 58 (fun p : Nat × Int => [.int .u32 (p.1 : Int), .int .i64 p.2]) (fun _ p => p.1 < 4294967296 ∧ I64 p.2) :=
  ⟨fun {H enc w spare held fuel cs x} h => by
    obtain ⟨hl, hf⟩ := Reads.fields Tryz.underlying58 h
    rw [show Tryz.prog.cellsOf 58 = 2 by kernel_rfl] at hl
    obtain ⟨c0, c1, rfl⟩ : ∃ c0 c1, cs = [c0, c1] := by
      match cs, hl with
      | [c0, c1], _ => exact ⟨c0, c1, rfl⟩
    obtain ⟨n0, y0, h0⟩ := hf 0 _ rfl
    have h0 : DataW.trod enc Tryz.prog w 0 spare held n0 37 [c0] = some y0 := by
      have q : Tryz.prog.cellsOf 37 = 1 := by kernel_rfl
      have z : DataW.trod enc Tryz.prog w 0 spare held n0 37 (([c0, c1].drop 0).take (Tryz.prog.cellsOf 37)) = some y0 := h0
      rw [q] at z; exact z
    obtain ⟨a0, e0, k0⟩ := (readsU).read h0
    obtain ⟨n1, y1, h1⟩ := hf 1 _ rfl
    have h1 : DataW.trod enc Tryz.prog w 0 spare held n1 3 [c1] = some y1 := by
      have q : Tryz.prog.cellsOf 3 = 1 := by kernel_rfl
      have z : DataW.trod enc Tryz.prog w 0 spare held n1 3 (([c0, c1].drop 1).take (Tryz.prog.cellsOf 3)) = some y1 := h1
      rw [q] at z; exact z
    obtain ⟨a1, e1, k1⟩ := (reads3).read h1
    simp only [List.cons.injEq, and_true] at e0 e1
    subst e0
    subst e1
    exact ⟨(a0, a1), rfl, ⟨k0, k1⟩⟩⟩
set_option maxRecDepth 100000 in
theorem readsSg : Reads Tryz.prog 134 (RSg.cells) (SgOk) :=
  ⟨fun {H enc w spare held fuel cs x} h => by
    obtain ⟨hl, hf⟩ := Reads.fields Tryz.underlying134 h
    rw [show Tryz.prog.cellsOf 134 = 2 by kernel_rfl] at hl
    obtain ⟨c0, c1, rfl⟩ : ∃ c0 c1, cs = [c0, c1] := by
      match cs, hl with
      | [c0, c1], _ => exact ⟨c0, c1, rfl⟩
    obtain ⟨n0, y0, h0⟩ := hf 0 _ rfl
    have h0 : DataW.trod enc Tryz.prog w 0 spare held n0 4 [c0] = some y0 := by
      have q : Tryz.prog.cellsOf 4 = 1 := by kernel_rfl
      have z : DataW.trod enc Tryz.prog w 0 spare held n0 4 (([c0, c1].drop 0).take (Tryz.prog.cellsOf 4)) = some y0 := h0
      rw [q] at z; exact z
    obtain ⟨a0, e0, k0⟩ := (readsBo).read h0
    obtain ⟨n1, y1, h1⟩ := hf 1 _ rfl
    have h1 : DataW.trod enc Tryz.prog w 0 spare held n1 38 [c1] = some y1 := by
      have q : Tryz.prog.cellsOf 38 = 1 := by kernel_rfl
      have z : DataW.trod enc Tryz.prog w 0 spare held n1 38 (([c0, c1].drop 1).take (Tryz.prog.cellsOf 38)) = some y1 := h1
      rw [q] at z; exact z
    obtain ⟨a1, e1, k1⟩ := (readsIs).read h1
    simp only [List.cons.injEq, and_true] at e0 e1
    subst e0
    subst e1
    exact ⟨⟨a0, a1⟩, rfl, k1⟩⟩
theorem readsSgs : Reads Tryz.prog 36 (fun s : SlV SgV => [.slice s.a s.n s.c]) (SlOk RSg SgOk) := Reads.slice (R := RSg) Tryz.underlying36 (by kernel_rfl) readsSg
set_option maxRecDepth 100000 in
theorem readsAt : Reads Tryz.prog 40 (fun x : AtV => [.int .i64 x.o, .slice x.p.a x.p.n x.p.c, .int .u32 x.nx, .int .i64 x.md, .int .i64 x.pf, .slice x.c.a x.c.n x.c.c]) (AtOk) :=
  ⟨fun {H enc w spare held fuel cs x} h => by
    obtain ⟨hl, hf⟩ := Reads.fields Tryz.underlying40 h
    rw [show Tryz.prog.cellsOf 40 = 6 by kernel_rfl] at hl
    obtain ⟨c0, c1, c2, c3, c4, c5, rfl⟩ : ∃ c0 c1 c2 c3 c4 c5, cs = [c0, c1, c2, c3, c4, c5] := by
      match cs, hl with
      | [c0, c1, c2, c3, c4, c5], _ => exact ⟨c0, c1, c2, c3, c4, c5, rfl⟩
    obtain ⟨n0, y0, h0⟩ := hf 0 _ rfl
    have h0 : DataW.trod enc Tryz.prog w 0 spare held n0 3 [c0] = some y0 := by
      have q : Tryz.prog.cellsOf 3 = 1 := by kernel_rfl
      have z : DataW.trod enc Tryz.prog w 0 spare held n0 3 (([c0, c1, c2, c3, c4, c5].drop 0).take (Tryz.prog.cellsOf 3)) = some y0 := h0
      rw [q] at z; exact z
    obtain ⟨a0, e0, k0⟩ := (reads3).read h0
    obtain ⟨n1, y1, h1⟩ := hf 1 _ rfl
    have h1 : DataW.trod enc Tryz.prog w 0 spare held n1 36 [c1] = some y1 := by
      have q : Tryz.prog.cellsOf 36 = 1 := by kernel_rfl
      have z : DataW.trod enc Tryz.prog w 0 spare held n1 36 (([c0, c1, c2, c3, c4, c5].drop 1).take (Tryz.prog.cellsOf 36)) = some y1 := h1
      rw [q] at z; exact z
    obtain ⟨a1, e1, k1⟩ := (readsSgs).read h1
    obtain ⟨n2, y2, h2⟩ := hf 2 _ rfl
    have h2 : DataW.trod enc Tryz.prog w 0 spare held n2 37 [c2] = some y2 := by
      have q : Tryz.prog.cellsOf 37 = 1 := by kernel_rfl
      have z : DataW.trod enc Tryz.prog w 0 spare held n2 37 (([c0, c1, c2, c3, c4, c5].drop 2).take (Tryz.prog.cellsOf 37)) = some y2 := h2
      rw [q] at z; exact z
    obtain ⟨a2, e2, k2⟩ := (readsV).read h2
    obtain ⟨n3, y3, h3⟩ := hf 3 _ rfl
    have h3 : DataW.trod enc Tryz.prog w 0 spare held n3 3 [c3] = some y3 := by
      have q : Tryz.prog.cellsOf 3 = 1 := by kernel_rfl
      have z : DataW.trod enc Tryz.prog w 0 spare held n3 3 (([c0, c1, c2, c3, c4, c5].drop 3).take (Tryz.prog.cellsOf 3)) = some y3 := h3
      rw [q] at z; exact z
    obtain ⟨a3, e3, k3⟩ := (reads3).read h3
    obtain ⟨n4, y4, h4⟩ := hf 4 _ rfl
    have h4 : DataW.trod enc Tryz.prog w 0 spare held n4 3 [c4] = some y4 := by
      have q : Tryz.prog.cellsOf 3 = 1 := by kernel_rfl
      have z : DataW.trod enc Tryz.prog w 0 spare held n4 3 (([c0, c1, c2, c3, c4, c5].drop 4).take (Tryz.prog.cellsOf 3)) = some y4 := h4
      rw [q] at z; exact z
    obtain ⟨a4, e4, k4⟩ := (reads3).read h4
    obtain ⟨n5, y5, h5⟩ := hf 5 _ rfl
    have h5 : DataW.trod enc Tryz.prog w 0 spare held n5 38 [c5] = some y5 := by
      have q : Tryz.prog.cellsOf 38 = 1 := by kernel_rfl
      have z : DataW.trod enc Tryz.prog w 0 spare held n5 38 (([c0, c1, c2, c3, c4, c5].drop 5).take (Tryz.prog.cellsOf 38)) = some y5 := h5
      rw [q] at z; exact z
    obtain ⟨a5, e5, k5⟩ := (readsIs).read h5
    simp only [List.cons.injEq, and_true] at e0 e1 e2 e3 e4 e5
    subst e0
    subst e1
    subst e2
    subst e3
    subst e4
    subst e5
    exact ⟨⟨a0, a1, a2, a3, a4, a5⟩, rfl, ⟨k1, k5, k0, k2, k3, k4⟩⟩⟩
set_option maxRecDepth 100000 in
theorem readsNl : Reads Tryz.prog 60 (fun x : Nl => [.int .i64 x.id, .int .u32 (x.a : Int), .int .i64 x.ln]) (NlOk) :=
  ⟨fun {H enc w spare held fuel cs x} h => by
    obtain ⟨hl, hf⟩ := Reads.fields Tryz.underlying60 h
    rw [show Tryz.prog.cellsOf 60 = 3 by kernel_rfl] at hl
    obtain ⟨c0, c1, c2, rfl⟩ : ∃ c0 c1 c2, cs = [c0, c1, c2] := by
      match cs, hl with
      | [c0, c1, c2], _ => exact ⟨c0, c1, c2, rfl⟩
    obtain ⟨n0, y0, h0⟩ := hf 0 _ rfl
    have h0 : DataW.trod enc Tryz.prog w 0 spare held n0 3 [c0] = some y0 := by
      have q : Tryz.prog.cellsOf 3 = 1 := by kernel_rfl
      have z : DataW.trod enc Tryz.prog w 0 spare held n0 3 (([c0, c1, c2].drop 0).take (Tryz.prog.cellsOf 3)) = some y0 := h0
      rw [q] at z; exact z
    obtain ⟨a0, e0, k0⟩ := (reads3).read h0
    obtain ⟨n1, y1, h1⟩ := hf 1 _ rfl
    have h1 : DataW.trod enc Tryz.prog w 0 spare held n1 58 [c1, c2] = some y1 := by
      have q : Tryz.prog.cellsOf 58 = 2 := by kernel_rfl
      have z : DataW.trod enc Tryz.prog w 0 spare held n1 58 (([c0, c1, c2].drop 1).take (Tryz.prog.cellsOf 58)) = some y1 := h1
      rw [q] at z; exact z
    obtain ⟨a1, e1, k1⟩ := (readsP).read h1
    simp only [List.cons.injEq, and_true] at e0 e1
    subst e0
    obtain ⟨rfl, rfl⟩ := e1
    exact ⟨⟨a0, a1.1, a1.2⟩, rfl, ⟨k1.1, k0, k1.2⟩⟩⟩
theorem readsNls : Reads Tryz.prog 35 (fun s : SlV Nl => [.slice s.a s.n s.c]) (SlOk RNl NlOk) := Reads.slice (R := RNl) Tryz.underlying35 (by kernel_rfl) readsNl
set_option maxRecDepth 100000 in
theorem readsUp : Reads Tryz.prog 42 (fun x : UpV => [.slice x.g.a x.g.n x.g.c, .slice x.r.a x.r.n x.r.c, .int .i64 x.a.o, .slice x.a.p.a x.a.p.n x.a.p.c, .int .u32 x.a.nx, .int .i64 x.a.md, .int .i64 x.a.pf, .slice x.a.c.a x.a.c.n x.a.c.c, .bool x.soft]) (UpOk) :=
  ⟨fun {H enc w spare held fuel cs x} h => by
    obtain ⟨hl, hf⟩ := Reads.fields Tryz.underlying42 h
    rw [show Tryz.prog.cellsOf 42 = 9 by kernel_rfl] at hl
    obtain ⟨c0, c1, c2, c3, c4, c5, c6, c7, c8, rfl⟩ : ∃ c0 c1 c2 c3 c4 c5 c6 c7 c8, cs = [c0, c1, c2, c3, c4, c5, c6, c7, c8] := by
      match cs, hl with
      | [c0, c1, c2, c3, c4, c5, c6, c7, c8], _ => exact ⟨c0, c1, c2, c3, c4, c5, c6, c7, c8, rfl⟩
    obtain ⟨n0, y0, h0⟩ := hf 0 _ rfl
    have h0 : DataW.trod enc Tryz.prog w 0 spare held n0 35 [c0] = some y0 := by
      have q : Tryz.prog.cellsOf 35 = 1 := by kernel_rfl
      have z : DataW.trod enc Tryz.prog w 0 spare held n0 35 (([c0, c1, c2, c3, c4, c5, c6, c7, c8].drop 0).take (Tryz.prog.cellsOf 35)) = some y0 := h0
      rw [q] at z; exact z
    obtain ⟨a0, e0, k0⟩ := (readsNls).read h0
    obtain ⟨n1, y1, h1⟩ := hf 1 _ rfl
    have h1 : DataW.trod enc Tryz.prog w 0 spare held n1 35 [c1] = some y1 := by
      have q : Tryz.prog.cellsOf 35 = 1 := by kernel_rfl
      have z : DataW.trod enc Tryz.prog w 0 spare held n1 35 (([c0, c1, c2, c3, c4, c5, c6, c7, c8].drop 1).take (Tryz.prog.cellsOf 35)) = some y1 := h1
      rw [q] at z; exact z
    obtain ⟨a1, e1, k1⟩ := (readsNls).read h1
    obtain ⟨n2, y2, h2⟩ := hf 2 _ rfl
    have h2 : DataW.trod enc Tryz.prog w 0 spare held n2 40 [c2, c3, c4, c5, c6, c7] = some y2 := by
      have q : Tryz.prog.cellsOf 40 = 6 := by kernel_rfl
      have z : DataW.trod enc Tryz.prog w 0 spare held n2 40 (([c0, c1, c2, c3, c4, c5, c6, c7, c8].drop 2).take (Tryz.prog.cellsOf 40)) = some y2 := h2
      rw [q] at z; exact z
    obtain ⟨a2, e2, k2⟩ := (readsAt).read h2
    obtain ⟨n3, y3, h3⟩ := hf 3 _ rfl
    have h3 : DataW.trod enc Tryz.prog w 0 spare held n3 4 [c8] = some y3 := by
      have q : Tryz.prog.cellsOf 4 = 1 := by kernel_rfl
      have z : DataW.trod enc Tryz.prog w 0 spare held n3 4 (([c0, c1, c2, c3, c4, c5, c6, c7, c8].drop 8).take (Tryz.prog.cellsOf 4)) = some y3 := h3
      rw [q] at z; exact z
    obtain ⟨a3, e3, k3⟩ := (readsBo).read h3
    simp only [List.cons.injEq, and_true] at e0 e1 e2 e3
    subst e0
    subst e1
    obtain ⟨rfl, rfl, rfl, rfl, rfl, rfl⟩ := e2
    subst e3
    exact ⟨⟨a0, a1, a2, a3⟩, rfl, ⟨k0, k1, k2⟩⟩⟩
set_option maxRecDepth 100000 in
theorem readsKy : Reads Tryz.prog 62 (fun p : Int × (Nat × Int) × Int => [.int .i64 p.1, .int .u32 (p.2.1.1 : Int), .int .i64 p.2.1.2, .int .i64 p.2.2]) (fun _ p => I64 p.1 ∧ (p.2.1.1 < 4294967296 ∧ I64 p.2.1.2) ∧ I64 p.2.2) :=
  ⟨fun {H enc w spare held fuel cs x} h => by
    obtain ⟨hl, hf⟩ := Reads.fields Tryz.underlying62 h
    rw [show Tryz.prog.cellsOf 62 = 4 by kernel_rfl] at hl
    obtain ⟨c0, c1, c2, c3, rfl⟩ : ∃ c0 c1 c2 c3, cs = [c0, c1, c2, c3] := by
      match cs, hl with
      | [c0, c1, c2, c3], _ => exact ⟨c0, c1, c2, c3, rfl⟩
    obtain ⟨n0, y0, h0⟩ := hf 0 _ rfl
    have h0 : DataW.trod enc Tryz.prog w 0 spare held n0 3 [c0] = some y0 := by
      have q : Tryz.prog.cellsOf 3 = 1 := by kernel_rfl
      have z : DataW.trod enc Tryz.prog w 0 spare held n0 3 (([c0, c1, c2, c3].drop 0).take (Tryz.prog.cellsOf 3)) = some y0 := h0
      rw [q] at z; exact z
    obtain ⟨a0, e0, k0⟩ := (reads3).read h0
    obtain ⟨n1, y1, h1⟩ := hf 1 _ rfl
    have h1 : DataW.trod enc Tryz.prog w 0 spare held n1 58 [c1, c2] = some y1 := by
      have q : Tryz.prog.cellsOf 58 = 2 := by kernel_rfl
      have z : DataW.trod enc Tryz.prog w 0 spare held n1 58 (([c0, c1, c2, c3].drop 1).take (Tryz.prog.cellsOf 58)) = some y1 := h1
      rw [q] at z; exact z
    obtain ⟨a1, e1, k1⟩ := (readsP).read h1
    obtain ⟨n2, y2, h2⟩ := hf 2 _ rfl
    have h2 : DataW.trod enc Tryz.prog w 0 spare held n2 3 [c3] = some y2 := by
      have q : Tryz.prog.cellsOf 3 = 1 := by kernel_rfl
      have z : DataW.trod enc Tryz.prog w 0 spare held n2 3 (([c0, c1, c2, c3].drop 3).take (Tryz.prog.cellsOf 3)) = some y2 := h2
      rw [q] at z; exact z
    obtain ⟨a2, e2, k2⟩ := (reads3).read h2
    simp only [List.cons.injEq, and_true] at e0 e1 e2
    subst e0
    obtain ⟨rfl, rfl⟩ := e1
    subst e2
    exact ⟨(a0, a1, a2), rfl, ⟨k0, k1, k2⟩⟩⟩
structure OpV where
  k : Int
  r : Int
  u : UpV
deriving Inhabited
def ROp : Rep OpV := ⟨53, 11, by decide, fun x => [.int .i64 x.k, .int .i64 x.r, .slice x.u.g.a x.u.g.n x.u.g.c, .slice x.u.r.a x.u.r.n x.u.r.c, .int .i64 x.u.a.o, .slice x.u.a.p.a x.u.a.p.n x.u.a.p.c, .int .u32 x.u.a.nx, .int .i64 x.u.a.md, .int .i64 x.u.a.pf, .slice x.u.a.c.a x.u.a.c.n x.u.a.c.c, .bool x.u.soft], fun _ => rfl, fun _ => rfl⟩
def OpOk (w : World) (x : OpV) : Prop := I64 x.k ∧ I64 x.r ∧ UpOk w x.u
set_option maxRecDepth 100000 in
theorem readsOp : Reads Tryz.prog 53 (fun x : OpV => [.int .i64 x.k, .int .i64 x.r, .slice x.u.g.a x.u.g.n x.u.g.c, .slice x.u.r.a x.u.r.n x.u.r.c, .int .i64 x.u.a.o, .slice x.u.a.p.a x.u.a.p.n x.u.a.p.c, .int .u32 x.u.a.nx, .int .i64 x.u.a.md, .int .i64 x.u.a.pf, .slice x.u.a.c.a x.u.a.c.n x.u.a.c.c, .bool x.u.soft]) (OpOk) :=
  ⟨fun {H enc w spare held fuel cs x} h => by
    obtain ⟨hl, hf⟩ := Reads.fields Tryz.underlying53 h
    rw [show Tryz.prog.cellsOf 53 = 11 by kernel_rfl] at hl
    obtain ⟨c0, c1, c2, c3, c4, c5, c6, c7, c8, c9, c10, rfl⟩ : ∃ c0 c1 c2 c3 c4 c5 c6 c7 c8 c9 c10, cs = [c0, c1, c2, c3, c4, c5, c6, c7, c8, c9, c10] := by
      match cs, hl with
      | [c0, c1, c2, c3, c4, c5, c6, c7, c8, c9, c10], _ => exact ⟨c0, c1, c2, c3, c4, c5, c6, c7, c8, c9, c10, rfl⟩
    obtain ⟨n0, y0, h0⟩ := hf 0 _ rfl
    have h0 : DataW.trod enc Tryz.prog w 0 spare held n0 3 [c0] = some y0 := by
      have q : Tryz.prog.cellsOf 3 = 1 := by kernel_rfl
      have z : DataW.trod enc Tryz.prog w 0 spare held n0 3 (([c0, c1, c2, c3, c4, c5, c6, c7, c8, c9, c10].drop 0).take (Tryz.prog.cellsOf 3)) = some y0 := h0
      rw [q] at z; exact z
    obtain ⟨a0, e0, k0⟩ := (reads3).read h0
    obtain ⟨n1, y1, h1⟩ := hf 1 _ rfl
    have h1 : DataW.trod enc Tryz.prog w 0 spare held n1 3 [c1] = some y1 := by
      have q : Tryz.prog.cellsOf 3 = 1 := by kernel_rfl
      have z : DataW.trod enc Tryz.prog w 0 spare held n1 3 (([c0, c1, c2, c3, c4, c5, c6, c7, c8, c9, c10].drop 1).take (Tryz.prog.cellsOf 3)) = some y1 := h1
      rw [q] at z; exact z
    obtain ⟨a1, e1, k1⟩ := (reads3).read h1
    obtain ⟨n2, y2, h2⟩ := hf 2 _ rfl
    have h2 : DataW.trod enc Tryz.prog w 0 spare held n2 42 [c2, c3, c4, c5, c6, c7, c8, c9, c10] = some y2 := by
      have q : Tryz.prog.cellsOf 42 = 9 := by kernel_rfl
      have z : DataW.trod enc Tryz.prog w 0 spare held n2 42 (([c0, c1, c2, c3, c4, c5, c6, c7, c8, c9, c10].drop 2).take (Tryz.prog.cellsOf 42)) = some y2 := h2
      rw [q] at z; exact z
    obtain ⟨a2, e2, k2⟩ := (readsUp).read h2
    simp only [List.cons.injEq, and_true] at e0 e1 e2
    subst e0
    subst e1
    obtain ⟨rfl, rfl, rfl, rfl, rfl, rfl, rfl, rfl, rfl⟩ := e2
    exact ⟨⟨a0, a1, a2⟩, rfl, ⟨k0, k1, k2⟩⟩⟩
theorem readsOps : Reads Tryz.prog 46 (fun s : SlV OpV => [.slice s.a s.n s.c]) (SlOk ROp OpOk) := Reads.slice (R := ROp) Tryz.underlying46 (by kernel_rfl) readsOp
theorem own : ownKnob Tryz.prog.godebug = none := by kernel_rfl
end Go.Proofs.YtadoflcomienoaaGreat
/- Whether an AS is on a path, as the reference tells. -/
namespace Go.Proofs.YtadoflcomienoaaGreat
open Go.RowKit

set_option maxRecDepth 100000 in
set_option maxHeartbeats 4000000 in
theorem rhas_any {w : World} {x : AtV} (hx : AtOk w x) (asn : Int) : Calls Tryz.prog 42 #[x.v, .int .i64 asn] w fun e w' => e = .returned (.bool (hasAS x.at asn)) ∧ Below w.heap.size w w' := by
  have hal := (Below.refl w.heap.size w).alloc (Nat.le_refl _) (.cells #[.int .i64 x.o, .slice x.p.a x.p.n x.p.c, .int .u32 x.nx, .int .i64 x.md, .int .i64 x.pf, .slice x.c.a x.c.n x.c.c] 40)
  have hX : BxA w.heap.size x (w.alloc (.cells #[.int .i64 x.o, .slice x.p.a x.p.n x.p.c, .int .u32 x.nx, .int .i64 x.md, .int .i64 x.pf, .slice x.c.a x.c.n x.c.c] 40)) := hnew _ _
  have hx' := hx.keep hal
  have F := Lib.hid (And.intro hal hx')
  obtain ⟨c0, c1, c2, c3, c4, c5⟩ := hX.cells
  have HL := Lib.hid (show x.p.n = x.p.l.length from hx.p.sl.len)
  have hmax : x.p.n ≤ maxLen := hx.p.sl.max
  obtain ⟨v, hv⟩ : ∃ v, hasAS x.at asn = v := ⟨_, rfl⟩
  rw [hv]
  have hany : (x.p.l.any fun y => y.s.l.any fun n => decide (n = asn)) = v := by
    rw [← hv]
    unfold hasAS AtV.at
    dsimp only
    rw [List.any_map]
    rfl
  have HV := Lib.hid hany
  unfold AtV.v
  clear hal hX hx' hx hv hany c0 c2 c3 c4 c5
  go_enter Tryz.func42, Tryz.ntmps42
  go_wp2_with fail
  generalize w.alloc (.cells #[.int .i64 x.o, .slice x.p.a x.p.n x.p.c, .int .u32 x.nx, .int .i64 x.md, .int .i64 x.pf, .slice x.c.a x.c.n x.c.c] 40) = W at *
  go_loopw [5] (fun iv wr => ∃ i : Nat, i ≤ x.p.n ∧ iv = .int .i64 i ∧ (∀ j, j < i → ((x.p.l.getD j default).s.l.any fun n => decide (n = asn)) = false) ∧ wr = W) (fun iv _ => x.p.n - (intOf iv).toNat)
  case atStart => exact ⟨0, Nat.zero_le _, rfl, (fun j hj => absurd hj (Nat.not_lt_zero _)), by first | exact trivial | rfl⟩
  case round =>
    obtain ⟨i, hi, rfl, hall, hw⟩ := hrel
    have hw := hw.symm
    subst hw
    by_cases hlt : i < x.p.n
    · have hil : ((i : Int) < (x.p.n : Int)) = True := by simp; omega
      have hi0 : ((0 : Int) ≤ (i : Int)) = True := by simp
      have hw3 := wrapS hlt hmax
      obtain ⟨b0, o0, ea, hbb, hat⟩ := F.out.2.p.sl.at hlt
      have hok := F.out.2.p.all _ (getD_mem (show i < x.p.l.length by rw [← HL.out]; exact hlt))
      obtain ⟨y, hy⟩ : ∃ y, x.p.l.getD i default = y := ⟨_, rfl⟩
      rw [hy] at hat hok
      have s1 := hat 1 (by decide)
      simp only [RSg, List.getElem?_cons_zero, List.getElem?_cons_succ] at s1
      have hym : y.s.n ≤ maxLen := hok.sl.max
      have HY := Lib.hid (And.intro hy (And.intro hall (And.intro hok (show y.s.n = y.s.l.length from hok.sl.len))))
      rw [ea] at c1 ⊢
      clear hy hall hok hat hbb
      go_wp2_with fail
      go_loopw [6] (fun jv wr => ∃ j : Nat, j ≤ y.s.n ∧ jv = .int .i64 j ∧ (∀ k, k < j → y.s.l.getD k default ≠ asn) ∧ wr = W) (fun jv _ => y.s.n - (intOf jv).toNat)
      case atStart => exact ⟨0, Nat.zero_le _, rfl, (fun j hj => absurd hj (Nat.not_lt_zero _)), by first | exact trivial | rfl⟩
      case round =>
        obtain ⟨j, hj, rfl, hno, hw⟩ := hrel
        have hw := hw.symm
        subst hw
        by_cases hjt : j < y.s.n
        · have hjl : ((j : Int) < (y.s.n : Int)) = True := by simp; omega
          have hj0 : ((0 : Int) ≤ (j : Int)) = True := by simp
          have hj3 := wrapS hjt hym
          obtain ⟨b2, o2, eb, hbb, hat⟩ := HY.out.2.2.1.sl.at hjt
          obtain ⟨z, hz⟩ : ∃ z, y.s.l.getD j default = z := ⟨_, rfl⟩
          rw [hz] at hat
          have d0 := hat 0 (by decide)
          simp only [RI, Nat.add_zero, List.getElem?_cons_zero, Nat.mul_one] at d0
          rw [eb] at s1
          have HN := Lib.hid (And.intro hno hz)
          clear hno hz hat hbb
          by_cases hza : z = asn
          · have e1 : (z == asn) = true := by simp [hza]
            have HZ := Lib.hid hza
            clear hza
            go_wp2_with fail
            go_ret
            refine ⟨ret_bool ?_, F.out.1⟩
            rw [← HV.out]
            refine (List.any_eq_true.2 ⟨y, ?_, List.any_eq_true.2 ⟨z, ?_, by simp [HZ.out]⟩⟩).symm
            · rw [← HY.out.1]; exact getD_mem (by rw [← HL.out]; exact hlt)
            · rw [← HN.out.2]; exact getD_mem (by rw [← HY.out.2.2.2]; exact hjt)
          · have e1 : (z == asn) = false := by simpa using hza
            have HZ := Lib.hid hza
            clear hza
            go_wp2_with fail
            exact ⟨⟨j + 1, hjt, by first | rw [hj3] | rw [Int.natCast_succ], (fun k hk => (Nat.lt_succ_iff_lt_or_eq.1 hk).elim (HN.out.1 k) (fun e => by rw [e, HN.out.2]; exact HZ.out)), by first | exact trivial | rfl⟩, by first | (rw [hj3]; exact mSucc hjt) | (rw [← Int.natCast_succ]; exact mSucc hjt)⟩
        · obtain rfl : j = y.s.n := by omega
          have hjl : ((y.s.n : Int) < (y.s.n : Int)) = False := by simp
          have HN := Lib.hid hno
          clear hno
          go_wp2_with fail
          refine ⟨⟨i + 1, hlt, by first | rw [hw3] | rw [Int.natCast_succ], (fun k hk => (Nat.lt_succ_iff_lt_or_eq.1 hk).elim (HY.out.2.1 k) (fun e => ?_)), by first | exact trivial | rfl⟩, by first | (rw [hw3]; exact mSucc hlt) | (rw [← Int.natCast_succ]; exact mSucc hlt)⟩
          rw [e, HY.out.1, List.any_eq_false]
          intro z hz
          obtain ⟨q, hq, rfl⟩ := List.getElem_of_mem hz
          have h1 := HN.out q (by rw [HY.out.2.2.2]; exact hq)
          rw [List.getD_eq_getElem?_getD, List.getElem?_eq_getElem hq, Option.getD_some] at h1
          simpa using h1
    · obtain rfl : i = x.p.n := by omega
      have hil : ((x.p.n : Int) < (x.p.n : Int)) = False := by simp
      have HB := Lib.hid hall
      clear hall
      go_wp2_with fail
      go_ret
      refine ⟨ret_bool ?_, F.out.1⟩
      rw [← HV.out]
      refine (List.any_eq_false.2 fun y hy => ?_).symm
      obtain ⟨q, hq, rfl⟩ := List.getElem_of_mem hy
      have h1 := HB.out q (by rw [HL.out]; exact hq)
      rw [List.getD_eq_getElem?_getD, List.getElem?_eq_getElem hq, Option.getD_some] at h1
      rw [h1]
      simp
end Go.Proofs.YtadoflcomienoaaGreat
/- May, as the reference tells. -/
namespace Go.Proofs.YtadoflcomienoaaGreat
open Go.RowKit

structure MyS (w : World) (x : UpV) (W : World) : Prop where
  b : Below w.heap.size w W
  ok : UpOk W x
  bx : BxU w.heap.size x W
theorem MyS.keep {w : World} {x : UpV} {W W' : World} (h : MyS w x W) (hb : Below W.heap.size W W') : MyS w x W' := ⟨bcall h.b (Nat.le_refl _) hb, h.ok.keep hb, h.bx.keep hb⟩
set_option maxRecDepth 100000 in
set_option maxHeartbeats 8000000 in
theorem rmay_any {w : World} {x : UpV} (hx : UpOk w x) (r : Int) : Calls Tryz.prog 35 #[.int .i64 r, x.v] w fun e w' => e = .returned (.bool (mayR r x.up)) ∧ Below w.heap.size w w' := by
  have hal := (Below.refl w.heap.size w).alloc (Nat.le_refl _) (.cells #[.slice x.g.a x.g.n x.g.c, .slice x.r.a x.r.n x.r.c, .int .i64 x.a.o, .slice x.a.p.a x.a.p.n x.a.p.c, .int .u32 x.a.nx, .int .i64 x.a.md, .int .i64 x.a.pf, .slice x.a.c.a x.a.c.n x.a.c.c, .bool x.soft] 42)
  have hX : BxU w.heap.size x (w.alloc (.cells #[.slice x.g.a x.g.n x.g.c, .slice x.r.a x.r.n x.r.c, .int .i64 x.a.o, .slice x.a.p.a x.a.p.n x.a.p.c, .int .u32 x.a.nx, .int .i64 x.a.md, .int .i64 x.a.pf, .slice x.a.c.a x.a.c.n x.a.c.c, .bool x.soft] 42)) := hnew _ _
  have G1 := Lib.hid (show MyS w x (w.alloc (.cells #[.slice x.g.a x.g.n x.g.c, .slice x.r.a x.r.n x.r.c, .int .i64 x.a.o, .slice x.a.p.a x.a.p.n x.a.p.c, .int .u32 x.a.nx, .int .i64 x.a.md, .int .i64 x.a.pf, .slice x.a.c.a x.a.c.n x.a.c.c, .bool x.soft] 42)) from ⟨hal, hx.keep hal, hX⟩)
  obtain ⟨v, hv⟩ : ∃ v, mayR r x.up = v := ⟨_, rfl⟩
  rw [hv]
  have HV := Lib.hid hv
  obtain ⟨c0, c1, c2, c3, c4, c5, c6, c7, c8⟩ := hX.cells
  unfold UpV.v
  clear hal hX hv hx
  go_enter Tryz.func35, Tryz.ntmps35
  go_wp2_with fail
  clear c0 c1 c2 c3 c4 c5 c6 c7 c8
  go_loopw [5] (fun iv wr => ∃ i : Nat, i ≤ x.g.n ∧ iv = .int .i64 i ∧ (x.g.l.take i).all (okN true) = true ∧ MyS w x wr) (fun iv _ => x.g.n - (intOf iv).toNat)
  case atStart => exact ⟨0, Nat.zero_le _, rfl, rfl, G1.out⟩
  case round =>
    obtain ⟨i, hi, rfl, hall, hS⟩ := hrel
    obtain ⟨w2, rfl⟩ : ∃ w2 : World, w2 = wr := ⟨_, rfl⟩
    have hbx := hS.bx
    obtain ⟨c0, c1, c2, c3, c4, c5, c6, c7, c8⟩ := hbx.cells
    by_cases hlt : i < x.g.n
    · have hil : ((i : Int) < (x.g.n : Int)) = True := by simp; omega
      have hi0 : ((0 : Int) ≤ (i : Int)) = True := by simp
      have hw3 := wrapS hlt (show x.g.n ≤ maxLen from hS.ok.g.sl.max)
      have hiL : i < x.g.l.length := by have := hS.ok.g.sl.len; omega
      obtain ⟨b, o, ea, hbb, hat⟩ := hS.ok.g.sl.at hlt
      obtain ⟨nn, hnn⟩ : ∃ nn, x.g.l.getD i default = nn := ⟨_, rfl⟩
      rw [hnn] at hat
      have hmem : nn ∈ x.g.l := by rw [← hnn]; exact getD_mem hiL
      have HC := one_any true nn (hS.ok.g.all nn hmem).1 w2
      unfold Nl.v at HC
      have t1 := all_take_s x.g.l (okN true) i hiL
      rw [hall, Bool.true_and, hnn] at t1
      obtain ⟨bo, hbo⟩ : ∃ bo, okN true nn = bo := ⟨_, rfl⟩
      rw [hbo] at HC t1
      have HC := Lib.hid HC
      have HK := Lib.hid (And.intro t1 (And.intro hmem (And.intro hbo hS)))
      have d0 := hat 0 (by decide)
      have d1 := hat 1 (by decide)
      have d2 := hat 2 (by decide)
      simp only [RNl, Nat.add_zero, List.getElem?_cons_zero, List.getElem?_cons_succ] at d0 d1 d2
      rw [ea] at c0
      clear hbx hall hS hiL hbb hat hnn hmem t1 hbo ea
      go_wp2_with fail
      refine (HC.out).mono ?_
      rintro e w5 ⟨rfl, hb⟩
      have HS5 := Lib.hid (HK.out.2.2.2.keep hb)
      clear hb HC c0 c1 c2 c3 c4 c5 c6 c7 c8 d0 d1 d2
      cases bo with
      | true =>
        go_wp2_with fail
        exact ⟨⟨i + 1, hlt, by first | rw [hw3] | rw [Int.natCast_succ], HK.out.1, HS5.out⟩, by first | (rw [hw3]; exact mSucc hlt) | (rw [← Int.natCast_succ]; exact mSucc hlt)⟩
      | false =>
        go_wp2_with fail
        go_ret
        have hno : x.g.l.all (okN true) = false := by
          rw [List.all_eq_false]
          exact ⟨_, HK.out.2.1, by simp [HK.out.2.2.1]⟩
        exact ⟨ret_bool (by rw [← HV.out]; unfold mayR oddR UpV.up; dsimp only; rw [hno]; simp), HS5.out.b⟩
    · obtain rfl : i = x.g.n := by omega
      have hil : ((x.g.n : Int) < (x.g.n : Int)) = False := by simp
      have hal1 : x.g.l.all (okN true) = true := by
        rw [List.take_of_length_le (by have := hS.ok.g.sl.len; omega)] at hall
        exact hall
      have HA1 := Lib.hid hal1
      have G2 := Lib.hid hS
      clear hall hS hal1 hi hbx
      go_wp2_with fail
      clear c0 c1 c2 c3 c4 c5 c6 c7 c8
      go_loopw [6] (fun iv wr => ∃ i : Nat, i ≤ x.r.n ∧ iv = .int .i64 i ∧ (x.r.l.take i).all (okN true) = true ∧ MyS w x wr) (fun iv _ => x.r.n - (intOf iv).toNat)
      case atStart => exact ⟨0, Nat.zero_le _, rfl, rfl, G2.out⟩
      case round =>
        obtain ⟨i, hi, rfl, hall, hS⟩ := hrel
        obtain ⟨w2, rfl⟩ : ∃ w2 : World, w2 = wr := ⟨_, rfl⟩
        have hbx := hS.bx
        obtain ⟨c0, c1, c2, c3, c4, c5, c6, c7, c8⟩ := hbx.cells
        by_cases hlt : i < x.r.n
        · have hil : ((i : Int) < (x.r.n : Int)) = True := by simp; omega
          have hi0 : ((0 : Int) ≤ (i : Int)) = True := by simp
          have hw3 := wrapS hlt (show x.r.n ≤ maxLen from hS.ok.r.sl.max)
          have hiL : i < x.r.l.length := by have := hS.ok.r.sl.len; omega
          obtain ⟨b, o, ea, hbb, hat⟩ := hS.ok.r.sl.at hlt
          obtain ⟨nn, hnn⟩ : ∃ nn, x.r.l.getD i default = nn := ⟨_, rfl⟩
          rw [hnn] at hat
          have hmem : nn ∈ x.r.l := by rw [← hnn]; exact getD_mem hiL
          have HC := one_any true nn (hS.ok.r.all nn hmem).1 w2
          unfold Nl.v at HC
          have t1 := all_take_s x.r.l (okN true) i hiL
          rw [hall, Bool.true_and, hnn] at t1
          obtain ⟨bo, hbo⟩ : ∃ bo, okN true nn = bo := ⟨_, rfl⟩
          rw [hbo] at HC t1
          have HC := Lib.hid HC
          have HK := Lib.hid (And.intro t1 (And.intro hmem (And.intro hbo hS)))
          have d0 := hat 0 (by decide)
          have d1 := hat 1 (by decide)
          have d2 := hat 2 (by decide)
          simp only [RNl, Nat.add_zero, List.getElem?_cons_zero, List.getElem?_cons_succ] at d0 d1 d2
          rw [ea] at c1
          clear hbx hall hS hiL hbb hat hnn hmem t1 hbo ea
          go_wp2_with fail
          refine (HC.out).mono ?_
          rintro e w5 ⟨rfl, hb⟩
          have HS5 := Lib.hid (HK.out.2.2.2.keep hb)
          clear hb HC c0 c1 c2 c3 c4 c5 c6 c7 c8 d0 d1 d2
          cases bo with
          | true =>
            go_wp2_with fail
            exact ⟨⟨i + 1, hlt, by first | rw [hw3] | rw [Int.natCast_succ], HK.out.1, HS5.out⟩, by first | (rw [hw3]; exact mSucc hlt) | (rw [← Int.natCast_succ]; exact mSucc hlt)⟩
          | false =>
            go_wp2_with fail
            go_ret
            have hno : x.r.l.all (okN true) = false := by
              rw [List.all_eq_false]
              exact ⟨_, HK.out.2.1, by simp [HK.out.2.2.1]⟩
            exact ⟨ret_bool (by rw [← HV.out]; unfold mayR oddR UpV.up; dsimp only; rw [hno]; simp), HS5.out.b⟩
        · obtain rfl : i = x.r.n := by omega
          have hil : ((x.r.n : Int) < (x.r.n : Int)) = False := by simp
          have hal2 : x.r.l.all (okN true) = true := by
            rw [List.take_of_length_le (by have := hS.ok.r.sl.len; omega)] at hall
            exact hall
          have HA2 := Lib.hid hal2
          have G3 := Lib.hid hS
          clear hall hS hal2 hi hbx
          have HCK := racheck_any G3.out.ok.a true
          obtain ⟨ao, hao⟩ : ∃ b, okA true x.a.at = b := ⟨_, rfl⟩
          rw [hao] at HCK
          unfold AtV.v at HCK
          have HCK := Lib.hid HCK
          have hvv : v = ((decide (0 ≤ r) && decide (r < 16)) && (decide (x.r.l.length = 0) || (!x.soft && ao))) := by
            rw [← HV.out]
            unfold mayR oddR UpV.up
            dsimp only
            rw [HA1.out, HA2.out, hao]
            simp
          have HVV := Lib.hid hvv
          have HLR := Lib.hid (show x.r.n = x.r.l.length from G3.out.ok.r.sl.len)
          clear hao hvv
          by_cases h1 : 0 ≤ r
          · have e1 : (0 ≤ r) = True := eq_true h1
            by_cases h2 : r < 16
            · have e2 : (r < 16) = True := eq_true h2
              have HR := Lib.hid (show (decide (0 ≤ r) && decide (r < 16)) = true by simp [h1, h2])
              by_cases h3 : x.r.n = 0
              · have e3 : ((x.r.n : Int) == 0) = true := by simp [h3]
                have H3 := Lib.hid (show decide (x.r.l.length = 0) = true by rw [← HLR.out]; simp [h3])
                clear h1 h2 h3
                go_wp2_with fail
                go_ret
                exact ⟨ret_bool (by rw [HVV.out, HR.out, H3.out]; simp), G3.out.b⟩
              · have e3 : ((x.r.n : Int) == 0) = false := by simpa using h3
                have H3 := Lib.hid (show decide (x.r.l.length = 0) = false by rw [← HLR.out]; simp [h3])
                obtain ⟨so, hso⟩ : ∃ s, x.soft = s := ⟨_, rfl⟩
                rw [hso] at HVV c8
                clear h1 h2 h3 hso
                cases so with
                | true =>
                  go_wp2_with fail
                  go_ret
                  exact ⟨ret_bool (by rw [HVV.out, HR.out, H3.out]; simp), G3.out.b⟩
                | false =>
                  go_wp2_with fail
                  refine (HCK.out).mono ?_
                  rintro e w9 ⟨rfl, hb⟩
                  have G4 := Lib.hid (bcall G3.out.b (Nat.le_refl _) hb)
                  clear hb
                  go_wp2_with fail
                  go_ret
                  exact ⟨ret_bool (by rw [HVV.out, HR.out, H3.out]; simp), G4.out⟩
            · have e2 : (r < 16) = False := eq_false h2
              have HR := Lib.hid (show (decide (0 ≤ r) && decide (r < 16)) = false by simp [h2])
              clear h1 h2
              go_wp2_with fail
              go_ret
              exact ⟨ret_bool (by rw [HVV.out, HR.out]; simp), G3.out.b⟩
          · have e1 : (0 ≤ r) = False := eq_false h1
            have HR := Lib.hid (show (decide (0 ≤ r) && decide (r < 16)) = false by simp [h1])
            clear h1
            go_wp2_with fail
            go_ret
            exact ⟨ret_bool (by rw [HVV.out, HR.out]; simp), G3.out.b⟩
end Go.Proofs.YtadoflcomienoaaGreat
/- What the laws of chapter 14 say of tables (plain). -/
namespace Go.Proofs.YtadoflcomienoaaGreat
open Go.RowKit

def tellR (r : Int) (a : At) (n : Nl) : Rt := ⟨r, n.key, n.id, a⟩
theorem routes_nilR (k : PK) : routesR [] k = [] := rfl
theorem routes_oneR (x : Rt) : routesR [x] x.k = [x] := by
  have h : atP [x] x.k = [x] := by
    unfold atP
    rw [List.filter_cons_of_pos (by simp), List.filter_nil]
  unfold routesR
  rw [h]
  exact List.perm_singleton.1 (sortK_perm (key := rky) [x])
theorem look_oneR (x : Rt) : lookR [x] x.key = some x := by
  unfold lookR Kl.look
  rw [List.find?_cons_of_pos (by simp)]
theorem apply_newR {r : Int} {n : Nl} {a : At} (ha : hasAS a 65000 = false) : applyR 65000 5 r ⟨[], [n], a, false⟩ ([], 0) = ([tellR r a n], 0) := by
  unfold applyR goneR comeR
  simp only [List.foldl_nil, List.foldl_cons]
  unfold oneR setR
  rw [ha]
  rfl
theorem apply_goneR {r : Int} {n : Nl} {a b : At} : applyR 65000 5 r ⟨[n], [], b, false⟩ ([tellR r a n], 0) = ([], 0) := by
  unfold applyR goneR comeR
  simp only [List.foldl_nil, List.foldl_cons]
  unfold dropR
  rw [List.filter_cons_of_neg (by simp [tellR, Rt.key]), List.filter_nil]
theorem goneR_nil (r : Int) (g : List Nl) : goneR r g [] = [] := by
  unfold goneR
  induction g with
  | nil => rfl
  | cons n g ih => exact ih
theorem come_loopR {room r : Int} {a : At} {ref : Int} (ns : List Nl) : comeR room r true a ns ([], ref) = ([], ref) := by
  unfold comeR
  induction ns with
  | nil => rfl
  | cons n g ih => exact ih
/-- what a telling leaves, where there is room -/
theorem mem_come {room r : Int} {a : At} (ns : List Nl) : ∀ (s : List Rt × Int), ((s.1.length + ns.length : Nat) : Int) ≤ room → ROk s.1 → 0 ≤ r → (∀ x, x ∈ (comeR room r false a ns s).1 ↔ (x ∈ s.1 ∧ ∀ n ∈ ns, x.key ≠ (tellR r a n).key) ∨ ∃ n ∈ ns, x = tellR r a n) := by
  unfold comeR
  induction ns with
  | nil => intro s _ _ _ x; simp
  | cons n ns ih =>
    intro s h hok hr x
    rw [List.length_cons] at h
    have h1 : oneR room r false a s n = (dropR s.1 (tellR r a n).key ++ [tellR r a n], s.2) := by
      unfold oneR setR
      rw [if_neg Bool.false_ne_true, if_pos]
      · rfl
      · rw [Bool.or_eq_true, decide_eq_true_eq]
        right
        show (s.1.length : Int) < room
        omega
    have hl := one_len (room := room) (router := r) (loop := false) (a := a) (n := n) hok
    have ho := hok.one (room := room) (loop := false) (a := a) hr n
    rw [List.foldl_cons, ih _ (by omega) ho hr x, h1]
    simp only [List.mem_append, mem_dropR, List.mem_cons, List.not_mem_nil, or_false]
    constructor
    · rintro (⟨⟨h2, h3⟩ | h2, h4⟩ | ⟨m, h2, h3⟩)
      · exact .inl ⟨h2, fun m hm => hm.elim (fun e => by rw [e]; exact h3) (h4 m)⟩
      · exact .inr ⟨n, .inl rfl, h2⟩
      · exact .inr ⟨m, .inr h2, h3⟩
    · rintro (⟨h2, h3⟩ | ⟨m, h2 | h2, h3⟩)
      · exact .inl ⟨.inl ⟨h2, h3 n (.inl rfl)⟩, fun m hm => h3 m (.inr hm)⟩
      · subst h2
        by_cases hq : ∃ m' ∈ ns, x = tellR r a m'
        · obtain ⟨m', h5, h6⟩ := hq
          exact .inr ⟨m', h5, h6⟩
        · refine .inl ⟨.inr h3, fun m' hm' e => hq ⟨m', hm', ?_⟩⟩
          rw [h3] at e ⊢
          unfold tellR Rt.key at e
          simp only [Prod.mk.injEq, true_and] at e
          unfold tellR
          rw [e.1, e.2]
      · exact .inr ⟨m, h2, h3⟩
/-- a router that tells all it has again: as it was -/
theorem again_R {r : Int} {u : Up} (hr : 0 ≤ r) (hn : u.routes.length ≤ 1100) : ∀ (ref : Int), let s1 := applyR 65000 65536 r u ([], ref); let s2 := applyR 65000 65536 r ⟨[], u.routes, u.a, u.soft⟩ s1; (∀ x, x ∈ s2.1 ↔ x ∈ s1.1) ∧ (∀ x ∈ s1.1, x.r = r) ∧ (∀ x ∈ s2.1, x.r = r) := by
  intro ref
  dsimp only
  unfold applyR
  dsimp only
  rw [goneR_nil]
  have hg : ∀ S, goneR r [] S = S := fun S => rfl
  rw [hg]
  obtain ⟨b, hb⟩ : ∃ b, hasAS u.a 65000 = b := ⟨_, rfl⟩
  rw [hb]
  cases b with
  | true =>
    rw [come_loopR]
    dsimp only
    rw [come_loopR]
    exact ⟨fun _ => Iff.rfl, (fun x h => nomatch h), (fun x h => nomatch h)⟩
  | false =>
    have hl := come_len (room := 65536) (router := r) (loop := false) (a := u.a) (s := ([], ref)) ROk.nil hr u.routes
    have h1 := mem_come (room := 65536) (r := r) (a := u.a) u.routes ([], ref) (by show ((0 + u.routes.length : Nat) : Int) ≤ _; omega) ROk.nil hr
    have ho := ROk.come (room := 65536) (loop := false) (a := u.a) (s := ([], ref)) ROk.nil hr u.routes
    generalize comeR 65536 r false u.a u.routes ([], ref) = s1 at *
    have hl2 : s1.1.length ≤ u.routes.length := by simpa using hl
    have h2 := mem_come (room := 65536) (r := r) (a := u.a) u.routes (s1.1, s1.2) (by show ((s1.1.length + u.routes.length : Nat) : Int) ≤ _; omega) ho hr
    have hr1 : ∀ x ∈ s1.1, x.r = r := fun x hx => by
      rcases (h1 x).1 hx with ⟨h3, _⟩ | ⟨n, _, rfl⟩
      · cases h3
      · rfl
    have hiff : ∀ x, x ∈ (comeR 65536 r false u.a u.routes (s1.1, s1.2)).1 ↔ x ∈ s1.1 := fun x => by
      rw [h2 x]
      constructor
      · rintro (⟨h3, _⟩ | h3)
        · exact h3
        · exact (h1 x).2 (.inr h3)
      · intro h3
        rcases (h1 x).1 h3 with ⟨h4, _⟩ | h4
        · cases h4
        · exact .inr h4
    exact ⟨hiff, hr1, fun x hx => hr1 x ((hiff x).1 hx)⟩
theorem chg_same {S S' : List Rt} {L : List PK} (h : Chg S S' L) (h1 : ROk S) (h2 : ROk S') (he : ∀ x, x ∈ S' ↔ x ∈ S) : L = [] := by
  rw [List.eq_nil_iff_forall_not_mem]
  intro k hk
  exact (h.is k).1 hk (routes_eq h1 h2 fun x _ => (he x).symm)
/-- what came up out of nothing is what goes when all goes -/
theorem chg_back {S S' : List Rt} {L M : List PK} (h : Chg [] S L) (h' : Chg S' [] M) (h1 : ROk S) (h2 : ROk S') (he : ∀ x, x ∈ S' ↔ x ∈ S) : L = M := by
  refine ordK_ext h.ord h'.ord fun k => ?_
  rw [h.is, h'.is, routes_eq h2 h1 (k := k) fun x _ => he x]
  exact ne_comm
theorem flush_allR {r : Int} {S : List Rt} (h : ∀ x ∈ S, x.r = r) : flushR r S = [] := by
  unfold flushR
  rw [List.filter_eq_nil_iff]
  intro x hx
  rw [decide_eq_true_eq]
  exact fun e => e (h x hx)
/-- what a router tells leaves the others' -/
theorem drop_out {S : List Rt} {q : RKey} {x : Rt} (h : x.r ≠ q.1) : x ∈ dropR S q ↔ x ∈ S := by
  rw [mem_dropR]
  exact ⟨fun h1 => h1.1, fun h1 => ⟨h1, fun e => h (by rw [← e]; rfl)⟩⟩
theorem one_out {room router : Int} {loop : Bool} {a : At} {s : List Rt × Int} {n : Nl} {x : Rt} (h : x.r ≠ router) : x ∈ (oneR room router loop a s n).1 ↔ x ∈ s.1 := by
  unfold oneR
  split
  · exact drop_out h
  · unfold setR
    split
    · show x ∈ dropR s.1 (router, n.key, n.id) ++ [_] ↔ _
      rw [List.mem_append, List.mem_singleton, drop_out (q := (router, n.key, n.id)) h]
      refine ⟨fun h1 => h1.elim id fun e => absurd (by rw [e]) h, .inl⟩
    · exact Iff.rfl
theorem apply_out {asn room r : Int} {u : Up} {s : List Rt × Int} {x : Rt} (h : x.r ≠ r) : x ∈ (applyR asn room r u s).1 ↔ x ∈ s.1 := by
  unfold applyR comeR
  have h1 : ∀ (ns : List Nl) (s : List Rt × Int), x ∈ (ns.foldl (oneR room r (hasAS u.a asn) u.a) s).1 ↔ x ∈ s.1 := by
    intro ns
    induction ns with
    | nil => intro s; exact Iff.rfl
    | cons n ns ih => intro s; rw [List.foldl_cons, ih, one_out h]
  rw [h1]
  show x ∈ goneR r u.gone s.1 ↔ x ∈ s.1
  unfold goneR
  generalize s.1 = S
  induction u.gone generalizing S with
  | nil => exact Iff.rfl
  | cons n ns ih => rw [List.foldl_cons, ih, drop_out h]
theorem without_R {asn room r : Int} {u : Up} {s : List Rt × Int} (h : ROk s.1) (hr : 0 ≤ r) (k : PK) : (routesR (applyR asn room r u s).1 k).filter (fun x => decide (x.r ≠ r)) = (routesR s.1 k).filter (fun x => decide (x.r ≠ r)) := by
  have h' := h.apply (asn := asn) (room := room) (u := u) hr
  refine Kl.ordered_eq ltB_asymm ((sortK_ord (h'.rky k)).sublist List.filter_sublist) ((sortK_ord (h.rky k)).sublist List.filter_sublist) ?_
  rw [List.perm_ext_iff_of_nodup]
  · intro x
    rw [List.mem_filter, List.mem_filter, decide_eq_true_eq]
    show (x ∈ routesR _ k ∧ _) ↔ (x ∈ routesR _ k ∧ _)
    rw [mem_routesR, mem_routesR]
    constructor
    · rintro ⟨⟨h1, h2⟩, h3⟩; exact ⟨⟨(apply_out h3).1 h1, h2⟩, h3⟩
    · rintro ⟨⟨h1, h2⟩, h3⟩; exact ⟨⟨(apply_out h3).2 h1, h2⟩, h3⟩
  · exact ((sortK_perm _).nodup_iff.2 ((MR.nodup_of_map h'.nd).filter _)).filter _
  · exact ((sortK_perm _).nodup_iff.2 ((MR.nodup_of_map h.nd).filter _)).filter _
theorem one_ref {room router : Int} {loop : Bool} {a : At} {s : List Rt × Int} {n : Nl} : s.2 ≤ (oneR room router loop a s n).2 ∧ (oneR room router loop a s n).2 ≤ s.2 + 1 := by
  unfold oneR
  split
  · exact ⟨Int.le_refl _, by show s.2 ≤ s.2 + 1; omega⟩
  · unfold setR
    split
    · exact ⟨Int.le_refl _, by show s.2 ≤ s.2 + 1; omega⟩
    · exact ⟨by show s.2 ≤ s.2 + 1; omega, Int.le_refl _⟩
theorem apply_ref {asn room r : Int} {u : Up} {s : List Rt × Int} : s.2 ≤ (applyR asn room r u s).2 ∧ (applyR asn room r u s).2 ≤ s.2 + u.routes.length := by
  unfold applyR comeR
  have h1 : ∀ (ns : List Nl) (s : List Rt × Int), s.2 ≤ (ns.foldl (oneR room r (hasAS u.a asn) u.a) s).2 ∧ (ns.foldl (oneR room r (hasAS u.a asn) u.a) s).2 ≤ s.2 + ns.length := by
    intro ns
    induction ns with
    | nil => intro s; exact ⟨Int.le_refl _, by simp⟩
    | cons n ns ih =>
      intro s
      have h2 := ih (oneR room r (hasAS u.a asn) u.a s n)
      have h3 := one_ref (room := room) (router := r) (loop := hasAS u.a asn) (a := u.a) (s := s) (n := n)
      rw [List.foldl_cons, List.length_cons, Int.natCast_succ]
      omega
  exact h1 u.routes (goneR r u.gone s.1, s.2)
theorem apply_len {asn room r : Int} {u : Up} {s : List Rt × Int} (h : ROk s.1) (hr : 0 ≤ r) : (applyR asn room r u s).1.length ≤ s.1.length + u.routes.length := by
  unfold applyR
  have h1 := come_len (room := room) (router := r) (loop := hasAS u.a asn) (a := u.a) (s := (goneR r u.gone s.1, s.2)) (h.gone _) hr u.routes
  have h2 : (goneR r u.gone s.1).length ≤ s.1.length := gone_len
  dsimp only at h1
  omega
theorem may_range {r : Int} {u : Up} (h : mayR r u = true) : 0 ≤ r ∧ r < 16 := by
  unfold mayR at h
  rw [Bool.and_eq_true, Bool.and_eq_true, decide_eq_true_eq, decide_eq_true_eq] at h
  exact h.1
theorem may_gone {r : Int} {g rt : List Nl} {a : At} {so : Bool} (h : mayR r ⟨g, rt, a, so⟩ = true) : mayR r ⟨[], rt, a, so⟩ = true := by
  unfold mayR oddR at h ⊢
  simp only [Bool.not_not, Bool.and_eq_true, List.all_nil] at h ⊢
  exact ⟨h.1, ⟨trivial, h.2.1.2⟩, h.2.2⟩
end Go.Proofs.YtadoflcomienoaaGreat
/- Tables in the laws, where what comes back is kept over the table's changes, and where other blocks turn. -/
namespace Go.Proofs.YtadoflcomienoaaGreat
open Go.RowKit
open Go.ChangeMaps (setBlock)

def okT {α : Type} (_ : World) (_ : α) : Prop := True
theorem UpOk.holdL {w W : World} {x : UpV} (h : UpOk w x) (hb : Below w.heap.size w W) : ∀ F : Nat → Prop, (∀ k, F k → w.heap.size ≤ k) → HoldF F W fun V => UpOk V x := by
  intro F hF
  have h1 : HoldF F w fun V => UpOk V x := fun w' hs he =>
    ⟨h.g.same (fun hn a e hl => he _ hl fun hf => by have := hF _ hf; omega) (fun _ _ h => h), h.r.same (fun hn a e hl => he _ hl fun hf => by have := hF _ hf; omega) (fun _ _ h => h),
     (h.a.hold ⟨fun hn a e hf => by have := hF _ hf; have := h.a.low.p hn a e; omega, fun hn a e hf => by have := hF _ hf; have := h.a.low.c hn a e; omega, fun y hy hn a e hf => by have := hF _ hf; have := h.a.low.s y hy hn a e; omega⟩) w' hs he⟩
  exact h1.below hb
theorem AtOk.holdL {w W : World} {x : AtV} (h : AtOk w x) (hb : Below w.heap.size w W) : ∀ F : Nat → Prop, (∀ k, F k → w.heap.size ≤ k) → HoldF F W fun V => AtOk V x := by
  intro F hF
  have h1 : HoldF F w fun V => AtOk V x := h.hold ⟨fun hn a e hf => by have := hF _ hf; have := h.low.p hn a e; omega, fun hn a e hf => by have := hF _ hf; have := h.low.c hn a e; omega, fun y hy hn a e hf => by have := hF _ hf; have := h.low.s y hy hn a e; omega⟩
  exact h1.below hb
/-- a table of a law: what it reads as; X: other blocks that will turn; what else holds, whatever becomes of the table and of X -/
def LvX (w : World) (X : Nat → Prop) (b : Nat) (asn room : Int) (S : List Rt) (ref : Int) (P : World → Prop) (W : World) : Prop := ∃ R n G, R.b = b ∧ RibAt W R X n asn room ref G ∧ G.map RtV.rt = S ∧ (∀ k, R.F k → w.heap.size ≤ k ∧ ¬ X k) ∧ Below w.heap.size w W ∧ HoldF (R.FX X) W P ∧ (∀ k, X k → w.heap.size ≤ k ∧ k < W.heap.size)
section
variable {w W W' : World} {X : Nat → Prop} {b : Nat} {asn room ref : Int} {S : List Rt} {P Q : World → Prop}
theorem LvX.keep (h : LvX w X b asn room S ref P W) (hb : Below W.heap.size W W') : LvX w X b asn room S ref P W' := by
  obtain ⟨R, n, G, h1, h2, h3, h4, h5, h6, h7⟩ := h
  exact ⟨R, n, G, h1, h2.below hb, h3, h4, bcall h5 (Nat.le_refl _) hb, h6.below hb, fun k hk => ⟨(h7 k hk).1, Nat.lt_of_lt_of_le (h7 k hk).2 hb.size⟩⟩
theorem LvX.now (h : LvX w X b asn room S ref P W) : P W := by
  obtain ⟨R, n, G, h1, h2, h3, h4, h5, h6, h7⟩ := h
  exact h6.now
theorem LvX.bw (h : LvX w X b asn room S ref P W) : Below w.heap.size w W := by
  obtain ⟨R, n, G, h1, h2, h3, h4, h5, h6, h7⟩ := h
  exact h5
theorem LvX.rok (h : LvX w X b asn room S ref P W) : ROk S := by
  obtain ⟨R, n, G, h1, h2, h3, h4, h5, h6, h7⟩ := h
  rw [← h3]; exact h2.rok
theorem LvX.lvs (h : LvX w X b asn room S ref P W) : LvS w b asn room S ref P W := by
  obtain ⟨R, n, G, h1, h2, h3, h4, h5, h6, h7⟩ := h
  exact ⟨R, n, G, h1, h2.lessX fun k hk => hk.elim, h3, fun k hk => (h4 k hk).1, h5, h6.less fun k hk => .inl hk⟩
theorem LvX.add (h : LvX w X b asn room S ref P W) (hb : Below W.heap.size W W') (hQ : HoldF (fun k => k < W.heap.size) W' Q) : LvX w X b asn room S ref (fun V => P V ∧ Q V) W' := by
  obtain ⟨R, n, G, h1, h2, h3, h4, h5, h6, h7⟩ := h
  exact ⟨R, n, G, h1, h2.below hb, h3, h4, bcall h5 (Nat.le_refl _) hb, (h6.below hb).and (hQ.less fun k hk => hk.elim h2.lt fun h => (h7 k h).2), fun k hk => ⟨(h7 k hk).1, Nat.lt_of_lt_of_le (h7 k hk).2 hb.size⟩⟩
theorem LvX.addB (h : LvX w X b asn room S ref P W) (hb : Below W.heap.size W W') {q : Nat} {o : Obj} (hq : W.heap.size ≤ q) (hw : W'.heap[q]? = some o) : LvX w X b asn room S ref (fun V => P V ∧ V.heap[q]? = some o) W' :=
  h.add hb fun w' hs he => (he q (lt_of_blk hw) (by omega)).trans hw
theorem LvX.imp (h : LvX w X b asn room S ref P W) (hi : ∀ V, P V → Q V) : LvX w X b asn room S ref Q W := by
  obtain ⟨R, n, G, h1, h2, h3, h4, h5, h6, h7⟩ := h
  exact ⟨R, n, G, h1, h2, h3, h4, h5, h6.imp hi, h7⟩
/-- one of the other blocks turns -/
theorem LvX.poke (h : LvX w X b asn room S ref P W) {q : Nat} (hq : X q) (hb : But W W' [q]) : LvX w X b asn room S ref P W' := by
  obtain ⟨R, n, G, h1, h2, h3, h4, h5, h6, h7⟩ := h
  refine ⟨R, n, G, h1, h2.outX hb hq (fun hf => (h4 q hf).2 hq), h3, h4, Below.step h5 h5.size hb (by simpa using (h7 q hq).1), h6.turn hb.size (fun k hk hn => hb.block k hk (by rw [List.mem_singleton]; rintro rfl; exact hn (.inr hq))) fun k hk => .inl hk, fun k hk => ⟨(h7 k hk).1, Nat.lt_of_lt_of_le (h7 k hk).2 hb.size⟩⟩
theorem lvx_new (w W : World) (hw : Below w.heap.size w W) (hX : ∀ k, X k → w.heap.size ≤ k ∧ k < W.heap.size) (hP : HoldF (fun k => X k ∨ W.heap.size ≤ k) W P) (asn room : Int) (h : (0 ≤ asn ∧ asn ≤ 4294967295) ∧ (0 ≤ room ∧ room ≤ 65536)) : Calls Tryz.prog 21 #[.int .i64 asn, .int .i64 room] W fun e w' => ∃ b, e = .returned (.tuple #[.pointer (some ⟨b, 0, none⟩), .int .i64 0]) ∧ LvX w X b asn room [] 0 P w' ∧ Below W.heap.size W w' := by
  refine (rnew_ok W asn room h).mono fun e w' ⟨R, h1, h2, h3, h4⟩ => ⟨R.b, h1, ⟨R, 0, [], rfl, ?_, rfl, fun k hk => ⟨Nat.le_trans hw.size (h3 k hk), fun hx => ?_⟩, bcall hw (Nat.le_refl _) h4, ?_, fun k hk => ⟨(hX k hk).1, Nat.lt_of_lt_of_le (hX k hk).2 h4.size⟩⟩, h4⟩
  · exact ⟨h2.blk, h2.tr, h2.rf, h2.mp, h2.all, h2.inj, h2.of, h2.ofne, h2.okx, h2.nd, (fun x hx => nomatch hx), (fun x hx => nomatch hx)⟩
  · have h5 := (hX k hx).2
    have h6 := h3 k hk
    omega
  · exact hP.turn h4.size (fun k hk _ => h4.block k hk) fun k hk => hk.elim (fun h => .inr (h3 k h)) fun h => .inl (.inl h)
theorem lvx_apply (h : LvX w X b asn room S ref P W) (hb : Below W.heap.size W W') {x : UpV} (hx : ∀ F : Nat → Prop, (∀ k, F k → w.heap.size ≤ k ∧ k < W.heap.size) → HoldF F W' fun V => UpOk V x) {r : Int} (hm : mayR r x.up = true) (hn : x.g.n ≤ 3000 ∧ x.r.n ≤ 3000) (hS : S.length + x.r.n ≤ 3000000) (href : 0 ≤ ref ∧ ref + x.r.n ≤ 900000000) :
    Calls Tryz.prog 30 #[.pointer (some ⟨b, 0, none⟩), .int .i64 r, x.v] W' fun e w' => ∃ s : SlV PK, e = .returned (.tuple #[.slice s.a s.n s.c, .int .i64 0]) ∧ Chg S (applyR asn room r x.up (S, ref)).1 s.l ∧ LvX w X b asn room (applyR asn room r x.up (S, ref)).1 (applyR asn room r x.up (S, ref)).2 (fun V => P V ∧ SlOk RPk okT V s) w' ∧ (∀ k, X k → w'.heap[k]? = W'.heap[k]?) := by
  obtain ⟨R, n, G, rfl, h2, h3, h4, h5, h6, h7⟩ := h
  have hF : ∀ k, R.FX X k → w.heap.size ≤ k ∧ k < W.heap.size := fun k hk => hk.elim (fun h => ⟨(h4 k h).1, h2.lt h⟩) (h7 k)
  have hGl : G.length = S.length := by rw [← h3, List.length_map]
  refine (apply_anyB (h2.below hb) (fun k hk => Nat.lt_of_lt_of_le (h7 k hk).2 hb.size) (hx _ hF) hm hn (by rw [hGl]; exact hS) href).mono ?_
  rintro e w' ⟨v, L, R', n', G', ref', rfl, ho, hc, hr', hst, hb', hmv, B, hoB, hB⟩
  rw [h3] at hc hst
  rw [← hst]
  obtain ⟨s, rfl, rfl, hs1, hs2⟩ := Own_slok (ok := okT) hoB (fun _ _ => trivial)
  have hXl : ∀ k, X k → k < W'.heap.size := fun k hk => Nat.lt_of_lt_of_le (h7 k hk).2 hb.size
  have hmv2 := hmv.union X
  have hs3 : HoldF (R'.FX X) w' fun V => SlOk RPk okT V s := fun V hs he => hs1.same (fun hn a e hl => he _ hl fun hf => by
    have h8 := hs2.1 hn a e
    rcases hf with h9 | h9
    · have := hB _ h9; omega
    · have h10 := Own_slok (ok := okT) ho (fun _ _ => trivial)
      obtain ⟨s', e1, -, -, h11⟩ := h10
      injection e1 with e1 e2 e3
      have h12 := h11.1 (by omega) a (by rw [← e1]; exact e)
      have := hXl _ h9
      omega) fun _ _ _ => trivial
  refine ⟨s, rfl, hc, ⟨R', n', G', hb', hr', rfl, fun k hk => ?_, (bcall h5 (Nat.le_refl _) hb).trans (hmv.below (Nat.le_trans h5.size hb.size) fun k hk => (h4 k hk).1), ((h6.below hb).moved hmv2).and hs3, fun k hk => ⟨(h7 k hk).1, Nat.lt_of_lt_of_le (hXl k hk) hmv.size⟩⟩, fun k hk => hmv.same k (hXl k hk) fun hf => (h4 k hf).2 hk⟩
  rcases hmv.foot k hk with h8 | h8
  · exact h4 k h8
  · exact ⟨Nat.le_trans (Nat.le_trans h5.size hb.size) h8, fun hx => by have := hXl k hx; omega⟩
theorem lvx_flush (h : LvX w X b asn room S ref P W) (hS : S.length ≤ 3000000) (r : Int) : Calls Tryz.prog 36 #[.pointer (some ⟨b, 0, none⟩), .int .i64 r] W fun e w' => ∃ s : SlV PK, e = .returned (.slice s.a s.n s.c) ∧ Chg S (flushR r S) s.l ∧ LvX w X b asn room (flushR r S) ref (fun V => P V ∧ SlOk RPk okT V s) w' ∧ (∀ k, X k → w'.heap[k]? = W.heap[k]?) := by
  obtain ⟨R, n, G, rfl, h2, h3, h4, h5, h6, h7⟩ := h
  have hGl : G.length = S.length := by rw [← h3, List.length_map]
  refine (flush_anyB h2 (fun k hk => (h7 k hk).2) (by rw [hGl]; exact hS) r).mono ?_
  rintro e w' ⟨v, L, R', n', G', rfl, ho, hc, hr', hst, hb', hmv, B, hoB, hB⟩
  rw [h3] at hc hst
  rw [hst] at hc
  obtain ⟨s, rfl, rfl, hs1, hs2⟩ := Own_slok (ok := okT) hoB (fun _ _ => trivial)
  have hs3 : HoldF (R'.FX X) w' fun V => SlOk RPk okT V s := fun V hs he => hs1.same (fun hn a e hl => he _ hl fun hf => by
    have h8 := hs2.1 hn a e
    rcases hf with h9 | h9
    · have := hB _ h9; omega
    · have h10 := Own_slok (ok := okT) ho (fun _ _ => trivial)
      obtain ⟨s', e1, -, -, h11⟩ := h10
      injection e1 with e1 e2 e3
      have h12 := h11.1 (by omega) a (by rw [← e1]; exact e)
      have := (h7 _ h9).2
      omega) fun _ _ _ => trivial
  refine ⟨s, rfl, hc, ⟨R', n', G', hb', hr', hst, fun k hk => ?_, h5.trans (hmv.below h5.size fun k hk => (h4 k hk).1), (h6.moved (hmv.union X)).and hs3, fun k hk => ⟨(h7 k hk).1, Nat.lt_of_lt_of_le (h7 k hk).2 hmv.size⟩⟩, fun k hk => hmv.same k (h7 k hk).2 fun hf => (h4 k hf).2 hk⟩
  rcases hmv.foot k hk with h8 | h8
  · exact h4 k h8
  · exact ⟨Nat.le_trans h5.size h8, fun hx => by have := (h7 k hx).2; omega⟩
theorem lvx_get (h : LvX w X b asn room S ref P W) {r i : Int} {k : PK} (hk : k.1 < 4294967296 ∧ I64 k.2) (hr : I64 r) (hi : I64 i) : Calls Tryz.prog 27 #[.pointer (some ⟨b, 0, none⟩), .agg #[.int .i64 r, .int .u32 (k.1 : Int), .int .i64 k.2, .int .i64 i]] W fun e w' => ∃ y : AtV, e = .returned (.tuple #[y.v, .bool (lookR S (r, k, i)).isSome]) ∧ y.at = ((lookR S (r, k, i)).map Rt.a).getD atZ ∧ LvX w X b asn room S ref (fun V => P V ∧ AtOk V y) w' ∧ Below W.heap.size W w' := by
  have h0 := h
  obtain ⟨R, n, G, rfl, h2, h3, h4, h5, h6, h7⟩ := h
  refine (get14_any h2 hk hr hi).mono ?_
  rintro e w' ⟨y, rfl, hy1, hy2, hy3, hb⟩
  rw [h3] at hy1 ⊢
  exact ⟨y, rfl, hy1, h0.add hb (hy2.hold (hy3.out fun k hk => hk)), hb⟩
end
end Go.Proofs.YtadoflcomienoaaGreat
/- A drawn region, its operations by a name: those of a set in whatever order, where the world stays (each reads). -/
namespace Go.Proofs.YtadoflcomienoaaGreat
open Go Go.RowKit

section
variable {P : Program} {l : List Oper} {md : Region.Mode} {C : World → Prop}
theorem any_seg {Q : Exit → Act → World → Prop} {g : Nat} (C : World → Prop) (hd : List Nat) {n : Nat} (hn : hd.length + g = n) {l0 : Array Bool} {a : Act} {w : World} (hB : segB md l.toArray hd l0 = true) (hw : C w)
    (h : wpQuiet P l.toArray C (fun a' => ∀ w', C w' → wpAny P md l.toArray Q g (setAll hd l0) a' w') (pick l hd) a) : wpAny P md l.toArray Q n l0 a w :=
  wpAny_seg C hd hn hB hw h
theorem wpQuiet_want {o : Oper} {rest : List Oper} {a : Act} {Q : Act → Prop} (hw : Region.wanted o (yielded l.toArray a.tmps) = true)
    (h : ∀ K : Act → Prop, (∀ a, wpQuiet P l.toArray C Q rest a → K a) → o.quiet P a C K) : wpQuiet P l.toArray C Q (o :: rest) a :=
  wpQuiet_step fun K hK => by rw [if_pos hw]; exact h K hK
end
end Go.Proofs.YtadoflcomienoaaGreat
/- The last region of RibGone: its operations, by a name; its order. -/
namespace Go.Proofs.YtadoflcomienoaaGreat
open Go Go.RowKit

noncomputable def opsG : List Oper := regO 12 Tryz.f9
theorem opsG_len : opsG.length = 42 := by kernel_rfl
def sG0 : List Nat := [0, 1, 2, 3, 4, 5, 6, 7, 8, 9, 10, 11]
theorem pickG0 : pick opsG sG0 = pick opsG [0, 1, 2, 3, 4, 5, 6, 7, 8, 9, 10, 11] := rfl
theorem frG0 : forcedB .any opsG.toArray sG0 (Array.replicate 42 false) = true := by kernel_rfl
def sG1 : List Nat := [12, 13, 14, 15, 16]
theorem pickG1 : pick opsG sG1 = pick opsG [12, 13, 14, 15, 16] := rfl
theorem frG1 : segB .any opsG.toArray sG1 (setAll sG0 (Array.replicate 42 false)) = true := by kernel_rfl
def sG2 : List Nat := [17, 18, 19, 20, 21, 22]
theorem pickG2 : pick opsG sG2 = pick opsG [17, 18, 19, 20, 21, 22] := rfl
theorem frG2 : forcedB .any opsG.toArray sG2 (setAll sG1 (setAll sG0 (Array.replicate 42 false))) = true := by kernel_rfl
def sG3 : List Nat := [23, 24]
theorem pickG3 : pick opsG sG3 = pick opsG [23, 24] := rfl
theorem frG3 : segB .any opsG.toArray sG3 (setAll sG2 (setAll sG1 (setAll sG0 (Array.replicate 42 false)))) = true := by kernel_rfl
def sG4 : List Nat := [25, 26, 27, 28, 29, 30, 31, 32, 33, 34, 35, 36, 37, 38, 39, 40, 41]
theorem pickG4 : pick opsG sG4 = pick opsG [25, 26, 27, 28, 29, 30, 31, 32, 33, 34, 35, 36, 37, 38, 39, 40, 41] := rfl
theorem frG4 : forcedB .any opsG.toArray sG4 (setAll sG3 (setAll sG2 (setAll sG1 (setAll sG0 (Array.replicate 42 false))))) = true := by kernel_rfl
theorem frGd : decide (Region.ready .any opsG.toArray (setAll sG4 (setAll sG3 (setAll sG2 (setAll sG1 (setAll sG0 (Array.replicate 42 false)))))) = []) = true := by kernel_rfl
end Go.Proofs.YtadoflcomienoaaGreat
