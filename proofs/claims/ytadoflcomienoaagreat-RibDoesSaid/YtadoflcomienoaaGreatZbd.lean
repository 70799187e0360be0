/- Arguments that come in: chapter 14. -/
import Derived.Test.YtadoflcomienoaaGreatZai
import Derived.Test.YtadoflcomienoaaGreatZac
import Derived.Test.YtadoflcomienoaaGreatZbc
import Derived.Test.YtadoflcomienoaaGreatZax
namespace Go.Proofs.YtadoflcomienoaaGreat
open Go.ChangeShapes Go.WideShapes Go.ChangeAt Go.RowKit Go.Deep

theorem reads3 : Reads Tryz.prog 3 (fun n : Int => [.int .i64 n]) (fun _ n => I64 n) := (Reads.int Tryz.underlying3).conv fun _ n h => ⟨n, rfl, wf64 h⟩
theorem readsI : Reads Tryz.prog 3 RI.cells OkI := (Reads.int Tryz.underlying3).conv fun _ n h => ⟨n, rfl, wf64 h⟩
theorem readsBo : Reads Tryz.prog 4 (fun b : Bool => [.bool b]) (fun _ _ => True) := Reads.bool Tryz.underlying4
theorem readsU : Reads Tryz.prog 37 (fun n : Nat => [.int .u32 (n : Int)]) (fun _ n => n < 4294967296) := (Reads.int Tryz.underlying37).conv fun _ n h => ⟨n.toNat, by rw [Int.toNat_of_nonneg (wfu32 h).1], by have := wfu32 h; omega⟩
theorem readsV : Reads Tryz.prog 37 (fun n : Int => [.int .u32 n]) (fun _ n => 0 ≤ n ∧ n ≤ 4294967295) := (Reads.int Tryz.underlying37).conv fun _ n h => ⟨n, rfl, wfu32 h⟩
theorem readsIs : Reads Tryz.prog 38 (fun s : SlV Int => [.slice s.a s.n s.c]) (SlOk RI OkI) := Reads.slice (R := RI) Tryz.underlying38 (by kernel_rfl) readsI
set_option maxRecDepth 100000 in
theorem readsP : Reads Tryz.prog 58 (fun p : Nat × Int => [.int .u32 (p.1 : Int), .int .i64 p.2]) (fun _ p => p.1 < 4294967296 ∧ I64 p.2) :=
  ⟨fun {H enc w spare held fuel cs x} h => by
    obtain ⟨hl, hf⟩ := Reads.fields Tryz.underlying58 h
    rw [show Tryz.prog.cellsOf 58 = 2 by kernel_rfl] at hl
    obtain ⟨c0, c1, rfl⟩ : ∃ c0 c1, cs = [c0, c1] := by
      match cs, hl with
      | [c0, c1], _ => exact ⟨c0, c1, rfl⟩
    obtain ⟨n0, y0, h0⟩ := hf 0 _ rfl
    have h0 : DataW.trod enc Tryz.prog w 0 spare held n0 37 [c0] = some y0 := by
      have q : Tryz.prog.cellsOf 37 = 1 := by kernel_rfl
      have z : DataW.trod enc Tryz.prog w 0 spare held n0 37 (([c0, c1].drop 0).take (Tryz.prog.cellsOf 37)) = some y0 := h0
      rw [q] at z; exact z
    obtain ⟨a0, e0, k0⟩ := (readsU).read h0
    obtain ⟨n1, y1, h1⟩ := hf 1 _ rfl
    have h1 : DataW.trod enc Tryz.prog w 0 spare held n1 3 [c1] = some y1 := by
      have q : Tryz.prog.cellsOf 3 = 1 := by kernel_rfl
      have z : DataW.trod enc Tryz.prog w 0 spare held n1 3 (([c0, c1].drop 1).take (Tryz.prog.cellsOf 3)) = some y1 := h1
      rw [q] at z; exact z
    obtain ⟨a1, e1, k1⟩ := (reads3).read h1
    simp only [List.cons.injEq, and_true] at e0 e1
    subst e0
    subst e1
    exact ⟨(a0, a1), rfl, ⟨k0, k1⟩⟩⟩
set_option maxRecDepth 100000 in
theorem readsSg : Reads Tryz.prog 134 (RSg.cells) (SgOk) :=
  ⟨fun {H enc w spare held fuel cs x} h => by
    obtain ⟨hl, hf⟩ := Reads.fields Tryz.underlying134 h
    rw [show Tryz.prog.cellsOf 134 = 2 by kernel_rfl] at hl
    obtain ⟨c0, c1, rfl⟩ : ∃ c0 c1, cs = [c0, c1] := by
      match cs, hl with
      | [c0, c1], _ => exact ⟨c0, c1, rfl⟩
    obtain ⟨n0, y0, h0⟩ := hf 0 _ rfl
    have h0 : DataW.trod enc Tryz.prog w 0 spare held n0 4 [c0] = some y0 := by
      have q : Tryz.prog.cellsOf 4 = 1 := by kernel_rfl
      have z : DataW.trod enc Tryz.prog w 0 spare held n0 4 (([c0, c1].drop 0).take (Tryz.prog.cellsOf 4)) = some y0 := h0
      rw [q] at z; exact z
    obtain ⟨a0, e0, k0⟩ := (readsBo).read h0
    obtain ⟨n1, y1, h1⟩ := hf 1 _ rfl
    have h1 : DataW.trod enc Tryz.prog w 0 spare held n1 38 [c1] = some y1 := by
      have q : Tryz.prog.cellsOf 38 = 1 := by kernel_rfl
      have z : DataW.trod enc Tryz.prog w 0 spare held n1 38 (([c0, c1].drop 1).take (Tryz.prog.cellsOf 38)) = some y1 := h1
      rw [q] at z; exact z
    obtain ⟨a1, e1, k1⟩ := (readsIs).read h1
    simp only [List.cons.injEq, and_true] at e0 e1
    subst e0
    subst e1
    exact ⟨⟨a0, a1⟩, rfl, k1⟩⟩
theorem readsSgs : Reads Tryz.prog 36 (fun s : SlV SgV => [.slice s.a s.n s.c]) (SlOk RSg SgOk) := Reads.slice (R := RSg) Tryz.underlying36 (by kernel_rfl) readsSg
set_option maxRecDepth 100000 in
theorem readsAt : Reads Tryz.prog 40 (fun x : AtV => [.int .i64 x.o, .slice x.p.a x.p.n x.p.c, .int .u32 x.nx, .int .i64 x.md, .int .i64 x.pf, .slice x.c.a x.c.n x.c.c]) (AtOk) :=
  ⟨fun {H enc w spare held fuel cs x} h => by
    obtain ⟨hl, hf⟩ := Reads.fields Tryz.underlying40 h
    rw [show Tryz.prog.cellsOf 40 = 6 by kernel_rfl] at hl
    obtain ⟨c0, c1, c2, c3, c4, c5, rfl⟩ : ∃ c0 c1 c2 c3 c4 c5, cs = [c0, c1, c2, c3, c4, c5] := by
      match cs, hl with
      | [c0, c1, c2, c3, c4, c5], _ => exact ⟨c0, c1, c2, c3, c4, c5, rfl⟩
    obtain ⟨n0, y0, h0⟩ := hf 0 _ rfl
    have h0 : DataW.trod enc Tryz.prog w 0 spare held n0 3 [c0] = some y0 := by
      have q : Tryz.prog.cellsOf 3 = 1 := by kernel_rfl
      have z : DataW.trod enc Tryz.prog w 0 spare held n0 3 (([c0, c1, c2, c3, c4, c5].drop 0).take (Tryz.prog.cellsOf 3)) = some y0 := h0
      rw [q] at z; exact z
    obtain ⟨a0, e0, k0⟩ := (reads3).read h0
    obtain ⟨n1, y1, h1⟩ := hf 1 _ rfl
    have h1 : DataW.trod enc Tryz.prog w 0 spare held n1 36 [c1] = some y1 := by
      have q : Tryz.prog.cellsOf 36 = 1 := by kernel_rfl
      have z : DataW.trod enc Tryz.prog w 0 spare held n1 36 (([c0, c1, c2, c3, c4, c5].drop 1).take (Tryz.prog.cellsOf 36)) = some y1 := h1
      rw [q] at z; exact z
    obtain ⟨a1, e1, k1⟩ := (readsSgs).read h1
    obtain ⟨n2, y2, h2⟩ := hf 2 _ rfl
    have h2 : DataW.trod enc Tryz.prog w 0 spare held n2 37 [c2] = some y2 := by
      have q : Tryz.prog.cellsOf 37 = 1 := by kernel_rfl
      have z : DataW.trod enc Tryz.prog w 0 spare held n2 37 (([c0, c1, c2, c3, c4, c5].drop 2).take (Tryz.prog.cellsOf 37)) = some y2 := h2
      rw [q] at z; exact z
    obtain ⟨a2, e2, k2⟩ := (readsV).read h2
    obtain ⟨n3, y3, h3⟩ := hf 3 _ rfl
    have h3 : DataW.trod enc Tryz.prog w 0 spare held n3 3 [c3] = some y3 := by
      have q : Tryz.prog.cellsOf 3 = 1 := by kernel_rfl
      have z : DataW.trod enc Tryz.prog w 0 spare held n3 3 (([c0, c1, c2, c3, c4, c5].drop 3).take (Tryz.prog.cellsOf 3)) = some y3 := h3
      rw [q] at z; exact z
    obtain ⟨a3, e3, k3⟩ := (reads3).read h3
    obtain ⟨n4, y4, h4⟩ := hf 4 _ rfl
    have h4 : DataW.trod enc Tryz.prog w 0 spare held n4 3 [c4] = some y4 := by
      have q : Tryz.prog.cellsOf 3 = 1 := by kernel_rfl
      have z : DataW.trod enc Tryz.prog w 0 spare held n4 3 (([c0, c1, c2, c3, c4, c5].drop 4).take (Tryz.prog.cellsOf 3)) = some y4 := h4
      rw [q] at z; exact z
    obtain ⟨a4, e4, k4⟩ := (reads3).read h4
    obtain ⟨n5, y5, h5⟩ := hf 5 _ rfl
    have h5 : DataW.trod enc Tryz.prog w 0 spare held n5 38 [c5] = some y5 := by
      have q : Tryz.prog.cellsOf 38 = 1 := by kernel_rfl
      have z : DataW.trod enc Tryz.prog w 0 spare held n5 38 (([c0, c1, c2, c3, c4, c5].drop 5).take (Tryz.prog.cellsOf 38)) = some y5 := h5
      rw [q] at z; exact z
    obtain ⟨a5, e5, k5⟩ := (readsIs).read h5
    simp only [List.cons.injEq, and_true] at e0 e1 e2 e3 e4 e5
    subst e0
    subst e1
    subst e2
    subst e3
    subst e4
    subst e5
    exact ⟨⟨a0, a1, a2, a3, a4, a5⟩, rfl, ⟨k1, k5, k0, k2, k3, k4⟩⟩⟩
set_option maxRecDepth 100000 in
theorem readsNl : Reads Tryz.prog 60 (fun x : Nl => [.int .i64 x.id, .int .u32 (x.a : Int), .int .i64 x.ln]) (NlOk) :=
  ⟨fun {H enc w spare held fuel cs x} h => by
    obtain ⟨hl, hf⟩ := Reads.fields Tryz.underlying60 h
    rw [show Tryz.prog.cellsOf 60 = 3 by kernel_rfl] at hl
    obtain ⟨c0, c1, c2, rfl⟩ : ∃ c0 c1 c2, cs = [c0, c1, c2] := by
      match cs, hl with
      | [c0, c1, c2], _ => exact ⟨c0, c1, c2, rfl⟩
    obtain ⟨n0, y0, h0⟩ := hf 0 _ rfl
    have h0 : DataW.trod enc Tryz.prog w 0 spare held n0 3 [c0] = some y0 := by
      have q : Tryz.prog.cellsOf 3 = 1 := by kernel_rfl
      have z : DataW.trod enc Tryz.prog w 0 spare held n0 3 (([c0, c1, c2].drop 0).take (Tryz.prog.cellsOf 3)) = some y0 := h0
      rw [q] at z; exact z
    obtain ⟨a0, e0, k0⟩ := (reads3).read h0
    obtain ⟨n1, y1, h1⟩ := hf 1 _ rfl
    have h1 : DataW.trod enc Tryz.prog w 0 spare held n1 58 [c1, c2] = some y1 := by
      have q : Tryz.prog.cellsOf 58 = 2 := by kernel_rfl
      have z : DataW.trod enc Tryz.prog w 0 spare held n1 58 (([c0, c1, c2].drop 1).take (Tryz.prog.cellsOf 58)) = some y1 := h1
      rw [q] at z; exact z
    obtain ⟨a1, e1, k1⟩ := (readsP).read h1
    simp only [List.cons.injEq, and_true] at e0 e1
    subst e0
    obtain ⟨rfl, rfl⟩ := e1
    exact ⟨⟨a0, a1.1, a1.2⟩, rfl, ⟨k1.1, k0, k1.2⟩⟩⟩
theorem readsNls : Reads Tryz.prog 35 (fun s : SlV Nl => [.slice s.a s.n s.c]) (SlOk RNl NlOk) := Reads.slice (R := RNl) Tryz.underlying35 (by kernel_rfl) readsNl
set_option maxRecDepth 100000 in
theorem readsUp : Reads Tryz.prog 42 (fun x : UpV => [.slice x.g.a x.g.n x.g.c, .slice x.r.a x.r.n x.r.c, .int .i64 x.a.o, .slice x.a.p.a x.a.p.n x.a.p.c, .int .u32 x.a.nx, .int .i64 x.a.md, .int .i64 x.a.pf, .slice x.a.c.a x.a.c.n x.a.c.c, .bool x.soft]) (UpOk) :=
  ⟨fun {H enc w spare held fuel cs x} h => by
    obtain ⟨hl, hf⟩ := Reads.fields Tryz.underlying42 h
    rw [show Tryz.prog.cellsOf 42 = 9 by kernel_rfl] at hl
    obtain ⟨c0, c1, c2, c3, c4, c5, c6, c7, c8, rfl⟩ : ∃ c0 c1 c2 c3 c4 c5 c6 c7 c8, cs = [c0, c1, c2, c3, c4, c5, c6, c7, c8] := by
      match cs, hl with
      | [c0, c1, c2, c3, c4, c5, c6, c7, c8], _ => exact ⟨c0, c1, c2, c3, c4, c5, c6, c7, c8, rfl⟩
    obtain ⟨n0, y0, h0⟩ := hf 0 _ rfl
    have h0 : DataW.trod enc Tryz.prog w 0 spare held n0 35 [c0] = some y0 := by
      have q : Tryz.prog.cellsOf 35 = 1 := by kernel_rfl
      have z : DataW.trod enc Tryz.prog w 0 spare held n0 35 (([c0, c1, c2, c3, c4, c5, c6, c7, c8].drop 0).take (Tryz.prog.cellsOf 35)) = some y0 := h0
      rw [q] at z; exact z
    obtain ⟨a0, e0, k0⟩ := (readsNls).read h0
    obtain ⟨n1, y1, h1⟩ := hf 1 _ rfl
    have h1 : DataW.trod enc Tryz.prog w 0 spare held n1 35 [c1] = some y1 := by
      have q : Tryz.prog.cellsOf 35 = 1 := by kernel_rfl
      have z : DataW.trod enc Tryz.prog w 0 spare held n1 35 (([c0, c1, c2, c3, c4, c5, c6, c7, c8].drop 1).take (Tryz.prog.cellsOf 35)) = some y1 := h1
      rw [q] at z; exact z
    obtain ⟨a1, e1, k1⟩ := (readsNls).read h1
    obtain ⟨n2, y2, h2⟩ := hf 2 _ rfl
    have h2 : DataW.trod enc Tryz.prog w 0 spare held n2 40 [c2, c3, c4, c5, c6, c7] = some y2 := by
      have q : Tryz.prog.cellsOf 40 = 6 := by kernel_rfl
      have z : DataW.trod enc Tryz.prog w 0 spare held n2 40 (([c0, c1, c2, c3, c4, c5, c6, c7, c8].drop 2).take (Tryz.prog.cellsOf 40)) = some y2 := h2
      rw [q] at z; exact z
    obtain ⟨a2, e2, k2⟩ := (readsAt).read h2
    obtain ⟨n3, y3, h3⟩ := hf 3 _ rfl
    have h3 : DataW.trod enc Tryz.prog w 0 spare held n3 4 [c8] = some y3 := by
      have q : Tryz.prog.cellsOf 4 = 1 := by kernel_rfl
      have z : DataW.trod enc Tryz.prog w 0 spare held n3 4 (([c0, c1, c2, c3, c4, c5, c6, c7, c8].drop 8).take (Tryz.prog.cellsOf 4)) = some y3 := h3
      rw [q] at z; exact z
    obtain ⟨a3, e3, k3⟩ := (readsBo).read h3
    simp only [List.cons.injEq, and_true] at e0 e1 e2 e3
    subst e0
    subst e1
    obtain ⟨rfl, rfl, rfl, rfl, rfl, rfl⟩ := e2
    subst e3
    exact ⟨⟨a0, a1, a2, a3⟩, rfl, ⟨k0, k1, k2⟩⟩⟩
structure OpV where
  k : Int
  r : Int
  u : UpV
deriving Inhabited
def ROp : Rep OpV := ⟨53, 11, by decide, fun x => [.int .i64 x.k, .int .i64 x.r, .slice x.u.g.a x.u.g.n x.u.g.c, .slice x.u.r.a x.u.r.n x.u.r.c, .int .i64 x.u.a.o, .slice x.u.a.p.a x.u.a.p.n x.u.a.p.c, .int .u32 x.u.a.nx, .int .i64 x.u.a.md, .int .i64 x.u.a.pf, .slice x.u.a.c.a x.u.a.c.n x.u.a.c.c, .bool x.u.soft], fun _ => rfl, fun _ => rfl⟩
def OpOk (w : World) (x : OpV) : Prop := I64 x.k ∧ I64 x.r ∧ UpOk w x.u
set_option maxRecDepth 100000 in
theorem readsOp : Reads Tryz.prog 53 (fun x : OpV => [.int .i64 x.k, .int .i64 x.r, .slice x.u.g.a x.u.g.n x.u.g.c, .slice x.u.r.a x.u.r.n x.u.r.c, .int .i64 x.u.a.o, .slice x.u.a.p.a x.u.a.p.n x.u.a.p.c, .int .u32 x.u.a.nx, .int .i64 x.u.a.md, .int .i64 x.u.a.pf, .slice x.u.a.c.a x.u.a.c.n x.u.a.c.c, .bool x.u.soft]) (OpOk) :=
  ⟨fun {H enc w spare held fuel cs x} h => by
    obtain ⟨hl, hf⟩ := Reads.fields Tryz.underlying53 h
    rw [show Tryz.prog.cellsOf 53 = 11 by kernel_rfl] at hl
    obtain ⟨c0, c1, c2, c3, c4, c5, c6, c7, c8, c9, c10, rfl⟩ : ∃ c0 c1 c2 c3 c4 c5 c6 c7 c8 c9 c10, cs = [c0, c1, c2, c3, c4, c5, c6, c7, c8, c9, c10] := by
      match cs, hl with
      | [c0, c1, c2, c3, c4, c5, c6, c7, c8, c9, c10], _ => exact ⟨c0, c1, c2, c3, c4, c5, c6, c7, c8, c9, c10, rfl⟩
    obtain ⟨n0, y0, h0⟩ := hf 0 _ rfl
    have h0 : DataW.trod enc Tryz.prog w 0 spare held n0 3 [c0] = some y0 := by
      have q : Tryz.prog.cellsOf 3 = 1 := by kernel_rfl
      have z : DataW.trod enc Tryz.prog w 0 spare held n0 3 (([c0, c1, c2, c3, c4, c5, c6, c7, c8, c9, c10].drop 0).take (Tryz.prog.cellsOf 3)) = some y0 := h0
      rw [q] at z; exact z
    obtain ⟨a0, e0, k0⟩ := (reads3).read h0
    obtain ⟨n1, y1, h1⟩ := hf 1 _ rfl
    have h1 : DataW.trod enc Tryz.prog w 0 spare held n1 3 [c1] = some y1 := by
      have q : Tryz.prog.cellsOf 3 = 1 := by kernel_rfl
      have z : DataW.trod enc Tryz.prog w 0 spare held n1 3 (([c0, c1, c2, c3, c4, c5, c6, c7, c8, c9, c10].drop 1).take (Tryz.prog.cellsOf 3)) = some y1 := h1
      rw [q] at z; exact z
    obtain ⟨a1, e1, k1⟩ := (reads3).read h1
    obtain ⟨n2, y2, h2⟩ := hf 2 _ rfl
    have h2 : DataW.trod enc Tryz.prog w 0 spare held n2 42 [c2, c3, c4, c5, c6, c7, c8, c9, c10] = some y2 := by
      have q : Tryz.prog.cellsOf 42 = 9 := by kernel_rfl
      have z : DataW.trod enc Tryz.prog w 0 spare held n2 42 (([c0, c1, c2, c3, c4, c5, c6, c7, c8, c9, c10].drop 2).take (Tryz.prog.cellsOf 42)) = some y2 := h2
      rw [q] at z; exact z
    obtain ⟨a2, e2, k2⟩ := (readsUp).read h2
    simp only [List.cons.injEq, and_true] at e0 e1 e2
    subst e0
    subst e1
    obtain ⟨rfl, rfl, rfl, rfl, rfl, rfl, rfl, rfl, rfl⟩ := e2
    exact ⟨⟨a0, a1, a2⟩, rfl, ⟨k0, k1, k2⟩⟩⟩
theorem readsOps : Reads Tryz.prog 46 (fun s : SlV OpV => [.slice s.a s.n s.c]) (SlOk ROp OpOk) := Reads.slice (R := ROp) Tryz.underlying46 (by kernel_rfl) readsOp
theorem own : ownKnob Tryz.prog.godebug = none := by kernel_rfl
end Go.Proofs.YtadoflcomienoaaGreat
/- do: one call of both. -/
namespace Go.Proofs.YtadoflcomienoaaGreat.Rr
open Go.RowKit

theorem LvX.split {w W : World} {X : Nat → Prop} {b q : Nat} {asn room ref : Int} {S : List Rt} {P : World → Prop} (h : LvX w X b asn room S ref P W) (hq : X q) : ∃ F : Nat → Prop, F q ∧ (∀ k, F k → w.heap.size ≤ k ∧ k < W.heap.size) ∧ HoldF F W P ∧ ∀ (W' : World) (P' : World → Prop), But W W' [q] → HoldF F W' P' → LvX w X b asn room S ref P' W' := by
  obtain ⟨R, n, G, h1, h2, h3, h4, h5, h6, h7⟩ := h
  refine ⟨R.FX X, .inr hq, fun k hk => hk.elim (fun h => ⟨(h4 k h).1, h2.lt h⟩) (h7 k), h6, fun W' P' hb hP => ?_⟩
  exact ⟨R, n, G, h1, h2.outX hb hq (fun hf => (h4 q hf).2 hq), h3, h4, Below.step h5 h5.size hb (by simpa using (h7 q hq).1), hP, fun k hk => ⟨(h7 k hk).1, Nat.lt_of_lt_of_le (h7 k hk).2 hb.size⟩⟩
/-- both tables -/
structure DoS (V : World) (b q : Nat) (asn room : Int) (S : List Rt) (rf : Int) (s : SlV RtV) (P : World → Prop) (W : World) : Prop where
  lv : LvX V (fun k => k = q) b asn room S rf (fun W => SlOk RRt RtOk W s ∧ P W) W
  blk : W.heap[q]? = some (.cells #[.slice s.a s.n s.c, .int .i64 asn, .int .i64 room, .int .i64 rf] 122)
  ok : RefOk s.l S
theorem DoS.keep {V W W' : World} {b q : Nat} {asn room : Int} {S : List Rt} {rf : Int} {s : SlV RtV} {P : World → Prop} (h : DoS V b q asn room S rf s P W) (hb : Below W.heap.size W W') : DoS V b q asn room S rf s P W' :=
  ⟨h.lv.keep hb, (hb.block _ (lt_of_blk h.blk)).trans h.blk, h.ok⟩
theorem DoS.imp {V W : World} {b q : Nat} {asn room : Int} {S : List Rt} {rf : Int} {s : SlV RtV} {P Q : World → Prop} (h : DoS V b q asn room S rf s P W) (hi : ∀ V, P V → Q V) : DoS V b q asn room S rf s Q W := ⟨h.lv.imp fun V h => ⟨h.1, hi V h.2⟩, h.blk, h.ok⟩
theorem DoS.addB {V W W' : World} {b q qo : Nat} {o : Obj} {asn room : Int} {S : List Rt} {rf : Int} {s : SlV RtV} {P : World → Prop} (h : DoS V b q asn room S rf s P W) (hb : Below W.heap.size W W') (hq : W.heap.size ≤ qo) (hw : W'.heap[qo]? = some o) : DoS V b q asn room S rf s (fun V => V.heap[qo]? = some o) W' := ⟨(h.lv.addB hb hq hw).imp fun _V h => ⟨h.1.1, h.2⟩, (hb.block _ (lt_of_blk h.blk)).trans h.blk, h.ok⟩
theorem DoS.len {V W : World} {b q : Nat} {asn room : Int} {S : List Rt} {rf : Int} {s : SlV RtV} {P : World → Prop} (h : DoS V b q asn room S rf s P W) : s.n = S.length := (h.lv.now.1.sl.len).trans (h.ok.len h.lv.rok)
def BxOp (q : Nat) (y : OpV) (W : World) : Prop := W.heap[q]? = some (.cells #[.int .i64 y.k, .int .i64 y.r, .slice y.u.g.a y.u.g.n y.u.g.c, .slice y.u.r.a y.u.r.n y.u.r.c, .int .i64 y.u.a.o, .slice y.u.a.p.a y.u.a.p.n y.u.a.p.c, .int .u32 y.u.a.nx, .int .i64 y.u.a.md, .int .i64 y.u.a.pf, .slice y.u.a.c.a y.u.a.c.n y.u.a.c.c, .bool y.u.soft] 53)
theorem BxOp.cells {q : Nat} {y : OpV} {W : World} (h : BxOp q y W) : W.cell? ⟨q, 0, none⟩ = some (.int .i64 y.k) ∧ W.cell? ⟨q, 1, none⟩ = some (.int .i64 y.r) ∧ W.cell? ⟨q, 2, none⟩ = some (.slice y.u.g.a y.u.g.n y.u.g.c) ∧ W.cell? ⟨q, 3, none⟩ = some (.slice y.u.r.a y.u.r.n y.u.r.c) ∧ W.cell? ⟨q, 4, none⟩ = some (.int .i64 y.u.a.o) ∧ W.cell? ⟨q, 5, none⟩ = some (.slice y.u.a.p.a y.u.a.p.n y.u.a.p.c) ∧ W.cell? ⟨q, 6, none⟩ = some (.int .u32 y.u.a.nx) ∧ W.cell? ⟨q, 7, none⟩ = some (.int .i64 y.u.a.md) ∧ W.cell? ⟨q, 8, none⟩ = some (.int .i64 y.u.a.pf) ∧ W.cell? ⟨q, 9, none⟩ = some (.slice y.u.a.c.a y.u.a.c.n y.u.a.c.c) ∧ W.cell? ⟨q, 10, none⟩ = some (.bool y.u.soft) := ⟨cell_of h rfl, cell_of h rfl, cell_of h rfl, cell_of h rfl, cell_of h rfl, cell_of h rfl, cell_of h rfl, cell_of h rfl, cell_of h rfl, cell_of h rfl, cell_of h rfl⟩
structure DoB (qo : Nat) (y : OpV) (W : World) : Prop where
  b : BxOp qo y W
  t : True
def DoQ (V : World) (b q : Nat) (asn room : Int) (S : List Rt) (rf : Int) (m : Nat) (P : World → Prop) (w' : World) : Prop := ∃ S' rf' s', DoS V b q asn room S' rf' s' P w' ∧ S'.length ≤ S.length + m ∧ (0 ≤ rf' ∧ rf' ≤ rf + m)
set_option maxRecDepth 100000 in
set_option maxHeartbeats 16000000 in
theorem rdo_any {V W : World} {b q : Nat} {asn room : Int} {S : List Rt} {rf : Int} {s : SlV RtV} {P : World → Prop} (h : DoS V b q asn room S rf s P W) {y : OpV} (hy : OpOk V y) (hn : S.length + y.u.r.n ≤ 7000 ∧ y.u.g.n ≤ 3000 ∧ y.u.r.n ≤ 3000) (hrf : 0 ≤ rf ∧ rf + y.u.r.n ≤ 900000000) : Calls Tryz.prog 25 #[.pointer (some ⟨b, 0, none⟩), .pointer (some ⟨q, 0, none⟩), .agg #[.int .i64 y.k, .int .i64 y.r, .slice y.u.g.a y.u.g.n y.u.g.c, .slice y.u.r.a y.u.r.n y.u.r.c, .int .i64 y.u.a.o, .slice y.u.a.p.a y.u.a.p.n y.u.a.p.c, .int .u32 y.u.a.nx, .int .i64 y.u.a.md, .int .i64 y.u.a.pf, .slice y.u.a.c.a y.u.a.c.n y.u.a.c.c, .bool y.u.soft]] W fun e w' => e = .returned (.bool true) ∧ DoQ V b q asn room S rf y.u.r.n P w' := by
  have hal := (Below.refl W.heap.size W).alloc (Nat.le_refl _) (.cells #[.int .i64 y.k, .int .i64 y.r, .slice y.u.g.a y.u.g.n y.u.g.c, .slice y.u.r.a y.u.r.n y.u.r.c, .int .i64 y.u.a.o, .slice y.u.a.p.a y.u.a.p.n y.u.a.p.c, .int .u32 y.u.a.nx, .int .i64 y.u.a.md, .int .i64 y.u.a.pf, .slice y.u.a.c.a y.u.a.c.n y.u.a.c.c, .bool y.u.soft] 53)
  have hbo : BxOp W.heap.size y (W.alloc (.cells #[.int .i64 y.k, .int .i64 y.r, .slice y.u.g.a y.u.g.n y.u.g.c, .slice y.u.r.a y.u.r.n y.u.r.c, .int .i64 y.u.a.o, .slice y.u.a.p.a y.u.a.p.n y.u.a.p.c, .int .u32 y.u.a.nx, .int .i64 y.u.a.md, .int .i64 y.u.a.pf, .slice y.u.a.c.a y.u.a.c.n y.u.a.c.c, .bool y.u.soft] 53)) := hnew _ _
  have hlv := h.lv.addB hal (Nat.le_refl _) hbo
  have HN := Lib.hid (And.intro hn (And.intro hrf h.len))
  have F0 := Lib.hid (And.intro hlv (And.intro ((hal.block _ (lt_of_blk h.blk)).trans h.blk) h.ok))
  have HY := Lib.hid hy
  obtain ⟨c0, c1, c2, c3, c4, c5, c6, c7, c8, c9, c10⟩ := hbo.cells
  clear hal hbo hlv h hy hn hrf
  by_cases hk : y.k = 2
  · have e1 : (y.k == 2) = true := by simp [hk]
    clear hk
    go_enter Tryz.func25, Tryz.ntmps25
    go_wp2_with fail
    clear c0 c1 c2 c3 c4 c5 c6 c7 c8 c9 c10 e1
    generalize W.alloc (.cells #[.int .i64 y.k, .int .i64 y.r, .slice y.u.g.a y.u.g.n y.u.g.c, .slice y.u.r.a y.u.r.n y.u.r.c, .int .i64 y.u.a.o, .slice y.u.a.p.a y.u.a.p.n y.u.a.p.c, .int .u32 y.u.a.nx, .int .i64 y.u.a.md, .int .i64 y.u.a.pf, .slice y.u.a.c.a y.u.a.c.n y.u.a.c.c, .bool y.u.soft] 53) = W1 at *
    generalize W.heap.size = qo at *
    refine wp_region_heldP (DoB qo y) (by kernel_rfl) ?_
    have hd := (Below.refl W1.heap.size W1).drew
    have F1 := Lib.hid (And.intro (F0.out.1.keep hd) (And.intro ((hd.block _ (lt_of_blk F0.out.2.1)).trans F0.out.2.1) F0.out.2.2))
    have HFL := Lib.hid (lvx_flush F1.out.1 (by have := HN.out.1; omega) y.r)
    have HS1 := Lib.hid (show DoB qo y W1.drew from ⟨F1.out.1.now.2, trivial⟩)
    generalize W1.drew = W2 at *
    clear hd F0
    refine held_reads [0, 1, 2, 4, 5, 6] (g := 4) rfl (by kernel_rfl) HS1.out (fun _ _ d _ _ h => by cases d <;> exact h) ?_
    simp only [pick, List.getD_cons_zero, List.getD_cons_succ]
    iterate 2 ((with_reducible refine wpRead_step (fun K hK => ?_)); go_simp; first | ((with_reducible refine hK _ ?_); clear hK K) | (apply Exists.intro; (with_reducible refine ⟨fun w' hw' => ?_, hK _ ?_⟩); (first | exact rfl | exact ⟨rfl, rfl⟩); clear hK K))
    ((with_reducible refine wpRead_step (fun K hK => ?_)); go_simp; first | ((with_reducible refine hK _ ?_); clear hK K) | (apply Exists.intro; (with_reducible refine ⟨fun w' hw' => ?_, hK _ ?_⟩); ((have f0 := cell_of (o := 1) hw'.b rfl; go_simp; first | exact rfl | exact ⟨rfl, rfl⟩)); clear hK K))
    iterate 2 ((with_reducible refine wpRead_step (fun K hK => ?_)); go_simp; first | ((with_reducible refine hK _ ?_); clear hK K) | (apply Exists.intro; (with_reducible refine ⟨fun w' hw' => ?_, hK _ ?_⟩); (first | exact rfl | exact ⟨rfl, rfl⟩); clear hK K))
    ((with_reducible refine wpRead_step (fun K hK => ?_)); go_simp; first | ((with_reducible refine hK _ ?_); clear hK K) | (apply Exists.intro; (with_reducible refine ⟨fun w' hw' => ?_, hK _ ?_⟩); ((have f0 := cell_of (o := 1) hw'.b rfl; go_simp; first | exact rfl | exact ⟨rfl, rfl⟩)); clear hK K))
    with_reducible refine wpRead_nil ?_
    refine held_one 3 (by kernel_rfl) ?_
    simp only [pick, List.getD_cons_zero, List.getD_cons_succ]
    go_wp2_with fail
    refine (HFL.out).mono ?_
    rintro e W3 ⟨⟨s1a, s1n, s1c, s1l⟩, rfl, hc1, hst, hX1⟩
    dsimp only at hc1 hst ⊢
    have F3 := Lib.hid (And.intro hst (And.intro ((hX1 q rfl).trans F1.out.2.1) hc1))
    have HS3 := Lib.hid (show DoB qo y W3 from ⟨hst.now.1.2, trivial⟩)
    clear hst hX1 hc1 HFL HS1
    go_wp2_with fail
    refine ⟨HS3.out, ?_⟩
    obtain ⟨F, hFq, hFl, hFP, hFK⟩ := LvX.split F3.out.1 (q := q) rfl
    have hRF : RefF F W3 q asn room rf s := ⟨F3.out.2.1, hFP.imp fun _ h => h.1.1.1, hFq, fun k hk => (hFl k hk).2⟩
    have HXA := Lib.hid (xflush_any hRF F1.out.2.2.ord (by have h1 := HN.out.1; have h2 := HN.out.2.2; omega) y.r)
    have HF := Lib.hid (And.intro hFP (And.intro hFK hRF))
    clear hFq hFl hFP hFK hRF
    refine held_one 7 (by kernel_rfl) ?_
    simp only [pick, List.getD_cons_zero, List.getD_cons_succ]
    go_wp2_with fail
    refine (HXA.out).mono ?_
    rintro e W4 ⟨v, rfl, out, s', hown, hch, hrf', hl', hbt⟩
    obtain ⟨⟨ua, un, uc, ul⟩, rfl, hul, hu1, -, -⟩ := Own_slok (ok := okT) hown (fun _ _ => trivial)
    dsimp only at hul
    subst hul
    have hP4 := hold_but HF.out.1 HF.out.2.2.fq hbt
    have hro' : RefOk s'.l (flushR y.r S) := by
      rw [hl']
      exact F1.out.2.2.flush y.r
    have heq : s1l = ul := F3.out.2.2.unique (RefOk.chg hro' (F1.out.1.rok.filter _) F1.out.2.2 F1.out.1.rok hch)
    subst heq
    have HS := psame_any hP4.now.2.sl hu1.sl
    rw [decide_eq_true rfl] at HS
    have HS := Lib.hid HS
    have F4 := Lib.hid (show DoS V b q asn room (flushR y.r S) rf s' P W4 from ⟨HF.out.2.1 W4 _ hbt (hrf'.hd.and (hP4.imp fun _ h => h.1.1.2)), hrf'.blk, hro'⟩)
    have HS4 := Lib.hid (show DoB qo y W4 from ⟨hP4.now.1.2, trivial⟩)
    clear hown hch hrf' hro' hl' hbt hu1 hP4 HXA
    go_wp2_with fail
    refine ⟨HS4.out, ?_⟩
    refine held_one 8 (by kernel_rfl) ?_
    simp only [pick, List.getD_cons_zero, List.getD_cons_succ]
    go_wp2_with fail
    refine (HS.out).mono ?_
    rintro e W5 ⟨rfl, hb⟩
    have F5 := Lib.hid (F4.out.keep hb)
    have HS5 := Lib.hid (show DoB qo y W5 from ⟨(hb.block _ (lt_of_blk HS4.out.b)).trans HS4.out.b, trivial⟩)
    clear hb HS HS4
    go_wp2_with fail
    refine ⟨HS5.out, ?_⟩
    refine held_one 9 (by kernel_rfl) ?_
    simp only [pick, List.getD_cons_zero, List.getD_cons_succ]
    go_wp2_with fail
    refine ⟨HS5.out, ?_⟩
    refine wpAnyH_done (by kernel_rfl) ?_ _
    go_wp2_with fail
    go_ret
    have hfl : (flushR y.r S).length ≤ S.length := List.length_filter_le _ _
    refine ⟨rfl, _, rf, s', F5.out, Nat.le_trans hfl (Nat.le_add_right _ _), ?_⟩
    have := HN.out.2.1
    omega
  · have e1 : (y.k == 2) = false := by simpa using hk
    clear hk
    obtain ⟨m, hm⟩ : ∃ m, mayR y.r y.u.up = m := ⟨_, rfl⟩
    have HM := fun W (h : UpOk W y.u) => rmay_any h y.r
    rw [hm] at HM
    unfold UpV.v at HM
    have HM := Lib.hid HM
    have HMV := Lib.hid hm
    clear hm
    cases m with
    | false =>
      have HA := lv_bad F0.out.1.lvs (HY.out.2.2.keep F0.out.1.bw) (r := y.r) HMV.out
      unfold UpV.v at HA
      have HA := Lib.hid HA
      go_enter Tryz.func25, Tryz.ntmps25
      go_wp2_with fail
      generalize W.alloc (.cells #[.int .i64 y.k, .int .i64 y.r, .slice y.u.g.a y.u.g.n y.u.g.c, .slice y.u.r.a y.u.r.n y.u.r.c, .int .i64 y.u.a.o, .slice y.u.a.p.a y.u.a.p.n y.u.a.p.c, .int .u32 y.u.a.nx, .int .i64 y.u.a.md, .int .i64 y.u.a.pf, .slice y.u.a.c.a y.u.a.c.n y.u.a.c.c, .bool y.u.soft] 53) = W1 at *
      generalize W.heap.size = qo at *
      refine (HA.out).mono ?_
      rintro e W2 ⟨rfl, -, hb⟩
      have F2 := Lib.hid (And.intro (F0.out.1.keep hb) (And.intro ((hb.block _ (lt_of_blk F0.out.2.1)).trans F0.out.2.1) F0.out.2.2))
      clear hb HA c0 c1 c2 c3 c4 c5 c6 c7 c8 c9 c10
      have hbo : BxOp qo y W2 := F2.out.1.now.2
      obtain ⟨c0, c1, c2, c3, c4, c5, c6, c7, c8, c9, c10⟩ := hbo.cells
      clear hbo
      go_wp2_with fail
      refine (HM.out _ (HY.out.2.2.keep F2.out.1.bw)).mono ?_
      rintro e W3 ⟨rfl, hb⟩
      have F3 := Lib.hid (And.intro (F2.out.1.keep hb) (And.intro ((hb.block _ (lt_of_blk F2.out.2.1)).trans F2.out.2.1) F2.out.2.2))
      clear hb HM
      go_wp2_with fail
      go_ret
      refine ⟨rfl, S, rf, s, ⟨F3.out.1.imp fun _ h => h.1, F3.out.2.1, F3.out.2.2⟩, Nat.le_add_right _ _, ?_⟩
      have := HN.out.2.1
      omega
    | true =>
      have HA := lvx_apply F0.out.1 (Below.refl _ _) (fun F hF => HY.out.2.2.holdL F0.out.1.bw F fun k hk => (hF k hk).1) HMV.out ⟨by have := HN.out.1; omega, by have := HN.out.1; omega⟩ (by have := HN.out.1; omega) (by have := HN.out.2.1; omega)
      unfold UpV.v at HA
      have HA := Lib.hid HA
      go_enter Tryz.func25, Tryz.ntmps25
      go_wp2_with fail
      generalize W.alloc (.cells #[.int .i64 y.k, .int .i64 y.r, .slice y.u.g.a y.u.g.n y.u.g.c, .slice y.u.r.a y.u.r.n y.u.r.c, .int .i64 y.u.a.o, .slice y.u.a.p.a y.u.a.p.n y.u.a.p.c, .int .u32 y.u.a.nx, .int .i64 y.u.a.md, .int .i64 y.u.a.pf, .slice y.u.a.c.a y.u.a.c.n y.u.a.c.c, .bool y.u.soft] 53) = W1 at *
      generalize W.heap.size = qo at *
      refine (HA.out).mono ?_
      rintro e W2 ⟨⟨s1a, s1n, s1c, s1l⟩, rfl, hc1, hst, hX1⟩
      dsimp only at hc1 hst ⊢
      have F2 := Lib.hid (And.intro hst (And.intro ((hX1 q rfl).trans F0.out.2.1) hc1))
      clear hst hX1 hc1 HA c0 c1 c2 c3 c4 c5 c6 c7 c8 c9 c10
      have hbo : BxOp qo y W2 := F2.out.1.now.1.2
      obtain ⟨c0, c1, c2, c3, c4, c5, c6, c7, c8, c9, c10⟩ := hbo.cells
      clear hbo
      go_wp2_with fail
      refine (HM.out _ (HY.out.2.2.keep F2.out.1.bw)).mono ?_
      rintro e W3 ⟨rfl, hb⟩
      have F3 := Lib.hid (And.intro (F2.out.1.keep hb) (And.intro ((hb.block _ (lt_of_blk F2.out.2.1)).trans F2.out.2.1) F2.out.2.2))
      clear hb HM F2 c0 c1 c2 c3 c4 c5 c6 c7 c8 c9 c10
      have hbo : BxOp qo y W3 := F3.out.1.now.1.2
      obtain ⟨c0, c1, c2, c3, c4, c5, c6, c7, c8, c9, c10⟩ := hbo.cells
      clear hbo
      obtain ⟨F, hFq, hFl, hFP, hFK⟩ := LvX.split F3.out.1 (q := q) rfl
      have hRF : RefF F W3 q asn room rf s := ⟨F3.out.2.1, hFP.imp fun _ h => h.1.1.1, hFq, fun k hk => (hFl k hk).2⟩
      have HXA := xapply_any hRF F0.out.2.2 F0.out.1.rok (x := y.u) (HY.out.2.2.holdL F3.out.1.bw F fun k hk => (hFl k hk).1) HMV.out (by have h1 := HN.out.1; have h2 := HN.out.2.2; omega) (by have := HN.out.2.1; omega)
      unfold UpV.v at HXA
      have HXA := Lib.hid HXA
      have HF := Lib.hid (And.intro hFP (And.intro hFK hRF))
      clear hFq hFl hFP hFK hRF
      go_wp2_with fail
      refine (HXA.out).mono ?_
      rintro e W4 ⟨v, rfl, out, s', rf', hown, hch, hrf', hro', hre', hbt⟩
      obtain ⟨⟨ua, un, uc, ul⟩, rfl, hul, hu1, -, -⟩ := Own_slok (ok := okT) hown (fun _ _ => trivial)
      dsimp only at hul
      subst hul
      have hP4 := hold_but HF.out.1 HF.out.2.2.fq hbt
      have heq : s1l = ul := F3.out.2.2.unique (RefOk.chg hro' (ROk.apply (s := (S, rf)) F0.out.1.rok (may_range HMV.out).1) F0.out.2.2 F0.out.1.rok hch)
      subst heq
      have HS := psame_any hP4.now.2.sl hu1.sl
      rw [decide_eq_true rfl] at HS
      have HS := Lib.hid HS
      have F4 := Lib.hid (show DoS V b q asn room (applyR asn room y.r y.u.up (S, rf)).1 rf' s' P W4 from ⟨by rw [hre']; exact HF.out.2.1 W4 _ hbt (hrf'.hd.and (hP4.imp fun _ h => h.1.1.2)), hrf'.blk, hro'⟩)
      have HRE := Lib.hid hre'
      clear hown hch hrf' hro' hre' hbt hu1 hP4 HXA
      go_wp2_with fail
      refine (HS.out).mono ?_
      rintro e W5 ⟨rfl, hb⟩
      have F5 := Lib.hid (F4.out.keep hb)
      clear hb HS
      go_wp2_with fail
      go_ret
      have hal1 := apply_len (asn := asn) (room := room) (u := y.u.up) (s := (S, rf)) F0.out.1.rok (may_range HMV.out).1
      have hal2 := apply_ref (asn := asn) (room := room) (r := y.r) (u := y.u.up) (s := (S, rf))
      have hln : y.u.up.routes.length = y.u.r.n := HY.out.2.2.r.sl.len.symm
      rw [hln] at hal1 hal2
      refine ⟨rfl, _, _, s', F5.out, hal1, ?_⟩
      rw [HRE.out]
      have := HN.out.2.1
      dsimp only at hal2
      omega
end Go.Proofs.YtadoflcomienoaaGreat.Rr
/- alike: both tell the same. -/
namespace Go.Proofs.YtadoflcomienoaaGreat.Rr
open Go.RowKit

structure AlS (V : World) (b q : Nat) (asn room : Int) (S : List Rt) (rf : Int) (s : SlV RtV) (P : World → Prop) (b0 o0 : Nat) (k : PK) (W : World) : Prop where
  d : DoS V b q asn room S rf s P W
  p : RPk.At W b0 o0 k
theorem AlS.keep {V : World} {b q : Nat} {asn room : Int} {S : List Rt} {rf : Int} {s : SlV RtV} {P : World → Prop} {b0 o0 : Nat} {k : PK} {W W' : World} (h : AlS V b q asn room S rf s P b0 o0 k W) (hb : Below W.heap.size W W') : AlS V b q asn room S rf s P b0 o0 k W' :=
  ⟨h.d.keep hb, fun j hj => (hb.cell (World.block_lt_of_cell? _ _ (by rw [h.p j hj, List.getElem?_eq_getElem (by rw [RPk.len]; exact hj)]))).trans (h.p j hj)⟩
theorem lvx_kok {w W : World} {X : Nat → Prop} {b : Nat} {asn room ref : Int} {S : List Rt} {P : World → Prop} (h : LvX w X b asn room S ref P W) : ∀ x ∈ S, KOk x.r x.k x.i := by
  obtain ⟨R, n, G, h1, h2, rfl, h4, h5, h6, h7⟩ := h
  intro x hx
  obtain ⟨y, hy, rfl⟩ := List.mem_map.1 hx
  exact h2.okx y hy
theorem lvx_routes {w W : World} {X : Nat → Prop} {b : Nat} {asn room ref : Int} {S : List Rt} {P : World → Prop} (h : LvX w X b asn room S ref P W) (hS : S.length ≤ 4000000) {k : PK} (hk : k.1 < 4294967296 ∧ I64 k.2) : Calls Tryz.prog 32 #[.pointer (some ⟨b, 0, none⟩), pfx k.1 k.2] W fun e w' => ∃ s : SlV RtV, e = .returned (.slice s.a s.n s.c) ∧ s.l.map RtV.rt = routesR S k ∧ HoldF (fun k => k < W.heap.size) w' (fun V => SlOk RRt RtOk V s) ∧ Below W.heap.size W w' := by
  obtain ⟨R, n, G, rfl, h2, h3, h4, h5, h6, h7⟩ := h
  have hGl : G.length = S.length := by rw [← h3, List.length_map]
  refine (routes_any h2 hk (by rw [hGl]; exact hS)).mono ?_
  rintro e w' ⟨s, rfl, hs1, hs2, hb⟩
  rw [h3] at hs2
  exact ⟨s, rfl, hs2, hs1.hold fun k hk => hk, hb⟩
theorem cnt_eq {L : List RtV} {S : List Rt} (h : RefOk L S) (hS : ROk S) (r : Int) : cntR S r = (((L.filter fun x => decide (x.r = r)).length : Nat) : Int) := by
  have h1 := (((h.perm hS).filter fun x => decide (x.r = r))).length_eq
  rw [List.filter_map, List.length_map] at h1
  unfold cntR
  rw [← h1]
  rfl
set_option maxRecDepth 100000 in
set_option maxHeartbeats 16000000 in
theorem alike_any {V W : World} {b q : Nat} {asn room : Int} {S : List Rt} {rf : Int} {s : SlV RtV} {P : World → Prop} (h : DoS V b q asn room S rf s P W) (hn : S.length ≤ 7000) {r : Int} (hr : I64 r) : Calls Tryz.prog 26 #[.pointer (some ⟨b, 0, none⟩), .pointer (some ⟨q, 0, none⟩), .int .i64 r] W fun e w' => e = .returned (.bool true) ∧ Below W.heap.size W w' := by
  have HP := Lib.hid (xprefixes_any (s := s) ⟨h.blk, h.lv.now.1⟩ h.ok.ord (by have := h.len; omega))
  have HN := Lib.hid hn
  have HR0 := Lib.hid hr
  have n1 : ((S.length : Int) != (s.n : Int)) = false := by rw [h.len]; simp
  have n2 : (cntR S r != (((s.l.filter fun x => decide (x.r = r)).length : Nat) : Int)) = false := by rw [cnt_eq h.ok h.lv.rok]; simp
  have n3 : (rf != rf) = false := by simp
  have F0 := Lib.hid h
  clear h hn hr
  go_enter Tryz.func26, Tryz.ntmps26
  go_wp2_with fail
  refine (HP.out).mono ?_
  rintro e W1 ⟨v, A, rfl, hown, hpf, hb⟩
  obtain ⟨⟨pa, pn, pc, pl⟩, rfl, hpl, hp1, -, -⟩ := Own_slok (ok := okT) hown (fun _ _ => trivial)
  dsimp only at hpl
  subst hpl
  have F1 := Lib.hid (And.intro (F0.out.keep hb) (And.intro (Below.refl W1.heap.size W1) hb))
  have HPS := Lib.hid hp1
  have HPL := Lib.hid hpf
  clear hown hpf hb hp1 HP F0
  go_wp2_with fail
  refine wp_region_heldP (DoS V b q asn room S rf s P) (by kernel_rfl) ?_
  have F2 := Lib.hid (F1.out.1.keep ((Below.refl W1.heap.size W1).drew))
  have G2 := Lib.hid (bcall F1.out.2.1 (Nat.le_refl _) ((Below.refl W1.heap.size W1).drew))
  generalize W1.drew = W2 at *
  have HSM := Lib.hid (lv_small F2.out.lv.lvs)
  refine held_reads [0, 2, 3, 4, 5, 6] (g := 27) rfl (by kernel_rfl) F2.out (fun _ _ d _ _ h => by cases d <;> exact h) ?_
  simp only [pick, List.getD_cons_zero, List.getD_cons_succ]
  iterate 4 ((with_reducible refine wpRead_step (fun K hK => ?_)); go_simp; first | (rw [if_neg (by decide)]; (with_reducible refine hK _ ?_); clear hK K) | ((with_reducible refine hK _ ?_); clear hK K) | (apply Exists.intro; (with_reducible refine ⟨fun w' hw' => ?_, hK _ ?_⟩); ((go_simp; first | exact rfl | exact ⟨rfl, rfl⟩)); clear hK K))
  ((with_reducible refine wpRead_step (fun K hK => ?_)); go_simp; first | ((with_reducible refine hK _ ?_); clear hK K) | (apply Exists.intro; (with_reducible refine ⟨fun w' hw' => ?_, hK _ ?_⟩); ((have f0 := cell_of (o := 0) hw'.blk rfl; go_simp; first | exact rfl | exact ⟨rfl, rfl⟩)); clear hK K))
  ((with_reducible refine wpRead_step (fun K hK => ?_)); go_simp; first | (rw [if_neg (by decide)]; (with_reducible refine hK _ ?_); clear hK K) | ((with_reducible refine hK _ ?_); clear hK K) | (apply Exists.intro; (with_reducible refine ⟨fun w' hw' => ?_, hK _ ?_⟩); ((go_simp; first | exact rfl | exact ⟨rfl, rfl⟩)); clear hK K))
  with_reducible refine wpRead_nil ?_
  refine held_one 1 (by kernel_rfl) ?_
  simp only [pick, List.getD_cons_zero, List.getD_cons_succ]
  go_wp2_with fail
  refine (HSM.out.1).mono ?_
  rintro e W9 ⟨rfl, hw⟩
  have hw := hw.symm
  subst hw
  go_wp2_with fail
  refine ⟨F2.out, ?_⟩
  refine held_reads [7, 8, 9, 11, 12, 13, 14] (g := 19) rfl (by kernel_rfl) F2.out (fun _ _ d _ _ h => by cases d <;> exact h) ?_
  simp only [pick, List.getD_cons_zero, List.getD_cons_succ]
  iterate 6 ((with_reducible refine wpRead_step (fun K hK => ?_)); go_simp; first | (rw [if_neg (by decide)]; (with_reducible refine hK _ ?_); clear hK K) | ((with_reducible refine hK _ ?_); clear hK K) | (apply Exists.intro; (with_reducible refine ⟨fun w' hw' => ?_, hK _ ?_⟩); ((go_simp; first | exact rfl | exact ⟨rfl, rfl⟩)); clear hK K))
  ((with_reducible refine wpRead_step (fun K hK => ?_)); go_simp; first | (rw [if_neg (by decide)]; (with_reducible refine hK _ ?_); clear hK K) | ((with_reducible refine hK _ ?_); clear hK K) | (apply Exists.intro; (with_reducible refine ⟨fun w' hw' => ?_, hK _ ?_⟩); ((have f0 := cell_of (o := 3) hw'.blk rfl; go_simp; first | exact rfl | exact ⟨rfl, rfl⟩)); clear hK K))
  with_reducible refine wpRead_nil ?_
  refine held_one 10 (by kernel_rfl) ?_
  simp only [pick, List.getD_cons_zero, List.getD_cons_succ]
  go_wp2_with fail
  refine (HSM.out.2.1).mono ?_
  rintro e W9 ⟨rfl, hw⟩
  have hw := hw.symm
  subst hw
  go_wp2_with fail
  refine ⟨F2.out, ?_⟩
  refine held_reads [15, 16, 17, 18, 19, 21, 22] (g := 11) rfl (by kernel_rfl) F2.out (fun _ _ d _ _ h => by cases d <;> exact h) ?_
  simp only [pick, List.getD_cons_zero, List.getD_cons_succ]
  iterate 7 ((with_reducible refine wpRead_step (fun K hK => ?_)); go_simp; first | (rw [if_neg (by decide)]; (with_reducible refine hK _ ?_); clear hK K) | ((with_reducible refine hK _ ?_); clear hK K) | (apply Exists.intro; (with_reducible refine ⟨fun w' hw' => ?_, hK _ ?_⟩); ((go_simp; first | exact rfl | exact ⟨rfl, rfl⟩)); clear hK K))
  with_reducible refine wpRead_nil ?_
  refine held_one 20 (by kernel_rfl) ?_
  simp only [pick, List.getD_cons_zero, List.getD_cons_succ]
  go_wp2_with fail
  refine (HSM.out.2.2 r HR0.out).mono ?_
  rintro e W9 ⟨rfl, hw⟩
  have hw := hw.symm
  subst hw
  go_wp2_with fail
  refine ⟨F2.out, ?_⟩
  have HOF := Lib.hid (xof_any (s := s) ⟨F2.out.blk, F2.out.lv.now.1⟩ r)
  refine held_one 23 (by kernel_rfl) ?_
  simp only [pick, List.getD_cons_zero, List.getD_cons_succ]
  go_wp2_with fail
  refine (HOF.out).mono ?_
  rintro e W3 ⟨rfl, hb⟩
  have F3 := Lib.hid (F2.out.keep hb)
  have G3 := Lib.hid (bcall G2.out (Nat.le_refl _) hb)
  clear hb HOF F2 G2 HSM
  go_wp2_with fail
  refine ⟨F3.out, ?_⟩
  have HPX := Lib.hid (lv_prefixes F3.out.lv.lvs (by have := HN.out; omega))
  refine held_reads [24, 25, 26, 27, 29] (g := 4) rfl (by kernel_rfl) F3.out (fun _ _ d _ _ h => by cases d <;> exact h) ?_
  simp only [pick, List.getD_cons_zero, List.getD_cons_succ]
  iterate 5 ((with_reducible refine wpRead_step (fun K hK => ?_)); go_simp; first | (rw [if_neg (by decide)]; (with_reducible refine hK _ ?_); clear hK K) | ((with_reducible refine hK _ ?_); clear hK K) | (apply Exists.intro; (with_reducible refine ⟨fun w' hw' => ?_, hK _ ?_⟩); ((go_simp; first | exact rfl | exact ⟨rfl, rfl⟩)); clear hK K))
  with_reducible refine wpRead_nil ?_
  refine held_one 28 (by kernel_rfl) ?_
  simp only [pick, List.getD_cons_zero, List.getD_cons_succ]
  go_wp2_with fail
  refine (HPX.out).mono ?_
  rintro e W4 ⟨v, L2, rfl, ho2, hp2, hb, -⟩
  obtain ⟨⟨ua, un, uc, ul⟩, rfl, hul, hu1, -, -⟩ := Own_slok (ok := okT) ho2 (fun _ _ => trivial)
  dsimp only at hul
  subst hul
  have heq : ul = pl := ordK_ext hp2.ord HPL.out.ord fun k => by
    rw [hp2.is, HPL.out.is]
    constructor
    · rintro ⟨z, hz, hk⟩
      obtain ⟨x, hx, rfl⟩ := List.mem_map.1 ((F3.out.ok.mem z).2 hz)
      exact ⟨x, hx, hk⟩
    · rintro ⟨x, hx, hk⟩
      exact ⟨x.rt, (F3.out.ok.mem _).1 (List.mem_map.2 ⟨x, hx, rfl⟩), hk⟩
  subst heq
  have G4 := Lib.hid (bcall G3.out (Nat.le_refl _) hb)
  have HS := psame_any hu1.sl (HPS.out.keep G4.out fun _ _ _ => trivial).sl
  rw [decide_eq_true rfl] at HS
  have HS := Lib.hid HS
  have F4 := Lib.hid (F3.out.keep hb)
  clear ho2 hp2 hb hu1 HPX F3 G3
  go_wp2_with fail
  refine ⟨F4.out, ?_⟩
  refine held_one 30 (by kernel_rfl) ?_
  simp only [pick, List.getD_cons_zero, List.getD_cons_succ]
  go_wp2_with fail
  refine (HS.out).mono ?_
  rintro e W5 ⟨rfl, hb⟩
  have F5 := Lib.hid (F4.out.keep hb)
  have G5 := Lib.hid (bcall G4.out (Nat.le_refl _) hb)
  clear hb HS F4 G4
  go_wp2_with fail
  refine ⟨F5.out, ?_⟩
  refine held_reads [31, 32] (g := 0) rfl (by kernel_rfl) F5.out (fun _ _ d _ _ h => by cases d <;> exact h) ?_
  simp only [pick, List.getD_cons_zero, List.getD_cons_succ]
  iterate 2 ((with_reducible refine wpRead_step (fun K hK => ?_)); go_simp; first | (rw [if_neg (by decide)]; (with_reducible refine hK _ ?_); clear hK K) | ((with_reducible refine hK _ ?_); clear hK K) | (apply Exists.intro; (with_reducible refine ⟨fun w' hw' => ?_, hK _ ?_⟩); ((go_simp; first | exact rfl | exact ⟨rfl, rfl⟩)); clear hK K))
  with_reducible refine wpRead_nil ?_
  refine wpAnyH_done (by kernel_rfl) ?_ _
  clear n1 n2 n3
  go_wp2_with fail
  go_loopw [8] (fun iv wr => ∃ i : Nat, i ≤ pn ∧ iv = .int .i64 i ∧ Below W5.heap.size W5 wr) (fun iv _ => pn - (intOf iv).toNat)
  case atStart => exact ⟨0, Nat.zero_le _, rfl, Below.refl _ _⟩
  case round =>
    obtain ⟨i, hi, rfl, hb⟩ := hrel
    obtain ⟨w2, rfl⟩ : ∃ w2 : World, w2 = wr := ⟨_, rfl⟩
    by_cases hlt : i < pn
    · have hil : ((i : Int) < (pn : Int)) = True := by simp; omega
      have hi0 : ((0 : Int) ≤ (i : Int)) = True := by simp
      have hw3 := wrapS hlt HPS.out.sl.max
      have hd := (Below.refl w2.heap.size w2).drew
      have hbd := bcall hb (Nat.le_refl _) hd
      have hiL : i < ul.length := by have := HPS.out.sl.len; dsimp only at this; omega
      obtain ⟨b0, o0, ea, -, hat⟩ := (HPS.out.keep (bcall G5.out (Nat.le_refl _) hbd) fun _ _ _ => trivial).sl.at hlt
      dsimp only at ea hat
      subst ea
      have hmem := getD_mem (M := ul) (i := i) hiL
      generalize ul.getD i default = k at *
      have hkk : k.1 < 4294967296 ∧ I64 k.2 := by
        obtain ⟨x, hx, rfl⟩ := (HPL.out.is k).1 hmem
        have h1 := lvx_kok F5.out.lv _ ((F5.out.ok.mem _).1 (List.mem_map.2 ⟨x, hx, rfl⟩))
        exact ⟨h1.a, by have h2 := okP_iff.1 h1.p; show I64 x.k.2; have h3 : x.rt.k = x.k := rfl; rw [h3] at h2; unfold I64; omega⟩
      have HS0 := Lib.hid (show AlS V b q asn room S rf s P b0 (o0 + i * 2) k w2.drew from ⟨F5.out.keep hbd, hat⟩)
      have HR1 := lvx_routes HS0.out.d.lv (by have := HN.out; omega) hkk
      unfold pfx at HR1
      have HR1 := Lib.hid HR1
      have K0 := Lib.hid hbd
      clear hb hd hbd hiL hat hmem hkk
      go_wp2_with fail
      refine wp_region_heldP (AlS V b q asn room S rf s P b0 (o0 + i * 2) k) (by kernel_rfl) ?_
      generalize w2.drew = w3 at *
      refine held_reads [0, 1, 2, 3, 4, 6, 7, 8, 9, 10] (g := 4) rfl (by kernel_rfl) HS0.out (fun _ _ d _ _ h => by cases d <;> exact h) ?_
      simp only [pick, List.getD_cons_zero, List.getD_cons_succ]
      iterate 4 ((with_reducible refine wpRead_step (fun K hK => ?_)); go_simp; first | (rw [if_neg (by decide)]; (with_reducible refine hK _ ?_); clear hK K) | ((with_reducible refine hK _ ?_); clear hK K) | (apply Exists.intro; (with_reducible refine ⟨fun w' hw' => ?_, hK _ ?_⟩); ((go_simp; first | exact rfl | exact ⟨rfl, rfl⟩)); clear hK K))
      with_reducible refine wpRead_yes ?_ ?_
      rotate_left
      rfl
      intro K hK
      refine read_load 58 _ rfl b0 (o0 + i * 2) #[.int .u32 (k.1 : Int), .int .i64 k.2] rfl (fun w' hw' => at_rangeP (hw'.p)) Tryz.underlying58 rfl (by kernel_rfl) (hK _ ?_)
      clear hK K
      iterate 4 ((with_reducible refine wpRead_step (fun K hK => ?_)); go_simp; first | (rw [if_neg (by decide)]; (with_reducible refine hK _ ?_); clear hK K) | ((with_reducible refine hK _ ?_); clear hK K) | (apply Exists.intro; (with_reducible refine ⟨fun w' hw' => ?_, hK _ ?_⟩); ((go_simp; first | exact rfl | exact ⟨rfl, rfl⟩)); clear hK K))
      with_reducible refine wpRead_yes ?_ ?_
      rotate_left
      rfl
      intro K hK
      refine read_load 58 _ rfl b0 (o0 + i * 2) #[.int .u32 (k.1 : Int), .int .i64 k.2] rfl (fun w' hw' => at_rangeP (hw'.p)) Tryz.underlying58 rfl (by kernel_rfl) (hK _ ?_)
      clear hK K
      with_reducible refine wpRead_nil ?_
      refine held_one 5 (by kernel_rfl) ?_
      simp only [pick, List.getD_cons_zero, List.getD_cons_succ]
      go_wp2_with fail
      refine (HR1.out).mono ?_
      rintro e w4 ⟨⟨sa, sn, sc, sl⟩, rfl, hs1, hs2, hb⟩
      dsimp only at hs1 hs2 ⊢
      have HR2 := xroutes_any (s := s) ⟨(HS0.out.d.keep hb).blk, (HS0.out.d.keep hb).lv.now.1⟩ (by have h1 := HS0.out.d.len; have h2 := HN.out; omega) k
      unfold pfx at HR2
      have HR2 := Lib.hid HR2
      have HS1 := Lib.hid (HS0.out.keep hb)
      have K1 := Lib.hid (And.intro hs2.now (And.intro hs1 (bcall K0.out (Nat.le_refl _) hb)))
      clear hs1 hs2 hb HR1 HS0 K0
      go_wp2_with fail
      refine ⟨HS1.out, ?_⟩
      refine held_one 11 (by kernel_rfl) ?_
      simp only [pick, List.getD_cons_zero, List.getD_cons_succ]
      go_wp2_with fail
      refine (HR2.out).mono ?_
      rintro e w5 ⟨v, rfl, hown, hb⟩
      obtain ⟨⟨ta, tn, tc, tl⟩, rfl, htl, ht1, -, -⟩ := Own_slok (ok := RtOk) hown (fun z hz => (HS1.out.d.lv.now.1.all z (List.mem_filter.1 hz).1).keep hb)
      dsimp only at htl
      subst htl
      have HSS := srsame_any (K1.out.1.keep hb fun _ _ h => h.keep hb) ht1
      rw [K1.out.2.1, show (s.l.filter fun x => decide (x.k = k)).map RtV.rt = routesR S k from HS1.out.d.ok.routes HS1.out.d.lv.rok k, decide_eq_true rfl] at HSS
      have HSS := Lib.hid HSS
      have HS2 := Lib.hid (HS1.out.keep hb)
      have K2 := Lib.hid (bcall K1.out.2.2 (Nat.le_refl _) hb)
      clear hown hb ht1 HR2 HS1 K1
      go_wp2_with fail
      refine ⟨HS2.out, ?_⟩
      refine held_one 12 (by kernel_rfl) ?_
      simp only [pick, List.getD_cons_zero, List.getD_cons_succ]
      go_wp2_with fail
      refine (HSS.out).mono ?_
      rintro e w6 ⟨rfl, hb⟩
      have HS3 := Lib.hid (HS2.out.keep hb)
      have K3 := Lib.hid (bcall K2.out (Nat.le_refl _) hb)
      clear hb HSS HS2 K2
      go_wp2_with fail
      refine ⟨HS3.out, ?_⟩
      refine held_reads [13] (g := 0) rfl (by kernel_rfl) HS3.out (fun _ _ d _ _ h => by cases d <;> exact h) ?_
      simp only [pick, List.getD_cons_zero, List.getD_cons_succ]
      ((with_reducible refine wpRead_step (fun K hK => ?_)); go_simp; first | (rw [if_neg (by decide)]; (with_reducible refine hK _ ?_); clear hK K) | ((with_reducible refine hK _ ?_); clear hK K) | (apply Exists.intro; (with_reducible refine ⟨fun w' hw' => ?_, hK _ ?_⟩); ((go_simp; first | exact rfl | exact ⟨rfl, rfl⟩)); clear hK K))
      with_reducible refine wpRead_nil ?_
      refine wpAnyH_done (by kernel_rfl) ?_ _
      go_wp2_with fail
      exact ⟨⟨i + 1, hlt, by first | rw [hw3] | rw [Int.natCast_succ], K3.out⟩, by first | (rw [hw3]; exact mSucc hlt) | (rw [← Int.natCast_succ]; exact mSucc hlt)⟩
    · obtain rfl : pn = i := by omega
      have hil : ((pn : Int) < (pn : Int)) = False := by simp
      have HE := Lib.hid (F1.out.2.2.trans ((bcall G5.out (Nat.le_refl _) hb).mono F1.out.2.2.size))
      clear hb hi
      go_wp2_with fail
      go_ret
      exact ⟨rfl, HE.out⟩
end Go.Proofs.YtadoflcomienoaaGreat.Rr
