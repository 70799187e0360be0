/- Arguments that come in. -/
import Derived.Test.YtlkbaplfffbmkaaKao
import Derived.SizedLaws
import Derived.Test.YtlkbaplfffbmkaaKam
import Derived.Test.YtlkbaplfffbmkaaKan
namespace Go.Proofs.Ytlkbaplfffbmkaa
open Go.ChangeShapes Go.WideShapes Go.ChangeAt Go.RowKit Go.Deep

theorem reads3 : Reads Try.prog 3 (fun n : Int => [.int .i64 n]) (fun _ n => I3 n) := (Reads.int Try.underlying3).conv fun _ n h => ⟨n, rfl, wf64 h⟩
theorem readsU : Reads Try.prog 23 (fun n : Nat => [.int .u32 (n : Int)]) (fun _ n => n < 4294967296) := (Reads.int Try.underlying23).conv fun _ n h => ⟨n.toNat, by rw [Int.toNat_of_nonneg (wfu32 h).1], by have := wfu32 h; omega⟩
theorem u32_nat {a : Int} (h : (Lit.int .u32 a).wf = true) : ∃ k : Nat, a = k ∧ k < 4294967296 := ⟨a.toNat, by rw [Int.toNat_of_nonneg (wfu32 h).1], by have := wfu32 h; omega⟩
def ifIn (_w : World) (x : If) : Prop := x.ad < 4294967296 ∧ I3 x.id ∧ I3 x.r ∧ I3 x.ln
set_option maxRecDepth 100000 in
theorem readsP : Reads Try.prog 32 (fun p : Nat × Int => [.int .u32 (p.1 : Int), .int .i64 p.2]) (fun _ p => p.1 < 4294967296 ∧ I3 p.2) :=
  ⟨fun {H enc w spare held fuel cs x} h => by
    obtain ⟨hl, hf⟩ := Reads.fields Try.underlying32 h
    rw [show Try.prog.cellsOf 32 = 2 by kernel_rfl] at hl
    obtain ⟨c0, c1, rfl⟩ : ∃ c0 c1, cs = [c0, c1] := by
      match cs, hl with
      | [c0, c1], _ => exact ⟨c0, c1, rfl⟩
    obtain ⟨n0, y0, h0⟩ := hf 0 _ rfl
    have h0 : DataW.trod enc Try.prog w 0 spare held n0 23 [c0] = some y0 := by
      have q : Try.prog.cellsOf 23 = 1 := by kernel_rfl
      have z : DataW.trod enc Try.prog w 0 spare held n0 23 (([c0, c1].drop 0).take (Try.prog.cellsOf 23)) = some y0 := h0
      rw [q] at z; exact z
    obtain ⟨a0, e0, k0⟩ := (readsU).read h0
    obtain ⟨n1, y1, h1⟩ := hf 1 _ rfl
    have h1 : DataW.trod enc Try.prog w 0 spare held n1 3 [c1] = some y1 := by
      have q : Try.prog.cellsOf 3 = 1 := by kernel_rfl
      have z : DataW.trod enc Try.prog w 0 spare held n1 3 (([c0, c1].drop 1).take (Try.prog.cellsOf 3)) = some y1 := h1
      rw [q] at z; exact z
    obtain ⟨a1, e1, k1⟩ := (reads3).read h1
    simp only [List.cons.injEq, and_true] at e0 e1
    subst e0
    subst e1
    exact ⟨(a0, a1), rfl, ⟨k0, k1⟩⟩⟩
set_option maxRecDepth 100000 in
theorem readsI : Reads Try.prog 34 (RIf.cells) (ifIn) :=
  ⟨fun {H enc w spare held fuel cs x} h => by
    obtain ⟨hl, hf⟩ := Reads.fields Try.underlying34 h
    rw [show Try.prog.cellsOf 34 = 5 by kernel_rfl] at hl
    obtain ⟨c0, c1, c2, c3, c4, rfl⟩ : ∃ c0 c1 c2 c3 c4, cs = [c0, c1, c2, c3, c4] := by
      match cs, hl with
      | [c0, c1, c2, c3, c4], _ => exact ⟨c0, c1, c2, c3, c4, rfl⟩
    obtain ⟨n0, y0, h0⟩ := hf 0 _ rfl
    have h0 : DataW.trod enc Try.prog w 0 spare held n0 3 [c0] = some y0 := by
      have q : Try.prog.cellsOf 3 = 1 := by kernel_rfl
      have z : DataW.trod enc Try.prog w 0 spare held n0 3 (([c0, c1, c2, c3, c4].drop 0).take (Try.prog.cellsOf 3)) = some y0 := h0
      rw [q] at z; exact z
    obtain ⟨a0, e0, k0⟩ := (reads3).read h0
    obtain ⟨n1, y1, h1⟩ := hf 1 _ rfl
    have h1 : DataW.trod enc Try.prog w 0 spare held n1 3 [c1] = some y1 := by
      have q : Try.prog.cellsOf 3 = 1 := by kernel_rfl
      have z : DataW.trod enc Try.prog w 0 spare held n1 3 (([c0, c1, c2, c3, c4].drop 1).take (Try.prog.cellsOf 3)) = some y1 := h1
      rw [q] at z; exact z
    obtain ⟨a1, e1, k1⟩ := (reads3).read h1
    obtain ⟨n2, y2, h2⟩ := hf 2 _ rfl
    have h2 : DataW.trod enc Try.prog w 0 spare held n2 32 [c2, c3] = some y2 := by
      have q : Try.prog.cellsOf 32 = 2 := by kernel_rfl
      have z : DataW.trod enc Try.prog w 0 spare held n2 32 (([c0, c1, c2, c3, c4].drop 2).take (Try.prog.cellsOf 32)) = some y2 := h2
      rw [q] at z; exact z
    obtain ⟨a2, e2, k2⟩ := (readsP).read h2
    obtain ⟨n3, y3, h3⟩ := hf 3 _ rfl
    have h3 : DataW.trod enc Try.prog w 0 spare held n3 3 [c4] = some y3 := by
      have q : Try.prog.cellsOf 3 = 1 := by kernel_rfl
      have z : DataW.trod enc Try.prog w 0 spare held n3 3 (([c0, c1, c2, c3, c4].drop 4).take (Try.prog.cellsOf 3)) = some y3 := h3
      rw [q] at z; exact z
    obtain ⟨a3, e3, k3⟩ := (reads3).read h3
    simp only [List.cons.injEq, and_true] at e0 e1 e2 e3
    subst e0
    subst e1
    obtain ⟨rfl, rfl⟩ := e2
    subst e3
    exact ⟨⟨a0, a1, a2.1, a2.2, a3⟩, rfl, ⟨k2.1, k0, k1, k2.2⟩⟩⟩
theorem readsS : Reads Try.prog 22 (fun s : SlV If => [.slice s.a s.n s.c]) (SlOk RIf ifIn) := Reads.slice (R := RIf) Try.underlying22 (by kernel_rfl) readsI
theorem ifsW_of {w : World} {s : SlV If} (h : SlOk RIf ifIn w s) : IfsW w s.a s.n s.c s.l := ⟨⟨h.sl, fun x hx => (h.all x hx).1⟩, fun x hx => by
  obtain ⟨h1, h2, h3, h4⟩ := h.all x hx
  exact ⟨wfI h2, wfI h3, wfU ⟨Int.natCast_nonneg _, by show (x.ad : Int) ≤ 4294967295; omega⟩, wfI h4⟩⟩
theorem own : ownKnob Try.prog.godebug = none := by kernel_rfl
theorem roomS {H : Type} {enc : TypeId × Value → H} {W : World} {sp : Nat → Bool} {held : Bool} {ts : List TypeId} {ds : List (DataW H)} (h : (DataW.weightsEach Try.prog ts ds).all (· ≤ reachBytes) = true) {a : Option Addr} {n c : Nat} {d : DataW H} {p : List MemPlace} (h0 : DataW.Trod enc Try.prog W 0 sp held 22 (.slice a n c) d p) (ht : ts[0]? = some 22) (hd : ds[0]? = some d) : n * 40 ≤ 140737488351232 := by
  obtain ⟨fuel, hf⟩ := h0
  rcases open_slice Try.underlying22 hf with ⟨e, _⟩ | ⟨a', len, cap, m, nn, D, Pl, e, -, hl, -, hmm, ed, -⟩
  · simp [Value.cells] at e
    omega
  · simp [Value.cells] at e
    injection ed with ed1 ed2
    rw [ed1] at hd
    have := sized_slice h ht hd Try.underlying22
    rw [show Try.prog.bytesOf 34 = 40 from by kernel_rfl] at this
    simp only [List.length_map, List.length_range] at this
    have hr : reachBytes = 140737488351232 := rfl
    rw [hr] at this
    obtain ⟨-, rfl, -⟩ := e
    exact Nat.le_trans (Nat.mul_le_mul_right _ (Nat.le_add_right _ _)) this
theorem hfinds_i {w : World} {s : SlV If} (h : SlOk RIf ifIn w s) (ρ : Int) {a : Int} (ha : (Lit.int .u32 a).wf = true) {id : Int} (hid : (Lit.int .i64 id).wf = true) : Calls Try.prog 3 #[.slice s.a s.n s.c, .int .i64 ρ, .int .u32 a, .int .i64 id] w fun e w' => e = .returned (.bool true) ∧ Below w.heap.size w w' := by
  obtain ⟨k, rfl, hk⟩ := u32_nat ha
  exact hfinds_law (ifsW_of h) ρ hk hid
theorem hord_i {w : World} {s : SlV If} (h : SlOk RIf ifIn w s) {turn : Int} (ht : (Lit.int .i64 turn).wf = true) (ρ : Int) {a : Int} (ha : (Lit.int .u32 a).wf = true) : Calls Try.prog 4 #[.slice s.a s.n s.c, .int .i64 turn, .int .i64 ρ, .int .u32 a] w fun e w' => e = .returned (.bool true) ∧ Below w.heap.size w w' := by
  obtain ⟨k, rfl, hk⟩ := u32_nat ha
  exact hord_law (ifsW_of h) h.nc h.cm (wf64 ht) ρ hk
theorem hshort_i {w : World} {s : SlV If} (h : SlOk RIf ifIn w s) (hroom : s.n * 40 ≤ 140737488351232) {id : Int} (hid : (Lit.int .i64 id).wf = true) {ρ : Int} (hρ : (Lit.int .i64 ρ).wf = true) {a : Int} (ha : (Lit.int .u32 a).wf = true) : Calls Try.prog 5 #[.slice s.a s.n s.c, .int .i64 id, .int .i64 ρ, .int .u32 a] w fun e w' => e = .returned (.bool true) ∧ Below w.heap.size w w' := by
  obtain ⟨k, rfl, hk⟩ := u32_nat ha
  exact hshort_law (ifsW_of h) h.nil hroom (wf64 hid) (wf64 hρ) hk
end Go.Proofs.Ytlkbaplfffbmkaa
/- Arguments that come in: chapter 18. -/
namespace Go.Proofs.Ytlkbaplfffbmkaa
open Go.ChangeShapes Go.WideShapes Go.ChangeAt Go.RowKit Go.Deep

theorem reads4 : Reads Try.prog 4 (fun b : Bool => [.bool b]) (fun _ _ => True) := Reads.bool Try.underlying4
def cyIn (_w : World) (y : Cy) : Prop := I3 y.id ∧ I3 y.cp
set_option maxRecDepth 100000 in
theorem readsC : Reads Try.prog 69 (RCy.cells) (cyIn) :=
  ⟨fun {H enc w spare held fuel cs x} h => by
    obtain ⟨hl, hf⟩ := Reads.fields Try.underlying69 h
    rw [show Try.prog.cellsOf 69 = 3 by kernel_rfl] at hl
    obtain ⟨c0, c1, c2, rfl⟩ : ∃ c0 c1 c2, cs = [c0, c1, c2] := by
      match cs, hl with
      | [c0, c1, c2], _ => exact ⟨c0, c1, c2, rfl⟩
    obtain ⟨n0, y0, h0⟩ := hf 0 _ rfl
    have h0 : DataW.trod enc Try.prog w 0 spare held n0 3 [c0] = some y0 := by
      have q : Try.prog.cellsOf 3 = 1 := by kernel_rfl
      have z : DataW.trod enc Try.prog w 0 spare held n0 3 (([c0, c1, c2].drop 0).take (Try.prog.cellsOf 3)) = some y0 := h0
      rw [q] at z; exact z
    obtain ⟨a0, e0, k0⟩ := (reads3).read h0
    obtain ⟨n1, y1, h1⟩ := hf 1 _ rfl
    have h1 : DataW.trod enc Try.prog w 0 spare held n1 3 [c1] = some y1 := by
      have q : Try.prog.cellsOf 3 = 1 := by kernel_rfl
      have z : DataW.trod enc Try.prog w 0 spare held n1 3 (([c0, c1, c2].drop 1).take (Try.prog.cellsOf 3)) = some y1 := h1
      rw [q] at z; exact z
    obtain ⟨a1, e1, k1⟩ := (reads3).read h1
    obtain ⟨n2, y2, h2⟩ := hf 2 _ rfl
    have h2 : DataW.trod enc Try.prog w 0 spare held n2 4 [c2] = some y2 := by
      have q : Try.prog.cellsOf 4 = 1 := by kernel_rfl
      have z : DataW.trod enc Try.prog w 0 spare held n2 4 (([c0, c1, c2].drop 2).take (Try.prog.cellsOf 4)) = some y2 := h2
      rw [q] at z; exact z
    obtain ⟨a2, e2, k2⟩ := (reads4).read h2
    simp only [List.cons.injEq, and_true] at e0 e1 e2
    subst e0
    subst e1
    subst e2
    exact ⟨⟨a0, a1, a2⟩, rfl, ⟨k0, k1⟩⟩⟩
theorem readsCl : Reads Try.prog 53 (fun s : SlV Cy => [.slice s.a s.n s.c]) (SlOk RCy cyIn) := Reads.slice (R := RCy) Try.underlying53 (by kernel_rfl) readsC
theorem cys_of {w : World} {s : SlV Cy} (h : SlOk RCy cyIn w s) : Cys w s.a s.n s.c s.l := ⟨h.sl, fun y hy => wfI (h.all y hy).1⟩
set_option maxRecDepth 100000 in
theorem readsCs : Reads Try.prog 55 (fun p : Int × Int × SlV Cy => [.int .i64 p.1, .int .i64 p.2.1, .slice p.2.2.a p.2.2.n p.2.2.c]) (fun w p => SlOk RCy cyIn w p.2.2) :=
  ⟨fun {H enc w spare held fuel cs x} h => by
    obtain ⟨hl, hf⟩ := Reads.fields Try.underlying55 h
    rw [show Try.prog.cellsOf 55 = 3 by kernel_rfl] at hl
    obtain ⟨c0, c1, c2, rfl⟩ : ∃ c0 c1 c2, cs = [c0, c1, c2] := by
      match cs, hl with
      | [c0, c1, c2], _ => exact ⟨c0, c1, c2, rfl⟩
    obtain ⟨n0, y0, h0⟩ := hf 0 _ rfl
    have h0 : DataW.trod enc Try.prog w 0 spare held n0 3 [c0] = some y0 := by
      have q : Try.prog.cellsOf 3 = 1 := by kernel_rfl
      have z : DataW.trod enc Try.prog w 0 spare held n0 3 (([c0, c1, c2].drop 0).take (Try.prog.cellsOf 3)) = some y0 := h0
      rw [q] at z; exact z
    obtain ⟨a0, e0, k0⟩ := (reads3).read h0
    obtain ⟨n1, y1, h1⟩ := hf 1 _ rfl
    have h1 : DataW.trod enc Try.prog w 0 spare held n1 3 [c1] = some y1 := by
      have q : Try.prog.cellsOf 3 = 1 := by kernel_rfl
      have z : DataW.trod enc Try.prog w 0 spare held n1 3 (([c0, c1, c2].drop 1).take (Try.prog.cellsOf 3)) = some y1 := h1
      rw [q] at z; exact z
    obtain ⟨a1, e1, k1⟩ := (reads3).read h1
    obtain ⟨n2, y2, h2⟩ := hf 2 _ rfl
    have h2 : DataW.trod enc Try.prog w 0 spare held n2 53 [c2] = some y2 := by
      have q : Try.prog.cellsOf 53 = 1 := by kernel_rfl
      have z : DataW.trod enc Try.prog w 0 spare held n2 53 (([c0, c1, c2].drop 2).take (Try.prog.cellsOf 53)) = some y2 := h2
      rw [q] at z; exact z
    obtain ⟨a2, e2, k2⟩ := (readsCl).read h2
    simp only [List.cons.injEq, and_true] at e0 e1 e2
    subst e0
    subst e1
    subst e2
    exact ⟨(a0, a1, a2), rfl, k2⟩⟩
def opIn (w : World) (y : OpV) : Prop := ∃ M, Cys w y.a y.n y.c M
set_option maxRecDepth 100000 in
theorem readsOp : Reads Try.prog 57 (ROp.cells) (opIn) :=
  ⟨fun {H enc w spare held fuel cs x} h => by
    obtain ⟨hl, hf⟩ := Reads.fields Try.underlying57 h
    rw [show Try.prog.cellsOf 57 = 4 by kernel_rfl] at hl
    obtain ⟨c0, c1, c2, c3, rfl⟩ : ∃ c0 c1 c2 c3, cs = [c0, c1, c2, c3] := by
      match cs, hl with
      | [c0, c1, c2, c3], _ => exact ⟨c0, c1, c2, c3, rfl⟩
    obtain ⟨n0, y0, h0⟩ := hf 0 _ rfl
    have h0 : DataW.trod enc Try.prog w 0 spare held n0 55 [c0, c1, c2] = some y0 := by
      have q : Try.prog.cellsOf 55 = 3 := by kernel_rfl
      have z : DataW.trod enc Try.prog w 0 spare held n0 55 (([c0, c1, c2, c3].drop 0).take (Try.prog.cellsOf 55)) = some y0 := h0
      rw [q] at z; exact z
    obtain ⟨a0, e0, k0⟩ := (readsCs).read h0
    obtain ⟨n1, y1, h1⟩ := hf 1 _ rfl
    have h1 : DataW.trod enc Try.prog w 0 spare held n1 3 [c3] = some y1 := by
      have q : Try.prog.cellsOf 3 = 1 := by kernel_rfl
      have z : DataW.trod enc Try.prog w 0 spare held n1 3 (([c0, c1, c2, c3].drop 3).take (Try.prog.cellsOf 3)) = some y1 := h1
      rw [q] at z; exact z
    obtain ⟨a1, e1, k1⟩ := (reads3).read h1
    simp only [List.cons.injEq, and_true] at e0 e1
    obtain ⟨rfl, rfl, rfl⟩ := e0
    subst e1
    exact ⟨⟨a0.1, a0.2.1, a0.2.2.a, a0.2.2.n, a0.2.2.c, a1⟩, rfl, ⟨_, cys_of k0⟩⟩⟩
theorem readsOps : Reads Try.prog 47 (fun s : SlV OpV => [.slice s.a s.n s.c]) (SlOk ROp opIn) := Reads.slice (R := ROp) Try.underlying47 (by kernel_rfl) readsOp
theorem climits_i {w : World} {x : If} (h : ifIn w x) (a b : Int) (d : Bool) : Calls Try.prog 9 #[.agg (RIf.cells x).toArray, .int .i64 a, .int .i64 b, .bool d] w fun e w' => e = .returned (.bool true) ∧ Below w.heap.size w w' := by
  obtain ⟨h1, h2, -, h4⟩ := h
  exact climits_law (id := x.id) (r0 := x.r) (ln := x.ln) (cp := x.cp) h1 (wfI h2) (wfI h4) a b d
theorem cstays_i {w : World} {s : SlV If} {o : SlV OpV} {y : OpV} (h : SlOk RIf ifIn w s) (ho : SlOk ROp opIn w o) (hy : opIn w y) : Calls Try.prog 8 #[.slice s.a s.n s.c, .slice o.a o.n o.c, .agg (ROp.cells y).toArray] w fun e w' => e = .returned (.bool true) ∧ Below w.heap.size w w' :=
  cstays_law (ifsW_of h) ho.sl ho.all y hy
theorem ctakes_i {w : World} {s : SlV If} {o : SlV OpV} (h : SlOk RIf ifIn w s) (ho : SlOk ROp opIn w o) (p : Int) : Calls Try.prog 7 #[.slice s.a s.n s.c, .slice o.a o.n o.c, .int .i64 p] w fun e w' => e = .returned (.bool true) ∧ Below w.heap.size w w' :=
  ctakes_law (ifsW_of h) ho.sl ho.all p
end Go.Proofs.Ytlkbaplfffbmkaa
