/- Arguments that come in. -/
import Derived.Test.YtlkbaplfffbmkaaBm
import Derived.Test.YtlkbaplfffbmkaaOp
import Derived.SizedLaws
namespace Go.Proofs.Ytlkbaplfffbmkaa
open Go.ChangeShapes Go.WideShapes Go.ChangeAt Go.RowKit Go.Deep

theorem reads3 : Reads Try.prog 3 (fun n : Int => [.int .i64 n]) (fun _ n => I3 n) := (Reads.int Try.underlying3).conv fun _ n h => ⟨n, rfl, wf64 h⟩
theorem readsU : Reads Try.prog 23 (fun n : Nat => [.int .u32 (n : Int)]) (fun _ n => n < 4294967296) := (Reads.int Try.underlying23).conv fun _ n h => ⟨n.toNat, by rw [Int.toNat_of_nonneg (wfu32 h).1], by have := wfu32 h; omega⟩
theorem u32_nat {a : Int} (h : (Lit.int .u32 a).wf = true) : ∃ k : Nat, a = k ∧ k < 4294967296 := ⟨a.toNat, by rw [Int.toNat_of_nonneg (wfu32 h).1], by have := wfu32 h; omega⟩
def ifIn (_w : World) (x : If) : Prop := x.ad < 4294967296 ∧ I3 x.id ∧ I3 x.r ∧ I3 x.ln
set_option maxRecDepth 100000 in
theorem readsP : Reads Try.prog 32 (fun p : Nat × Int => [.int .u32 (p.1 : Int), .int .i64 p.2]) (fun _ p => p.1 < 4294967296 ∧ I3 p.2) :=
  ⟨fun {H enc w spare held fuel cs x} h => by
    obtain ⟨hl, hf⟩ := Reads.fields Try.underlying32 h
    rw [show Try.prog.cellsOf 32 = 2 by kernel_rfl] at hl
    obtain ⟨c0, c1, rfl⟩ : ∃ c0 c1, cs = [c0, c1] := by
      match cs, hl with
      | [c0, c1], _ => exact ⟨c0, c1, rfl⟩
    obtain ⟨n0, y0, h0⟩ := hf 0 _ rfl
    have h0 : DataW.trod enc Try.prog w 0 spare held n0 23 [c0] = some y0 := by
      have q : Try.prog.cellsOf 23 = 1 := by kernel_rfl
      have z : DataW.trod enc Try.prog w 0 spare held n0 23 (([c0, c1].drop 0).take (Try.prog.cellsOf 23)) = some y0 := h0
      rw [q] at z; exact z
    obtain ⟨a0, e0, k0⟩ := (readsU).read h0
    obtain ⟨n1, y1, h1⟩ := hf 1 _ rfl
    have h1 : DataW.trod enc Try.prog w 0 spare held n1 3 [c1] = some y1 := by
      have q : Try.prog.cellsOf 3 = 1 := by kernel_rfl
      have z : DataW.trod enc Try.prog w 0 spare held n1 3 (([c0, c1].drop 1).take (Try.prog.cellsOf 3)) = some y1 := h1
      rw [q] at z; exact z
    obtain ⟨a1, e1, k1⟩ := (reads3).read h1
    simp only [List.cons.injEq, and_true] at e0 e1
    subst e0
    subst e1
    exact ⟨(a0, a1), rfl, ⟨k0, k1⟩⟩⟩
set_option maxRecDepth 100000 in
theorem readsI : Reads Try.prog 34 (RIf.cells) (ifIn) :=
  ⟨fun {H enc w spare held fuel cs x} h => by
    obtain ⟨hl, hf⟩ := Reads.fields Try.underlying34 h
    rw [show Try.prog.cellsOf 34 = 5 by kernel_rfl] at hl
    obtain ⟨c0, c1, c2, c3, c4, rfl⟩ : ∃ c0 c1 c2 c3 c4, cs = [c0, c1, c2, c3, c4] := by
      match cs, hl with
      | [c0, c1, c2, c3, c4], _ => exact ⟨c0, c1, c2, c3, c4, rfl⟩
    obtain ⟨n0, y0, h0⟩ := hf 0 _ rfl
    have h0 : DataW.trod enc Try.prog w 0 spare held n0 3 [c0] = some y0 := by
      have q : Try.prog.cellsOf 3 = 1 := by kernel_rfl
      have z : DataW.trod enc Try.prog w 0 spare held n0 3 (([c0, c1, c2, c3, c4].drop 0).take (Try.prog.cellsOf 3)) = some y0 := h0
      rw [q] at z; exact z
    obtain ⟨a0, e0, k0⟩ := (reads3).read h0
    obtain ⟨n1, y1, h1⟩ := hf 1 _ rfl
    have h1 : DataW.trod enc Try.prog w 0 spare held n1 3 [c1] = some y1 := by
      have q : Try.prog.cellsOf 3 = 1 := by kernel_rfl
      have z : DataW.trod enc Try.prog w 0 spare held n1 3 (([c0, c1, c2, c3, c4].drop 1).take (Try.prog.cellsOf 3)) = some y1 := h1
      rw [q] at z; exact z
    obtain ⟨a1, e1, k1⟩ := (reads3).read h1
    obtain ⟨n2, y2, h2⟩ := hf 2 _ rfl
    have h2 : DataW.trod enc Try.prog w 0 spare held n2 32 [c2, c3] = some y2 := by
      have q : Try.prog.cellsOf 32 = 2 := by kernel_rfl
      have z : DataW.trod enc Try.prog w 0 spare held n2 32 (([c0, c1, c2, c3, c4].drop 2).take (Try.prog.cellsOf 32)) = some y2 := h2
      rw [q] at z; exact z
    obtain ⟨a2, e2, k2⟩ := (readsP).read h2
    obtain ⟨n3, y3, h3⟩ := hf 3 _ rfl
    have h3 : DataW.trod enc Try.prog w 0 spare held n3 3 [c4] = some y3 := by
      have q : Try.prog.cellsOf 3 = 1 := by kernel_rfl
      have z : DataW.trod enc Try.prog w 0 spare held n3 3 (([c0, c1, c2, c3, c4].drop 4).take (Try.prog.cellsOf 3)) = some y3 := h3
      rw [q] at z; exact z
    obtain ⟨a3, e3, k3⟩ := (reads3).read h3
    simp only [List.cons.injEq, and_true] at e0 e1 e2 e3
    subst e0
    subst e1
    obtain ⟨rfl, rfl⟩ := e2
    subst e3
    exact ⟨⟨a0, a1, a2.1, a2.2, a3⟩, rfl, ⟨k2.1, k0, k1, k2.2⟩⟩⟩
theorem readsS : Reads Try.prog 22 (fun s : SlV If => [.slice s.a s.n s.c]) (SlOk RIf ifIn) := Reads.slice (R := RIf) Try.underlying22 (by kernel_rfl) readsI
theorem ifsW_of {w : World} {s : SlV If} (h : SlOk RIf ifIn w s) : IfsW w s.a s.n s.c s.l := ⟨⟨h.sl, fun x hx => (h.all x hx).1⟩, fun x hx => by
  obtain ⟨h1, h2, h3, h4⟩ := h.all x hx
  exact ⟨wfI h2, wfI h3, wfU ⟨Int.natCast_nonneg _, by show (x.ad : Int) ≤ 4294967295; omega⟩, wfI h4⟩⟩
theorem own : ownKnob Try.prog.godebug = none := by kernel_rfl
theorem roomS {H : Type} {enc : TypeId × Value → H} {W : World} {sp : Nat → Bool} {held : Bool} {ts : List TypeId} {ds : List (DataW H)} (h : (DataW.weightsEach Try.prog ts ds).all (· ≤ reachBytes) = true) {a : Option Addr} {n c : Nat} {d : DataW H} {p : List MemPlace} (h0 : DataW.Trod enc Try.prog W 0 sp held 22 (.slice a n c) d p) (ht : ts[0]? = some 22) (hd : ds[0]? = some d) : n * 40 ≤ 140737488351232 := by
  obtain ⟨fuel, hf⟩ := h0
  rcases open_slice Try.underlying22 hf with ⟨e, _⟩ | ⟨a', len, cap, m, nn, D, Pl, e, -, hl, -, hmm, ed, -⟩
  · simp [Value.cells] at e
    omega
  · simp [Value.cells] at e
    injection ed with ed1 ed2
    rw [ed1] at hd
    have := sized_slice h ht hd Try.underlying22
    rw [show Try.prog.bytesOf 34 = 40 from by kernel_rfl] at this
    simp only [List.length_map, List.length_range] at this
    have hr : reachBytes = 140737488351232 := rfl
    rw [hr] at this
    obtain ⟨-, rfl, -⟩ := e
    exact Nat.le_trans (Nat.mul_le_mul_right _ (Nat.le_add_right _ _)) this
theorem hfinds_i {w : World} {s : SlV If} (h : SlOk RIf ifIn w s) (ρ : Int) {a : Int} (ha : (Lit.int .u32 a).wf = true) {id : Int} (hid : (Lit.int .i64 id).wf = true) : Calls Try.prog 3 #[.slice s.a s.n s.c, .int .i64 ρ, .int .u32 a, .int .i64 id] w fun e w' => e = .returned (.bool true) ∧ Below w.heap.size w w' := by
  obtain ⟨k, rfl, hk⟩ := u32_nat ha
  exact hfinds_law (ifsW_of h) ρ hk hid
theorem hord_i {w : World} {s : SlV If} (h : SlOk RIf ifIn w s) {turn : Int} (ht : (Lit.int .i64 turn).wf = true) (ρ : Int) {a : Int} (ha : (Lit.int .u32 a).wf = true) : Calls Try.prog 4 #[.slice s.a s.n s.c, .int .i64 turn, .int .i64 ρ, .int .u32 a] w fun e w' => e = .returned (.bool true) ∧ Below w.heap.size w w' := by
  obtain ⟨k, rfl, hk⟩ := u32_nat ha
  exact hord_law (ifsW_of h) h.nc h.cm (wf64 ht) ρ hk
theorem hshort_i {w : World} {s : SlV If} (h : SlOk RIf ifIn w s) (hroom : s.n * 40 ≤ 140737488351232) {id : Int} (hid : (Lit.int .i64 id).wf = true) {ρ : Int} (hρ : (Lit.int .i64 ρ).wf = true) {a : Int} (ha : (Lit.int .u32 a).wf = true) : Calls Try.prog 5 #[.slice s.a s.n s.c, .int .i64 id, .int .i64 ρ, .int .u32 a] w fun e w' => e = .returned (.bool true) ∧ Below w.heap.size w w' := by
  obtain ⟨k, rfl, hk⟩ := u32_nat ha
  exact hshort_law (ifsW_of h) h.nil hroom (wf64 hid) (wf64 hρ) hk
end Go.Proofs.Ytlkbaplfffbmkaa
