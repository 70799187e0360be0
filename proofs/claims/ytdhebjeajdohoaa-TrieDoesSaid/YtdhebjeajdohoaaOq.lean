/- Prefixes that come in. -/
import Derived.Test.YtdhebjeajdohoaaLv
import Derived.Test.YtdhebjeajdohoaaIh
import Derived.Test.YtdhebjeajdohoaaOp
namespace Go.Proofs.Ytdhebjeajdohoaa
open Go.ChangeShapes Go.WideShapes Go.ChangeAt Go.RowKit Go.Deep

def I3 (n : Int) : Prop := -9223372036854775808 ≤ n ∧ n ≤ 9223372036854775807
theorem reads3 : Reads Try.prog 3 (fun n : Int => [.int .i64 n]) (fun _ n => I3 n) := (Reads.int Try.underlying3).conv fun _ n h => ⟨n, rfl, wf64 h⟩
theorem reads23 : Reads Try.prog 23 (fun n : Nat => [.int .u32 n]) (fun _ n => n < 4294967296) := (Reads.int Try.underlying23).conv fun _ n h => by
  obtain ⟨h1, h2⟩ := wfu32 h
  obtain ⟨k, rfl⟩ := Int.eq_ofNat_of_zero_le h1
  exact ⟨k, rfl, by omega⟩
/-- a prefix that comes in -/
def RQ : Rep (Nat × Int) := ⟨32, 2, by decide, fun x => [.int .u32 x.1, .int .i64 x.2], fun _ => rfl, fun _ => rfl⟩
def okQ (x : Nat × Int) : Prop := x.1 < 4294967296 ∧ I3 x.2
set_option maxRecDepth 100000 in
theorem reads32 : Reads Try.prog 32 (RQ.cells) (fun _ x => okQ x) :=
  ⟨fun {H enc w spare held fuel cs x} h => by
    obtain ⟨hl, hf⟩ := Reads.fields Try.underlying32 h
    rw [show Try.prog.cellsOf 32 = 2 by kernel_rfl] at hl
    obtain ⟨c0, c1, rfl⟩ : ∃ c0 c1, cs = [c0, c1] := by
      match cs, hl with
      | [c0, c1], _ => exact ⟨c0, c1, rfl⟩
    obtain ⟨n0, y0, h0⟩ := hf 0 _ rfl
    have h0 : DataW.trod enc Try.prog w 0 spare held n0 23 [c0] = some y0 := by
      have q : Try.prog.cellsOf 23 = 1 := by kernel_rfl
      have z : DataW.trod enc Try.prog w 0 spare held n0 23 (([c0, c1].drop 0).take (Try.prog.cellsOf 23)) = some y0 := h0
      rw [q] at z; exact z
    obtain ⟨a0, e0, k0⟩ := (reads23).read h0
    obtain ⟨n1, y1, h1⟩ := hf 1 _ rfl
    have h1 : DataW.trod enc Try.prog w 0 spare held n1 3 [c1] = some y1 := by
      have q : Try.prog.cellsOf 3 = 1 := by kernel_rfl
      have z : DataW.trod enc Try.prog w 0 spare held n1 3 (([c0, c1].drop 1).take (Try.prog.cellsOf 3)) = some y1 := h1
      rw [q] at z; exact z
    obtain ⟨a1, e1, k1⟩ := (reads3).read h1
    simp only [List.cons.injEq, and_true] at e0 e1
    subst e0
    subst e1
    exact ⟨(a0, a1), rfl, ⟨k0, k1⟩⟩⟩
theorem reads41 : Reads Try.prog 41 (fun s : SlV (Nat × Int) => [.slice s.a s.n s.c]) (SlOk RQ fun _ x => okQ x) := Reads.slice (R := RQ) Try.underlying41 (by kernel_rfl) reads32
theorem own : ownKnob Try.prog.godebug = none := by kernel_rfl
theorem laidOut : laidOutB Try.prog = true := by kernel_rfl
theorem u32_nat {n : Int} (h : (Lit.int .u32 n).wf = true) : ∃ k : Nat, n = k ∧ k < 4294967296 := by
  obtain ⟨h1, h2⟩ := wfu32 h
  obtain ⟨k, rfl⟩ := Int.eq_ofNat_of_zero_le h1
  exact ⟨k, rfl, by omega⟩
end Go.Proofs.Ytdhebjeajdohoaa
