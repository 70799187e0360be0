/-
  No cell of these rows narrows 'for every input' (looked for: loops, veiled, ifaces, maps, wideKeys, modest, calm, conditions, laid).
  DERIVED. THE GIVEN ROWS OF THIS SEAT. 3 by the template 'for every input the law returns true; each argument reads behind the call as it read before'; 0 by the template 'total and deterministic' (their statements: YtcbpdjenncbbeaaTotals.lean).
  GIVEN WITH THE SEED: the statements are not yours to turn. If you find one false, say at which input.
  Laid BY PROGRAM, IN A SANDBOX (cutbox-rows.mjs): the forced cells as the released guide's own fill.sh prints them over the translation 258e6516b0949444… (all of the seat's roots in one cut). By AI agents, Wed Nov 11 2026. No macro, syntax, notation, axiom, sorry.
-/
import Derived.Test.YtcbpdjenncbbeaaChecked
import GoSem.Claim
import GoSem.ClaimJoined
import GoSem.ClaimMapViews
import Derived.JoinedTies
import Derived.KernelRfl
namespace Go.Proofs.Ytcbpdjenncbbeaa
/- THE CELL 'sum', in the pinned program and in every row, IS THE sha256 OF THE DUMP (.gsa) THAT YtcbpdjenncbbeaaProg.lean LOADS. Nothing in Lean hashes anything: it is a label: what it is worth is what the hold of that sum in a sandbox is worth. -/
noncomputable def Try.pinned : Pinned := { name := "ytcbpdjenncbbeaa", sum := "258e6516b0949444ad02155d64d4dd09414aa398cac1e203f30553fa78bf5836", checked := Try.checked }
namespace Rows
def none {H : Type} : Left H := { results := [], args := [] }

/-- 'bypathlaw32.SampleTotals': WHATEVER THE INPUT: true; the input reads as it did. -/
def sampleTotalsSpec : ChangeSpec := { name := "sampleTotals", fn := fun _ => fun
  | [d1, d2, d3, d4] => { results := [.lit (.bool true)], args := [d1, d2, d3, d4] }
  | _ => none }
def sampleTotalsRow : OpenClaim := { program := "ytcbpdjenncbbeaa", sum := "258e6516b0949444ad02155d64d4dd09414aa398cac1e203f30553fa78bf5836", func := "bypath/bypathlaw32.SampleTotals", spec := "sampleTotals", unfollowed := true, recurses := true, plainKeys := false, apart := false }
def SampleTotalsSaid : Prop := sampleTotalsRow.holds Try.pinned (OpenSpec.ofChange sampleTotalsSpec)

/-- ITS FALSE NEIGHBOUR: 'it returns false'. Refute it at one input. -/
def sampleTotalsWrong : ChangeSpec := { name := "sampleTotals", fn := fun _ => fun
  | [d1, d2, d3, d4] => { results := [.lit (.bool false)], args := [d1, d2, d3, d4] }
  | _ => none }
def SampleTotalsWrongFalsely : Prop := sampleTotalsRow.holds Try.pinned (OpenSpec.ofChange sampleTotalsWrong)

/-- 'bypathlaw32.SampleWhole': WHATEVER THE INPUT: true; the input reads as it did. -/
def sampleWholeSpec : ChangeSpec := { name := "sampleWhole", fn := fun _ => fun
  | [d1, d2] => { results := [.lit (.bool true)], args := [d1, d2] }
  | _ => none }
def sampleWholeRow : OpenClaim := { program := "ytcbpdjenncbbeaa", sum := "258e6516b0949444ad02155d64d4dd09414aa398cac1e203f30553fa78bf5836", func := "bypath/bypathlaw32.SampleWhole", spec := "sampleWhole", unfollowed := true, recurses := true, plainKeys := false, apart := false }
def SampleWholeSaid : Prop := sampleWholeRow.holds Try.pinned (OpenSpec.ofChange sampleWholeSpec)

/-- ITS FALSE NEIGHBOUR: 'it returns false'. Refute it at one input. -/
def sampleWholeWrong : ChangeSpec := { name := "sampleWhole", fn := fun _ => fun
  | [d1, d2] => { results := [.lit (.bool false)], args := [d1, d2] }
  | _ => none }
def SampleWholeWrongFalsely : Prop := sampleWholeRow.holds Try.pinned (OpenSpec.ofChange sampleWholeWrong)

/-- 'bypathlaw32.SampleMany': WHATEVER THE INPUT: true; the input reads as it did. -/
def sampleManySpec : ChangeSpec := { name := "sampleMany", fn := fun _ => fun
  | [d1, d2] => { results := [.lit (.bool true)], args := [d1, d2] }
  | _ => none }
def sampleManyRow : OpenClaim := { program := "ytcbpdjenncbbeaa", sum := "258e6516b0949444ad02155d64d4dd09414aa398cac1e203f30553fa78bf5836", func := "bypath/bypathlaw32.SampleMany", spec := "sampleMany", unfollowed := true, recurses := true, plainKeys := false, apart := false }
def SampleManySaid : Prop := sampleManyRow.holds Try.pinned (OpenSpec.ofChange sampleManySpec)

/-- ITS FALSE NEIGHBOUR: 'it returns false'. Refute it at one input. -/
def sampleManyWrong : ChangeSpec := { name := "sampleMany", fn := fun _ => fun
  | [d1, d2] => { results := [.lit (.bool false)], args := [d1, d2] }
  | _ => none }
def SampleManyWrongFalsely : Prop := sampleManyRow.holds Try.pinned (OpenSpec.ofChange sampleManyWrong)

/- THE SECOND FORM. 'bulk': how many values and letters a reading holds, each counted each time it is reached (what is shared counts as often as it is met; a slice's spare places count too). A statement '..UptoSaid' is the law's where the arguments, and the package variables that the reading takes, are together of bulk at most 1048576: NARROWER than '..Said'. Prove '..Said' where nothing that the law and all that it calls make is longer than what came in: it says more and counts as full. Else prove '..UptoSaid'. A law counts once. -/
mutual
def uptoBulk {H : Type} : DataW H → Nat
  | .lit (.string bytes) => bytes.length + 1
  | .lit _ => 1
  | .nil => 1
  | .ptr d => uptoBulk d + 1
  | .slice elems spare => uptoBulkAll elems + uptoBulkAll spare + 1
  | .agg parts => uptoBulkAll parts + 1
  | .iface _ d => uptoBulk d + 1
  | .map entries => uptoBulkEntries entries + 1
  | .held _ => 1
def uptoBulkAll {H : Type} : List (DataW H) → Nat
  | [] => 0
  | d :: r => uptoBulk d + uptoBulkAll r
def uptoBulkEntries {H : Type} : List (Lit × DataW H) → Nat
  | [] => 0
  | x :: r => uptoBulkEntry x + uptoBulkEntries r
def uptoBulkEntry {H : Type} : Lit × DataW H → Nat
  | (.string bytes, d) => bytes.length + uptoBulk d + 1
  | (_, d) => uptoBulk d + 1
 end
def uptoSmall : (H : Type) → List (DataW H) → Bool := fun _ ds => decide (uptoBulkAll ds ≤ 1048576)
def OpenSpec.upto (s : _root_.Go.ChangeSpec) : _root_.Go.OpenSpec := { _root_.Go.OpenSpec.ofChange s with cond := some uptoSmall }

/-- 'bypathlaw32.SampleTotals', WHERE WHAT IT READS IS OF BULK AT MOST 1048576: true; the input reads as it did. -/
def sampleTotalsUptoRow : OpenClaim := { program := "ytcbpdjenncbbeaa", sum := "258e6516b0949444ad02155d64d4dd09414aa398cac1e203f30553fa78bf5836", func := "bypath/bypathlaw32.SampleTotals", spec := "sampleTotals", unfollowed := true, recurses := true, plainKeys := false, apart := false, narrowed := true }
def SampleTotalsUptoSaid : Prop := sampleTotalsUptoRow.holds Try.pinned (OpenSpec.upto sampleTotalsSpec)

/-- 'bypathlaw32.SampleWhole', WHERE WHAT IT READS IS OF BULK AT MOST 1048576: true; the input reads as it did. -/
def sampleWholeUptoRow : OpenClaim := { program := "ytcbpdjenncbbeaa", sum := "258e6516b0949444ad02155d64d4dd09414aa398cac1e203f30553fa78bf5836", func := "bypath/bypathlaw32.SampleWhole", spec := "sampleWhole", unfollowed := true, recurses := true, plainKeys := false, apart := false, narrowed := true }
def SampleWholeUptoSaid : Prop := sampleWholeUptoRow.holds Try.pinned (OpenSpec.upto sampleWholeSpec)

/-- 'bypathlaw32.SampleMany', WHERE WHAT IT READS IS OF BULK AT MOST 1048576: true; the input reads as it did. -/
def sampleManyUptoRow : OpenClaim := { program := "ytcbpdjenncbbeaa", sum := "258e6516b0949444ad02155d64d4dd09414aa398cac1e203f30553fa78bf5836", func := "bypath/bypathlaw32.SampleMany", spec := "sampleMany", unfollowed := true, recurses := true, plainKeys := false, apart := false, narrowed := true }
def SampleManyUptoSaid : Prop := sampleManyUptoRow.holds Try.pinned (OpenSpec.upto sampleManySpec)

end Rows
end Go.Proofs.Ytcbpdjenncbbeaa
