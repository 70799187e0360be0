/-
  No cell of these rows narrows 'for every input' (looked for: loops, veiled, ifaces, maps, wideKeys, modest, calm, conditions, laid).
  DERIVED. THE GIVEN ROWS OF THIS SEAT. 7 by the template 'for every input the law returns true; each argument reads behind the call as it read before'; 0 by the template 'total and deterministic' (their statements: YtadoflcomienoaaGreatTotals.lean).
  GIVEN WITH THE SEED: the statements are not yours to turn. If you find one false, say at which input.
  Laid BY PROGRAM, IN A SANDBOX (cutbox-rows.mjs): the forced cells as the released guide's own fill.sh prints them over the translation 594529df02522698… (all of the seat's roots in one cut). By AI agents, Wed Nov 11 2026. No macro, syntax, notation, axiom, sorry.
-/
import Derived.Test.YtadoflcomienoaaGreatChecked
import GoSem.Claim
import GoSem.ClaimJoined
import GoSem.ClaimMapViews
import Derived.JoinedTies
import Derived.KernelRfl
namespace Go.Proofs.YtadoflcomienoaaGreat
/- THE CELL 'sum', in the pinned program and in every row, IS THE sha256 OF THE DUMP (.gsa) THAT YtadoflcomienoaaGreatProg.lean LOADS. Nothing in Lean hashes anything: it is a label: what it is worth is what the hold of that sum in a sandbox is worth. -/
noncomputable def Tryz.pinned : Pinned := { name := "ytadoflcomienoaagreat", sum := "594529df025226982951ae694b5f67734631485fc4de2abfb70aa3ac4826eb2f", checked := Tryz.checked }
namespace Rows
def none {H : Type} : Left H := { results := [], args := [] }

/-- 'bypathlaw24.DiffUpdates': WHATEVER THE INPUT: true; the input reads as it did. -/
def diffUpdatesSpec : ChangeSpec := { name := "diffUpdates", fn := fun _ => fun
  | [d1, d2, d3] => { results := [.lit (.bool true)], args := [d1, d2, d3] }
  | _ => none }
def diffUpdatesRow : OpenClaim := { program := "ytadoflcomienoaagreat", sum := "594529df025226982951ae694b5f67734631485fc4de2abfb70aa3ac4826eb2f", func := "bypath/bypathlaw24.DiffUpdates", spec := "diffUpdates", unfollowed := true, recurses := true, plainKeys := false, apart := false }
def DiffUpdatesSaid : Prop := diffUpdatesRow.holds Tryz.pinned (OpenSpec.ofChange diffUpdatesSpec)

/-- ITS FALSE NEIGHBOUR: 'it returns false'. Refute it at one input. -/
def diffUpdatesWrong : ChangeSpec := { name := "diffUpdates", fn := fun _ => fun
  | [d1, d2, d3] => { results := [.lit (.bool false)], args := [d1, d2, d3] }
  | _ => none }
def DiffUpdatesWrongFalsely : Prop := diffUpdatesRow.holds Tryz.pinned (OpenSpec.ofChange diffUpdatesWrong)

/-- 'bypathlaw24.DiffTells': WHATEVER THE INPUT: true; the input reads as it did. -/
def diffTellsSpec : ChangeSpec := { name := "diffTells", fn := fun _ => fun
  | [d1, d2, d3] => { results := [.lit (.bool true)], args := [d1, d2, d3] }
  | _ => none }
def diffTellsRow : OpenClaim := { program := "ytadoflcomienoaagreat", sum := "594529df025226982951ae694b5f67734631485fc4de2abfb70aa3ac4826eb2f", func := "bypath/bypathlaw24.DiffTells", spec := "diffTells", unfollowed := true, recurses := true, plainKeys := false, apart := false }
def DiffTellsSaid : Prop := diffTellsRow.holds Tryz.pinned (OpenSpec.ofChange diffTellsSpec)

/-- ITS FALSE NEIGHBOUR: 'it returns false'. Refute it at one input. -/
def diffTellsWrong : ChangeSpec := { name := "diffTells", fn := fun _ => fun
  | [d1, d2, d3] => { results := [.lit (.bool false)], args := [d1, d2, d3] }
  | _ => none }
def DiffTellsWrongFalsely : Prop := diffTellsRow.holds Tryz.pinned (OpenSpec.ofChange diffTellsWrong)

/-- 'bypathlaw14.RibDoes': WHATEVER THE INPUT: true; the input reads as it did. -/
def ribDoesSpec : ChangeSpec := { name := "ribDoes", fn := fun _ => fun
  | [d1, d2, d3] => { results := [.lit (.bool true)], args := [d1, d2, d3] }
  | _ => none }
def ribDoesRow : OpenClaim := { program := "ytadoflcomienoaagreat", sum := "594529df025226982951ae694b5f67734631485fc4de2abfb70aa3ac4826eb2f", func := "bypath/bypathlaw14.RibDoes", spec := "ribDoes", unfollowed := true, recurses := true, plainKeys := false, apart := false }
def RibDoesSaid : Prop := ribDoesRow.holds Tryz.pinned (OpenSpec.ofChange ribDoesSpec)

/-- ITS FALSE NEIGHBOUR: 'it returns false'. Refute it at one input. -/
def ribDoesWrong : ChangeSpec := { name := "ribDoes", fn := fun _ => fun
  | [d1, d2, d3] => { results := [.lit (.bool false)], args := [d1, d2, d3] }
  | _ => none }
def RibDoesWrongFalsely : Prop := ribDoesRow.holds Tryz.pinned (OpenSpec.ofChange ribDoesWrong)

/-- 'bypathlaw14.RibApart': WHATEVER THE INPUT: true; the input reads as it did. -/
def ribApartSpec : ChangeSpec := { name := "ribApart", fn := fun _ => fun
  | [d1, d2, d3] => { results := [.lit (.bool true)], args := [d1, d2, d3] }
  | _ => none }
def ribApartRow : OpenClaim := { program := "ytadoflcomienoaagreat", sum := "594529df025226982951ae694b5f67734631485fc4de2abfb70aa3ac4826eb2f", func := "bypath/bypathlaw14.RibApart", spec := "ribApart", unfollowed := true, recurses := true, plainKeys := false, apart := false }
def RibApartSaid : Prop := ribApartRow.holds Tryz.pinned (OpenSpec.ofChange ribApartSpec)

/-- ITS FALSE NEIGHBOUR: 'it returns false'. Refute it at one input. -/
def ribApartWrong : ChangeSpec := { name := "ribApart", fn := fun _ => fun
  | [d1, d2, d3] => { results := [.lit (.bool false)], args := [d1, d2, d3] }
  | _ => none }
def RibApartWrongFalsely : Prop := ribApartRow.holds Tryz.pinned (OpenSpec.ofChange ribApartWrong)

/-- 'bypathlaw14.RibFlushes': WHATEVER THE INPUT: true; the input reads as it did. -/
def ribFlushesSpec : ChangeSpec := { name := "ribFlushes", fn := fun _ => fun
  | [d1, d2] => { results := [.lit (.bool true)], args := [d1, d2] }
  | _ => none }
def ribFlushesRow : OpenClaim := { program := "ytadoflcomienoaagreat", sum := "594529df025226982951ae694b5f67734631485fc4de2abfb70aa3ac4826eb2f", func := "bypath/bypathlaw14.RibFlushes", spec := "ribFlushes", unfollowed := true, recurses := true, plainKeys := false, apart := false }
def RibFlushesSaid : Prop := ribFlushesRow.holds Tryz.pinned (OpenSpec.ofChange ribFlushesSpec)

/-- ITS FALSE NEIGHBOUR: 'it returns false'. Refute it at one input. -/
def ribFlushesWrong : ChangeSpec := { name := "ribFlushes", fn := fun _ => fun
  | [d1, d2] => { results := [.lit (.bool false)], args := [d1, d2] }
  | _ => none }
def RibFlushesWrongFalsely : Prop := ribFlushesRow.holds Tryz.pinned (OpenSpec.ofChange ribFlushesWrong)

/-- 'bypathlaw14.RibNobody': WHATEVER THE INPUT: true; the input reads as it did. -/
def ribNobodySpec : ChangeSpec := { name := "ribNobody", fn := fun _ => fun
  | [d1, d2] => { results := [.lit (.bool true)], args := [d1, d2] }
  | _ => none }
def ribNobodyRow : OpenClaim := { program := "ytadoflcomienoaagreat", sum := "594529df025226982951ae694b5f67734631485fc4de2abfb70aa3ac4826eb2f", func := "bypath/bypathlaw14.RibNobody", spec := "ribNobody", unfollowed := true, recurses := true, plainKeys := false, apart := false }
def RibNobodySaid : Prop := ribNobodyRow.holds Tryz.pinned (OpenSpec.ofChange ribNobodySpec)

/-- ITS FALSE NEIGHBOUR: 'it returns false'. Refute it at one input. -/
def ribNobodyWrong : ChangeSpec := { name := "ribNobody", fn := fun _ => fun
  | [d1, d2] => { results := [.lit (.bool false)], args := [d1, d2] }
  | _ => none }
def RibNobodyWrongFalsely : Prop := ribNobodyRow.holds Tryz.pinned (OpenSpec.ofChange ribNobodyWrong)

/-- 'bypathlaw14.RibGone': WHATEVER THE INPUT: true; the input reads as it did. -/
def ribGoneSpec : ChangeSpec := { name := "ribGone", fn := fun _ => fun
  | [d1, d2, d3] => { results := [.lit (.bool true)], args := [d1, d2, d3] }
  | _ => none }
def ribGoneRow : OpenClaim := { program := "ytadoflcomienoaagreat", sum := "594529df025226982951ae694b5f67734631485fc4de2abfb70aa3ac4826eb2f", func := "bypath/bypathlaw14.RibGone", spec := "ribGone", unfollowed := true, recurses := true, plainKeys := false, apart := false }
def RibGoneSaid : Prop := ribGoneRow.holds Tryz.pinned (OpenSpec.ofChange ribGoneSpec)

/-- ITS FALSE NEIGHBOUR: 'it returns false'. Refute it at one input. -/
def ribGoneWrong : ChangeSpec := { name := "ribGone", fn := fun _ => fun
  | [d1, d2, d3] => { results := [.lit (.bool false)], args := [d1, d2, d3] }
  | _ => none }
def RibGoneWrongFalsely : Prop := ribGoneRow.holds Tryz.pinned (OpenSpec.ofChange ribGoneWrong)

/- THE SECOND FORM. 'bulk': how many values and letters a reading holds, each counted each time it is reached (what is shared counts as often as it is met; a slice's spare places count too). A statement '..UptoSaid' is the law's where the arguments, and the package variables that the reading takes, are together of bulk at most 1048576: NARROWER than '..Said'. Prove '..Said' where nothing that the law and all that it calls make is longer than what came in: it says more and counts as full. Else prove '..UptoSaid'. A law counts once. -/
mutual
def uptoBulk {H : Type} : DataW H → Nat
  | .lit (.string bytes) => bytes.length + 1
  | .lit _ => 1
  | .nil => 1
  | .ptr d => uptoBulk d + 1
  | .slice elems spare => uptoBulkAll elems + uptoBulkAll spare + 1
  | .agg parts => uptoBulkAll parts + 1
  | .iface _ d => uptoBulk d + 1
  | .map entries => uptoBulkEntries entries + 1
  | .held _ => 1
def uptoBulkAll {H : Type} : List (DataW H) → Nat
  | [] => 0
  | d :: r => uptoBulk d + uptoBulkAll r
def uptoBulkEntries {H : Type} : List (Lit × DataW H) → Nat
  | [] => 0
  | x :: r => uptoBulkEntry x + uptoBulkEntries r
def uptoBulkEntry {H : Type} : Lit × DataW H → Nat
  | (.string bytes, d) => bytes.length + uptoBulk d + 1
  | (_, d) => uptoBulk d + 1
 end
def uptoSmall : (H : Type) → List (DataW H) → Bool := fun _ ds => decide (uptoBulkAll ds ≤ 1048576)
def OpenSpec.upto (s : _root_.Go.ChangeSpec) : _root_.Go.OpenSpec := { _root_.Go.OpenSpec.ofChange s with cond := some uptoSmall }

/-- 'bypathlaw24.DiffUpdates', WHERE WHAT IT READS IS OF BULK AT MOST 1048576: true; the input reads as it did. -/
def diffUpdatesUptoRow : OpenClaim := { program := "ytadoflcomienoaagreat", sum := "594529df025226982951ae694b5f67734631485fc4de2abfb70aa3ac4826eb2f", func := "bypath/bypathlaw24.DiffUpdates", spec := "diffUpdates", unfollowed := true, recurses := true, plainKeys := false, apart := false, narrowed := true }
def DiffUpdatesUptoSaid : Prop := diffUpdatesUptoRow.holds Tryz.pinned (OpenSpec.upto diffUpdatesSpec)

/-- 'bypathlaw24.DiffTells', WHERE WHAT IT READS IS OF BULK AT MOST 1048576: true; the input reads as it did. -/
def diffTellsUptoRow : OpenClaim := { program := "ytadoflcomienoaagreat", sum := "594529df025226982951ae694b5f67734631485fc4de2abfb70aa3ac4826eb2f", func := "bypath/bypathlaw24.DiffTells", spec := "diffTells", unfollowed := true, recurses := true, plainKeys := false, apart := false, narrowed := true }
def DiffTellsUptoSaid : Prop := diffTellsUptoRow.holds Tryz.pinned (OpenSpec.upto diffTellsSpec)

/-- 'bypathlaw14.RibDoes', WHERE WHAT IT READS IS OF BULK AT MOST 1048576: true; the input reads as it did. -/
def ribDoesUptoRow : OpenClaim := { program := "ytadoflcomienoaagreat", sum := "594529df025226982951ae694b5f67734631485fc4de2abfb70aa3ac4826eb2f", func := "bypath/bypathlaw14.RibDoes", spec := "ribDoes", unfollowed := true, recurses := true, plainKeys := false, apart := false, narrowed := true }
def RibDoesUptoSaid : Prop := ribDoesUptoRow.holds Tryz.pinned (OpenSpec.upto ribDoesSpec)

/-- 'bypathlaw14.RibApart', WHERE WHAT IT READS IS OF BULK AT MOST 1048576: true; the input reads as it did. -/
def ribApartUptoRow : OpenClaim := { program := "ytadoflcomienoaagreat", sum := "594529df025226982951ae694b5f67734631485fc4de2abfb70aa3ac4826eb2f", func := "bypath/bypathlaw14.RibApart", spec := "ribApart", unfollowed := true, recurses := true, plainKeys := false, apart := false, narrowed := true }
def RibApartUptoSaid : Prop := ribApartUptoRow.holds Tryz.pinned (OpenSpec.upto ribApartSpec)

/-- 'bypathlaw14.RibFlushes', WHERE WHAT IT READS IS OF BULK AT MOST 1048576: true; the input reads as it did. -/
def ribFlushesUptoRow : OpenClaim := { program := "ytadoflcomienoaagreat", sum := "594529df025226982951ae694b5f67734631485fc4de2abfb70aa3ac4826eb2f", func := "bypath/bypathlaw14.RibFlushes", spec := "ribFlushes", unfollowed := true, recurses := true, plainKeys := false, apart := false, narrowed := true }
def RibFlushesUptoSaid : Prop := ribFlushesUptoRow.holds Tryz.pinned (OpenSpec.upto ribFlushesSpec)

/-- 'bypathlaw14.RibNobody', WHERE WHAT IT READS IS OF BULK AT MOST 1048576: true; the input reads as it did. -/
def ribNobodyUptoRow : OpenClaim := { program := "ytadoflcomienoaagreat", sum := "594529df025226982951ae694b5f67734631485fc4de2abfb70aa3ac4826eb2f", func := "bypath/bypathlaw14.RibNobody", spec := "ribNobody", unfollowed := true, recurses := true, plainKeys := false, apart := false, narrowed := true }
def RibNobodyUptoSaid : Prop := ribNobodyUptoRow.holds Tryz.pinned (OpenSpec.upto ribNobodySpec)

/-- 'bypathlaw14.RibGone', WHERE WHAT IT READS IS OF BULK AT MOST 1048576: true; the input reads as it did. -/
def ribGoneUptoRow : OpenClaim := { program := "ytadoflcomienoaagreat", sum := "594529df025226982951ae694b5f67734631485fc4de2abfb70aa3ac4826eb2f", func := "bypath/bypathlaw14.RibGone", spec := "ribGone", unfollowed := true, recurses := true, plainKeys := false, apart := false, narrowed := true }
def RibGoneUptoSaid : Prop := ribGoneUptoRow.holds Tryz.pinned (OpenSpec.upto ribGoneSpec)

end Rows
end Go.Proofs.YtadoflcomienoaaGreat
