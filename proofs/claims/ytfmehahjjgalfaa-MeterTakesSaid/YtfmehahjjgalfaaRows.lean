/-
  No cell of these rows narrows 'for every input' (looked for: loops, veiled, ifaces, maps, wideKeys, modest, calm, conditions, laid).
  DERIVED. THE GIVEN ROWS OF THIS SEAT. 13 by the template 'for every input the law returns true; each argument reads behind the call as it read before'; 0 by the template 'total and deterministic' (their statements: YtfmehahjjgalfaaTotals.lean).
  GIVEN WITH THE SEED: the statements are not yours to turn. If you find one false, say at which input.
  Laid BY PROGRAM, IN A SANDBOX (cutbox-rows.mjs): the forced cells as the released guide's own fill.sh prints them over the translation cde7560a11ed12e4… (all of the seat's roots in one cut). By AI agents, Wed Nov 11 2026. No macro, syntax, notation, axiom, sorry.
-/
import Derived.Test.YtfmehahjjgalfaaChecked
import GoSem.Claim
import GoSem.ClaimJoined
import GoSem.ClaimMapViews
import Derived.JoinedTies
import Derived.KernelRfl
namespace Go.Proofs.Ytfmehahjjgalfaa
/- THE CELL 'sum', in the pinned program and in every row, IS THE sha256 OF THE DUMP (.gsa) THAT YtfmehahjjgalfaaProg.lean LOADS. Nothing in Lean hashes anything: it is a label: what it is worth is what the hold of that sum in a sandbox is worth. -/
noncomputable def Try.pinned : Pinned := { name := "ytfmehahjjgalfaa", sum := "cde7560a11ed12e4d88fc0fb5cd389dd21f6bf5aaf06ae62ef762dea608b66e1", checked := Try.checked }
namespace Rows
def none {H : Type} : Left H := { results := [], args := [] }

/-- 'bypathlaw10.TimerDoes': WHATEVER THE INPUT: true; the input reads as it did. -/
def timerDoesSpec : ChangeSpec := { name := "timerDoes", fn := fun _ => fun
  | [d] => { results := [.lit (.bool true)], args := [d] }
  | _ => none }
def timerDoesRow : OpenClaim := { program := "ytfmehahjjgalfaa", sum := "cde7560a11ed12e4d88fc0fb5cd389dd21f6bf5aaf06ae62ef762dea608b66e1", func := "bypath/bypathlaw10.TimerDoes", spec := "timerDoes", unfollowed := true, recurses := true, plainKeys := false, apart := false }
def TimerDoesSaid : Prop := timerDoesRow.holds Try.pinned (OpenSpec.ofChange timerDoesSpec)

/-- ITS FALSE NEIGHBOUR: 'it returns false'. Refute it at one input. -/
def timerDoesWrong : ChangeSpec := { name := "timerDoes", fn := fun _ => fun
  | [d] => { results := [.lit (.bool false)], args := [d] }
  | _ => none }
def TimerDoesWrongFalsely : Prop := timerDoesRow.holds Try.pinned (OpenSpec.ofChange timerDoesWrong)

/-- 'bypathlaw10.TimerOnce': WHATEVER THE INPUT: true; the input reads as it did. -/
def timerOnceSpec : ChangeSpec := { name := "timerOnce", fn := fun _ => fun
  | [d1, d2] => { results := [.lit (.bool true)], args := [d1, d2] }
  | _ => none }
def timerOnceRow : OpenClaim := { program := "ytfmehahjjgalfaa", sum := "cde7560a11ed12e4d88fc0fb5cd389dd21f6bf5aaf06ae62ef762dea608b66e1", func := "bypath/bypathlaw10.TimerOnce", spec := "timerOnce", unfollowed := true, recurses := true, plainKeys := false, apart := false }
def TimerOnceSaid : Prop := timerOnceRow.holds Try.pinned (OpenSpec.ofChange timerOnceSpec)

/-- ITS FALSE NEIGHBOUR: 'it returns false'. Refute it at one input. -/
def timerOnceWrong : ChangeSpec := { name := "timerOnce", fn := fun _ => fun
  | [d1, d2] => { results := [.lit (.bool false)], args := [d1, d2] }
  | _ => none }
def TimerOnceWrongFalsely : Prop := timerOnceRow.holds Try.pinned (OpenSpec.ofChange timerOnceWrong)

/-- 'bypathlaw10.TimerFull': WHATEVER THE INPUT: true; the input reads as it did. -/
def timerFullSpec : ChangeSpec := { name := "timerFull", fn := fun _ => fun
  | [d] => { results := [.lit (.bool true)], args := [d] }
  | _ => none }
def timerFullRow : OpenClaim := { program := "ytfmehahjjgalfaa", sum := "cde7560a11ed12e4d88fc0fb5cd389dd21f6bf5aaf06ae62ef762dea608b66e1", func := "bypath/bypathlaw10.TimerFull", spec := "timerFull", unfollowed := true, recurses := true, plainKeys := false, apart := false }
def TimerFullSaid : Prop := timerFullRow.holds Try.pinned (OpenSpec.ofChange timerFullSpec)

/-- ITS FALSE NEIGHBOUR: 'it returns false'. Refute it at one input. -/
def timerFullWrong : ChangeSpec := { name := "timerFull", fn := fun _ => fun
  | [d] => { results := [.lit (.bool false)], args := [d] }
  | _ => none }
def TimerFullWrongFalsely : Prop := timerFullRow.holds Try.pinned (OpenSpec.ofChange timerFullWrong)

/-- 'bypathlaw10.TimerAnew': WHATEVER THE INPUT: true; the input reads as it did. -/
def timerAnewSpec : ChangeSpec := { name := "timerAnew", fn := fun _ => fun
  | [d1, d2] => { results := [.lit (.bool true)], args := [d1, d2] }
  | _ => none }
def timerAnewRow : OpenClaim := { program := "ytfmehahjjgalfaa", sum := "cde7560a11ed12e4d88fc0fb5cd389dd21f6bf5aaf06ae62ef762dea608b66e1", func := "bypath/bypathlaw10.TimerAnew", spec := "timerAnew", unfollowed := true, recurses := true, plainKeys := false, apart := false }
def TimerAnewSaid : Prop := timerAnewRow.holds Try.pinned (OpenSpec.ofChange timerAnewSpec)

/-- ITS FALSE NEIGHBOUR: 'it returns false'. Refute it at one input. -/
def timerAnewWrong : ChangeSpec := { name := "timerAnew", fn := fun _ => fun
  | [d1, d2] => { results := [.lit (.bool false)], args := [d1, d2] }
  | _ => none }
def TimerAnewWrongFalsely : Prop := timerAnewRow.holds Try.pinned (OpenSpec.ofChange timerAnewWrong)

/-- 'bypathlaw23.TableDoes': WHATEVER THE INPUT: true; the input reads as it did. -/
def tableDoesSpec : ChangeSpec := { name := "tableDoes", fn := fun _ => fun
  | [d] => { results := [.lit (.bool true)], args := [d] }
  | _ => none }
def tableDoesRow : OpenClaim := { program := "ytfmehahjjgalfaa", sum := "cde7560a11ed12e4d88fc0fb5cd389dd21f6bf5aaf06ae62ef762dea608b66e1", func := "bypath/bypathlaw23.TableDoes", spec := "tableDoes", unfollowed := true, recurses := true, plainKeys := false, apart := false }
def TableDoesSaid : Prop := tableDoesRow.holds Try.pinned (OpenSpec.ofChange tableDoesSpec)

/-- ITS FALSE NEIGHBOUR: 'it returns false'. Refute it at one input. -/
def tableDoesWrong : ChangeSpec := { name := "tableDoes", fn := fun _ => fun
  | [d] => { results := [.lit (.bool false)], args := [d] }
  | _ => none }
def TableDoesWrongFalsely : Prop := tableDoesRow.holds Try.pinned (OpenSpec.ofChange tableDoesWrong)

/-- 'bypathlaw23.TableExpires': WHATEVER THE INPUT: true; the input reads as it did. -/
def tableExpiresSpec : ChangeSpec := { name := "tableExpires", fn := fun _ => fun
  | [d1, d2] => { results := [.lit (.bool true)], args := [d1, d2] }
  | _ => none }
def tableExpiresRow : OpenClaim := { program := "ytfmehahjjgalfaa", sum := "cde7560a11ed12e4d88fc0fb5cd389dd21f6bf5aaf06ae62ef762dea608b66e1", func := "bypath/bypathlaw23.TableExpires", spec := "tableExpires", unfollowed := true, recurses := true, plainKeys := false, apart := false }
def TableExpiresSaid : Prop := tableExpiresRow.holds Try.pinned (OpenSpec.ofChange tableExpiresSpec)

/-- ITS FALSE NEIGHBOUR: 'it returns false'. Refute it at one input. -/
def tableExpiresWrong : ChangeSpec := { name := "tableExpires", fn := fun _ => fun
  | [d1, d2] => { results := [.lit (.bool false)], args := [d1, d2] }
  | _ => none }
def TableExpiresWrongFalsely : Prop := tableExpiresRow.holds Try.pinned (OpenSpec.ofChange tableExpiresWrong)

/-- 'bypathlaw23.TableFull': WHATEVER THE INPUT: true; the input reads as it did. -/
def tableFullSpec : ChangeSpec := { name := "tableFull", fn := fun _ => fun
  | [d] => { results := [.lit (.bool true)], args := [d] }
  | _ => none }
def tableFullRow : OpenClaim := { program := "ytfmehahjjgalfaa", sum := "cde7560a11ed12e4d88fc0fb5cd389dd21f6bf5aaf06ae62ef762dea608b66e1", func := "bypath/bypathlaw23.TableFull", spec := "tableFull", unfollowed := true, recurses := true, plainKeys := false, apart := false }
def TableFullSaid : Prop := tableFullRow.holds Try.pinned (OpenSpec.ofChange tableFullSpec)

/-- ITS FALSE NEIGHBOUR: 'it returns false'. Refute it at one input. -/
def tableFullWrong : ChangeSpec := { name := "tableFull", fn := fun _ => fun
  | [d] => { results := [.lit (.bool false)], args := [d] }
  | _ => none }
def TableFullWrongFalsely : Prop := tableFullRow.holds Try.pinned (OpenSpec.ofChange tableFullWrong)

/-- 'bypathlaw23.TableAnew': WHATEVER THE INPUT: true; the input reads as it did. -/
def tableAnewSpec : ChangeSpec := { name := "tableAnew", fn := fun _ => fun
  | [d1, d2] => { results := [.lit (.bool true)], args := [d1, d2] }
  | _ => none }
def tableAnewRow : OpenClaim := { program := "ytfmehahjjgalfaa", sum := "cde7560a11ed12e4d88fc0fb5cd389dd21f6bf5aaf06ae62ef762dea608b66e1", func := "bypath/bypathlaw23.TableAnew", spec := "tableAnew", unfollowed := true, recurses := true, plainKeys := false, apart := false }
def TableAnewSaid : Prop := tableAnewRow.holds Try.pinned (OpenSpec.ofChange tableAnewSpec)

/-- ITS FALSE NEIGHBOUR: 'it returns false'. Refute it at one input. -/
def tableAnewWrong : ChangeSpec := { name := "tableAnew", fn := fun _ => fun
  | [d1, d2] => { results := [.lit (.bool false)], args := [d1, d2] }
  | _ => none }
def TableAnewWrongFalsely : Prop := tableAnewRow.holds Try.pinned (OpenSpec.ofChange tableAnewWrong)

/-- 'bypathlaw17.MeterTakes': WHATEVER THE INPUT: true; the input reads as it did. -/
def meterTakesSpec : ChangeSpec := { name := "meterTakes", fn := fun _ => fun
  | [d1, d2] => { results := [.lit (.bool true)], args := [d1, d2] }
  | _ => none }
def meterTakesRow : OpenClaim := { program := "ytfmehahjjgalfaa", sum := "cde7560a11ed12e4d88fc0fb5cd389dd21f6bf5aaf06ae62ef762dea608b66e1", func := "bypath/bypathlaw17.MeterTakes", spec := "meterTakes", unfollowed := true, recurses := true, plainKeys := false, apart := false }
def MeterTakesSaid : Prop := meterTakesRow.holds Try.pinned (OpenSpec.ofChange meterTakesSpec)

/-- ITS FALSE NEIGHBOUR: 'it returns false'. Refute it at one input. -/
def meterTakesWrong : ChangeSpec := { name := "meterTakes", fn := fun _ => fun
  | [d1, d2] => { results := [.lit (.bool false)], args := [d1, d2] }
  | _ => none }
def MeterTakesWrongFalsely : Prop := meterTakesRow.holds Try.pinned (OpenSpec.ofChange meterTakesWrong)

/-- 'bypathlaw17.MeterOld': WHATEVER THE INPUT: true; the input reads as it did. -/
def meterOldSpec : ChangeSpec := { name := "meterOld", fn := fun _ => fun
  | [d1, d2] => { results := [.lit (.bool true)], args := [d1, d2] }
  | _ => none }
def meterOldRow : OpenClaim := { program := "ytfmehahjjgalfaa", sum := "cde7560a11ed12e4d88fc0fb5cd389dd21f6bf5aaf06ae62ef762dea608b66e1", func := "bypath/bypathlaw17.MeterOld", spec := "meterOld", unfollowed := true, recurses := true, plainKeys := false, apart := false }
def MeterOldSaid : Prop := meterOldRow.holds Try.pinned (OpenSpec.ofChange meterOldSpec)

/-- ITS FALSE NEIGHBOUR: 'it returns false'. Refute it at one input. -/
def meterOldWrong : ChangeSpec := { name := "meterOld", fn := fun _ => fun
  | [d1, d2] => { results := [.lit (.bool false)], args := [d1, d2] }
  | _ => none }
def MeterOldWrongFalsely : Prop := meterOldRow.holds Try.pinned (OpenSpec.ofChange meterOldWrong)

/-- 'bypathlaw17.MeterRises': WHATEVER THE INPUT: true; the input reads as it did. -/
def meterRisesSpec : ChangeSpec := { name := "meterRises", fn := fun _ => fun
  | [d1, d2, d3, d4, d5] => { results := [.lit (.bool true)], args := [d1, d2, d3, d4, d5] }
  | _ => none }
def meterRisesRow : OpenClaim := { program := "ytfmehahjjgalfaa", sum := "cde7560a11ed12e4d88fc0fb5cd389dd21f6bf5aaf06ae62ef762dea608b66e1", func := "bypath/bypathlaw17.MeterRises", spec := "meterRises", unfollowed := true, recurses := true, plainKeys := false, apart := false }
def MeterRisesSaid : Prop := meterRisesRow.holds Try.pinned (OpenSpec.ofChange meterRisesSpec)

/-- ITS FALSE NEIGHBOUR: 'it returns false'. Refute it at one input. -/
def meterRisesWrong : ChangeSpec := { name := "meterRises", fn := fun _ => fun
  | [d1, d2, d3, d4, d5] => { results := [.lit (.bool false)], args := [d1, d2, d3, d4, d5] }
  | _ => none }
def MeterRisesWrongFalsely : Prop := meterRisesRow.holds Try.pinned (OpenSpec.ofChange meterRisesWrong)

/-- 'bypathlaw17.MeterSums': WHATEVER THE INPUT: true; the input reads as it did. -/
def meterSumsSpec : ChangeSpec := { name := "meterSums", fn := fun _ => fun
  | [d] => { results := [.lit (.bool true)], args := [d] }
  | _ => none }
def meterSumsRow : OpenClaim := { program := "ytfmehahjjgalfaa", sum := "cde7560a11ed12e4d88fc0fb5cd389dd21f6bf5aaf06ae62ef762dea608b66e1", func := "bypath/bypathlaw17.MeterSums", spec := "meterSums", unfollowed := true, recurses := true, plainKeys := false, apart := false }
def MeterSumsSaid : Prop := meterSumsRow.holds Try.pinned (OpenSpec.ofChange meterSumsSpec)

/-- ITS FALSE NEIGHBOUR: 'it returns false'. Refute it at one input. -/
def meterSumsWrong : ChangeSpec := { name := "meterSums", fn := fun _ => fun
  | [d] => { results := [.lit (.bool false)], args := [d] }
  | _ => none }
def MeterSumsWrongFalsely : Prop := meterSumsRow.holds Try.pinned (OpenSpec.ofChange meterSumsWrong)

/-- 'bypathlaw17.MeterOnce': WHATEVER THE INPUT: true; the input reads as it did. -/
def meterOnceSpec : ChangeSpec := { name := "meterOnce", fn := fun _ => fun
  | [d1, d2] => { results := [.lit (.bool true)], args := [d1, d2] }
  | _ => none }
def meterOnceRow : OpenClaim := { program := "ytfmehahjjgalfaa", sum := "cde7560a11ed12e4d88fc0fb5cd389dd21f6bf5aaf06ae62ef762dea608b66e1", func := "bypath/bypathlaw17.MeterOnce", spec := "meterOnce", unfollowed := true, recurses := true, plainKeys := false, apart := false }
def MeterOnceSaid : Prop := meterOnceRow.holds Try.pinned (OpenSpec.ofChange meterOnceSpec)

/-- ITS FALSE NEIGHBOUR: 'it returns false'. Refute it at one input. -/
def meterOnceWrong : ChangeSpec := { name := "meterOnce", fn := fun _ => fun
  | [d1, d2] => { results := [.lit (.bool false)], args := [d1, d2] }
  | _ => none }
def MeterOnceWrongFalsely : Prop := meterOnceRow.holds Try.pinned (OpenSpec.ofChange meterOnceWrong)

/- THE SECOND FORM. 'bulk': how many values and letters a reading holds, each counted each time it is reached (what is shared counts as often as it is met; a slice's spare places count too). A statement '..UptoSaid' is the law's where the arguments, and the package variables that the reading takes, are together of bulk at most 1048576: NARROWER than '..Said'. Prove '..Said' where nothing that the law and all that it calls make is longer than what came in: it says more and counts as full. Else prove '..UptoSaid'. A law counts once. -/
mutual
def uptoBulk {H : Type} : DataW H → Nat
  | .lit (.string bytes) => bytes.length + 1
  | .lit _ => 1
  | .nil => 1
  | .ptr d => uptoBulk d + 1
  | .slice elems spare => uptoBulkAll elems + uptoBulkAll spare + 1
  | .agg parts => uptoBulkAll parts + 1
  | .iface _ d => uptoBulk d + 1
  | .map entries => uptoBulkEntries entries + 1
  | .held _ => 1
def uptoBulkAll {H : Type} : List (DataW H) → Nat
  | [] => 0
  | d :: r => uptoBulk d + uptoBulkAll r
def uptoBulkEntries {H : Type} : List (Lit × DataW H) → Nat
  | [] => 0
  | x :: r => uptoBulkEntry x + uptoBulkEntries r
def uptoBulkEntry {H : Type} : Lit × DataW H → Nat
  | (.string bytes, d) => bytes.length + uptoBulk d + 1
  | (_, d) => uptoBulk d + 1
 end
def uptoSmall : (H : Type) → List (DataW H) → Bool := fun _ ds => decide (uptoBulkAll ds ≤ 1048576)
def OpenSpec.upto (s : _root_.Go.ChangeSpec) : _root_.Go.OpenSpec := { _root_.Go.OpenSpec.ofChange s with cond := some uptoSmall }

/-- 'bypathlaw10.TimerDoes', WHERE WHAT IT READS IS OF BULK AT MOST 1048576: true; the input reads as it did. -/
def timerDoesUptoRow : OpenClaim := { program := "ytfmehahjjgalfaa", sum := "cde7560a11ed12e4d88fc0fb5cd389dd21f6bf5aaf06ae62ef762dea608b66e1", func := "bypath/bypathlaw10.TimerDoes", spec := "timerDoes", unfollowed := true, recurses := true, plainKeys := false, apart := false, narrowed := true }
def TimerDoesUptoSaid : Prop := timerDoesUptoRow.holds Try.pinned (OpenSpec.upto timerDoesSpec)

/-- 'bypathlaw10.TimerOnce', WHERE WHAT IT READS IS OF BULK AT MOST 1048576: true; the input reads as it did. -/
def timerOnceUptoRow : OpenClaim := { program := "ytfmehahjjgalfaa", sum := "cde7560a11ed12e4d88fc0fb5cd389dd21f6bf5aaf06ae62ef762dea608b66e1", func := "bypath/bypathlaw10.TimerOnce", spec := "timerOnce", unfollowed := true, recurses := true, plainKeys := false, apart := false, narrowed := true }
def TimerOnceUptoSaid : Prop := timerOnceUptoRow.holds Try.pinned (OpenSpec.upto timerOnceSpec)

/-- 'bypathlaw10.TimerFull', WHERE WHAT IT READS IS OF BULK AT MOST 1048576: true; the input reads as it did. -/
def timerFullUptoRow : OpenClaim := { program := "ytfmehahjjgalfaa", sum := "cde7560a11ed12e4d88fc0fb5cd389dd21f6bf5aaf06ae62ef762dea608b66e1", func := "bypath/bypathlaw10.TimerFull", spec := "timerFull", unfollowed := true, recurses := true, plainKeys := false, apart := false, narrowed := true }
def TimerFullUptoSaid : Prop := timerFullUptoRow.holds Try.pinned (OpenSpec.upto timerFullSpec)

/-- 'bypathlaw10.TimerAnew', WHERE WHAT IT READS IS OF BULK AT MOST 1048576: true; the input reads as it did. -/
def timerAnewUptoRow : OpenClaim := { program := "ytfmehahjjgalfaa", sum := "cde7560a11ed12e4d88fc0fb5cd389dd21f6bf5aaf06ae62ef762dea608b66e1", func := "bypath/bypathlaw10.TimerAnew", spec := "timerAnew", unfollowed := true, recurses := true, plainKeys := false, apart := false, narrowed := true }
def TimerAnewUptoSaid : Prop := timerAnewUptoRow.holds Try.pinned (OpenSpec.upto timerAnewSpec)

/-- 'bypathlaw23.TableDoes', WHERE WHAT IT READS IS OF BULK AT MOST 1048576: true; the input reads as it did. -/
def tableDoesUptoRow : OpenClaim := { program := "ytfmehahjjgalfaa", sum := "cde7560a11ed12e4d88fc0fb5cd389dd21f6bf5aaf06ae62ef762dea608b66e1", func := "bypath/bypathlaw23.TableDoes", spec := "tableDoes", unfollowed := true, recurses := true, plainKeys := false, apart := false, narrowed := true }
def TableDoesUptoSaid : Prop := tableDoesUptoRow.holds Try.pinned (OpenSpec.upto tableDoesSpec)

/-- 'bypathlaw23.TableExpires', WHERE WHAT IT READS IS OF BULK AT MOST 1048576: true; the input reads as it did. -/
def tableExpiresUptoRow : OpenClaim := { program := "ytfmehahjjgalfaa", sum := "cde7560a11ed12e4d88fc0fb5cd389dd21f6bf5aaf06ae62ef762dea608b66e1", func := "bypath/bypathlaw23.TableExpires", spec := "tableExpires", unfollowed := true, recurses := true, plainKeys := false, apart := false, narrowed := true }
def TableExpiresUptoSaid : Prop := tableExpiresUptoRow.holds Try.pinned (OpenSpec.upto tableExpiresSpec)

/-- 'bypathlaw23.TableFull', WHERE WHAT IT READS IS OF BULK AT MOST 1048576: true; the input reads as it did. -/
def tableFullUptoRow : OpenClaim := { program := "ytfmehahjjgalfaa", sum := "cde7560a11ed12e4d88fc0fb5cd389dd21f6bf5aaf06ae62ef762dea608b66e1", func := "bypath/bypathlaw23.TableFull", spec := "tableFull", unfollowed := true, recurses := true, plainKeys := false, apart := false, narrowed := true }
def TableFullUptoSaid : Prop := tableFullUptoRow.holds Try.pinned (OpenSpec.upto tableFullSpec)

/-- 'bypathlaw23.TableAnew', WHERE WHAT IT READS IS OF BULK AT MOST 1048576: true; the input reads as it did. -/
def tableAnewUptoRow : OpenClaim := { program := "ytfmehahjjgalfaa", sum := "cde7560a11ed12e4d88fc0fb5cd389dd21f6bf5aaf06ae62ef762dea608b66e1", func := "bypath/bypathlaw23.TableAnew", spec := "tableAnew", unfollowed := true, recurses := true, plainKeys := false, apart := false, narrowed := true }
def TableAnewUptoSaid : Prop := tableAnewUptoRow.holds Try.pinned (OpenSpec.upto tableAnewSpec)

/-- 'bypathlaw17.MeterTakes', WHERE WHAT IT READS IS OF BULK AT MOST 1048576: true; the input reads as it did. -/
def meterTakesUptoRow : OpenClaim := { program := "ytfmehahjjgalfaa", sum := "cde7560a11ed12e4d88fc0fb5cd389dd21f6bf5aaf06ae62ef762dea608b66e1", func := "bypath/bypathlaw17.MeterTakes", spec := "meterTakes", unfollowed := true, recurses := true, plainKeys := false, apart := false, narrowed := true }
def MeterTakesUptoSaid : Prop := meterTakesUptoRow.holds Try.pinned (OpenSpec.upto meterTakesSpec)

/-- 'bypathlaw17.MeterOld', WHERE WHAT IT READS IS OF BULK AT MOST 1048576: true; the input reads as it did. -/
def meterOldUptoRow : OpenClaim := { program := "ytfmehahjjgalfaa", sum := "cde7560a11ed12e4d88fc0fb5cd389dd21f6bf5aaf06ae62ef762dea608b66e1", func := "bypath/bypathlaw17.MeterOld", spec := "meterOld", unfollowed := true, recurses := true, plainKeys := false, apart := false, narrowed := true }
def MeterOldUptoSaid : Prop := meterOldUptoRow.holds Try.pinned (OpenSpec.upto meterOldSpec)

/-- 'bypathlaw17.MeterRises', WHERE WHAT IT READS IS OF BULK AT MOST 1048576: true; the input reads as it did. -/
def meterRisesUptoRow : OpenClaim := { program := "ytfmehahjjgalfaa", sum := "cde7560a11ed12e4d88fc0fb5cd389dd21f6bf5aaf06ae62ef762dea608b66e1", func := "bypath/bypathlaw17.MeterRises", spec := "meterRises", unfollowed := true, recurses := true, plainKeys := false, apart := false, narrowed := true }
def MeterRisesUptoSaid : Prop := meterRisesUptoRow.holds Try.pinned (OpenSpec.upto meterRisesSpec)

/-- 'bypathlaw17.MeterSums', WHERE WHAT IT READS IS OF BULK AT MOST 1048576: true; the input reads as it did. -/
def meterSumsUptoRow : OpenClaim := { program := "ytfmehahjjgalfaa", sum := "cde7560a11ed12e4d88fc0fb5cd389dd21f6bf5aaf06ae62ef762dea608b66e1", func := "bypath/bypathlaw17.MeterSums", spec := "meterSums", unfollowed := true, recurses := true, plainKeys := false, apart := false, narrowed := true }
def MeterSumsUptoSaid : Prop := meterSumsUptoRow.holds Try.pinned (OpenSpec.upto meterSumsSpec)

/-- 'bypathlaw17.MeterOnce', WHERE WHAT IT READS IS OF BULK AT MOST 1048576: true; the input reads as it did. -/
def meterOnceUptoRow : OpenClaim := { program := "ytfmehahjjgalfaa", sum := "cde7560a11ed12e4d88fc0fb5cd389dd21f6bf5aaf06ae62ef762dea608b66e1", func := "bypath/bypathlaw17.MeterOnce", spec := "meterOnce", unfollowed := true, recurses := true, plainKeys := false, apart := false, narrowed := true }
def MeterOnceUptoSaid : Prop := meterOnceUptoRow.holds Try.pinned (OpenSpec.upto meterOnceSpec)

end Rows
end Go.Proofs.Ytfmehahjjgalfaa
