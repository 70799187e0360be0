/-
  No cell of these rows narrows 'for every input' (looked for: loops, veiled, ifaces, maps, wideKeys, modest, calm, conditions, laid).
  DERIVED. THE GIVEN ROWS OF THIS SEAT. 7 by the template 'for every input the law returns true; each argument reads behind the call as it read before'; 0 by the template 'total and deterministic' (their statements: YtlkbaplfffbmkaaTotals.lean).
  GIVEN WITH THE SEED: the statements are not yours to turn. If you find one false, say at which input.
  Laid BY PROGRAM, IN A SANDBOX (cutbox-rows.mjs): the forced cells as the released guide's own fill.sh prints them over the translation dd86a393afe019fc… (all of the seat's roots in one cut). By AI agents, Wed Nov 11 2026. No macro, syntax, notation, axiom, sorry.
-/
import Derived.Test.YtlkbaplfffbmkaaChecked
import GoSem.Claim
import GoSem.ClaimJoined
import GoSem.ClaimMapViews
import Derived.JoinedTies
import Derived.KernelRfl
namespace Go.Proofs.Ytlkbaplfffbmkaa
/- THE CELL 'sum', in the pinned program and in every row, IS THE sha256 OF THE DUMP (.gsa) THAT YtlkbaplfffbmkaaProg.lean LOADS. Nothing in Lean hashes anything: it is a label: what it is worth is what the hold of that sum in a sandbox is worth. -/
noncomputable def Try.pinned : Pinned := { name := "ytlkbaplfffbmkaa", sum := "dd86a393afe019fc3a1fdd97c2bc11bcb03caf2260ee7b2a37774c83a7a0fc58", checked := Try.checked }
namespace Rows
def none {H : Type} : Left H := { results := [], args := [] }

/-- 'bypathlaw16.HopFinds': WHATEVER THE INPUT: true; the input reads as it did. -/
def hopFindsSpec : ChangeSpec := { name := "hopFinds", fn := fun _ => fun
  | [d1, d2, d3, d4] => { results := [.lit (.bool true)], args := [d1, d2, d3, d4] }
  | _ => none }
def hopFindsRow : OpenClaim := { program := "ytlkbaplfffbmkaa", sum := "dd86a393afe019fc3a1fdd97c2bc11bcb03caf2260ee7b2a37774c83a7a0fc58", func := "bypath/bypathlaw16.HopFinds", spec := "hopFinds", unfollowed := true, recurses := true, plainKeys := false, apart := false }
def HopFindsSaid : Prop := hopFindsRow.holds Try.pinned (OpenSpec.ofChange hopFindsSpec)

/-- ITS FALSE NEIGHBOUR: 'it returns false'. Refute it at one input. -/
def hopFindsWrong : ChangeSpec := { name := "hopFinds", fn := fun _ => fun
  | [d1, d2, d3, d4] => { results := [.lit (.bool false)], args := [d1, d2, d3, d4] }
  | _ => none }
def HopFindsWrongFalsely : Prop := hopFindsRow.holds Try.pinned (OpenSpec.ofChange hopFindsWrong)

/-- 'bypathlaw16.HopOrders': WHATEVER THE INPUT: true; the input reads as it did. -/
def hopOrdersSpec : ChangeSpec := { name := "hopOrders", fn := fun _ => fun
  | [d1, d2, d3, d4] => { results := [.lit (.bool true)], args := [d1, d2, d3, d4] }
  | _ => none }
def hopOrdersRow : OpenClaim := { program := "ytlkbaplfffbmkaa", sum := "dd86a393afe019fc3a1fdd97c2bc11bcb03caf2260ee7b2a37774c83a7a0fc58", func := "bypath/bypathlaw16.HopOrders", spec := "hopOrders", unfollowed := true, recurses := true, plainKeys := false, apart := false }
def HopOrdersSaid : Prop := hopOrdersRow.holds Try.pinned (OpenSpec.ofChange hopOrdersSpec)

/-- ITS FALSE NEIGHBOUR: 'it returns false'. Refute it at one input. -/
def hopOrdersWrong : ChangeSpec := { name := "hopOrders", fn := fun _ => fun
  | [d1, d2, d3, d4] => { results := [.lit (.bool false)], args := [d1, d2, d3, d4] }
  | _ => none }
def HopOrdersWrongFalsely : Prop := hopOrdersRow.holds Try.pinned (OpenSpec.ofChange hopOrdersWrong)

/-- 'bypathlaw16.HopShorter': WHATEVER THE INPUT: true; the input reads as it did. -/
def hopShorterSpec : ChangeSpec := { name := "hopShorter", fn := fun _ => fun
  | [d1, d2, d3, d4] => { results := [.lit (.bool true)], args := [d1, d2, d3, d4] }
  | _ => none }
def hopShorterRow : OpenClaim := { program := "ytlkbaplfffbmkaa", sum := "dd86a393afe019fc3a1fdd97c2bc11bcb03caf2260ee7b2a37774c83a7a0fc58", func := "bypath/bypathlaw16.HopShorter", spec := "hopShorter", unfollowed := true, recurses := true, plainKeys := false, apart := false }
def HopShorterSaid : Prop := hopShorterRow.holds Try.pinned (OpenSpec.ofChange hopShorterSpec)

/-- ITS FALSE NEIGHBOUR: 'it returns false'. Refute it at one input. -/
def hopShorterWrong : ChangeSpec := { name := "hopShorter", fn := fun _ => fun
  | [d1, d2, d3, d4] => { results := [.lit (.bool false)], args := [d1, d2, d3, d4] }
  | _ => none }
def HopShorterWrongFalsely : Prop := hopShorterRow.holds Try.pinned (OpenSpec.ofChange hopShorterWrong)

/-- 'bypathlaw16.HopNobody': WHATEVER THE INPUT: true; the input reads as it did. -/
def hopNobodySpec : ChangeSpec := { name := "hopNobody", fn := fun _ => fun
  | [d1, d2] => { results := [.lit (.bool true)], args := [d1, d2] }
  | _ => none }
def hopNobodyRow : OpenClaim := { program := "ytlkbaplfffbmkaa", sum := "dd86a393afe019fc3a1fdd97c2bc11bcb03caf2260ee7b2a37774c83a7a0fc58", func := "bypath/bypathlaw16.HopNobody", spec := "hopNobody", unfollowed := true, recurses := true, plainKeys := false, apart := false }
def HopNobodySaid : Prop := hopNobodyRow.holds Try.pinned (OpenSpec.ofChange hopNobodySpec)

/-- ITS FALSE NEIGHBOUR: 'it returns false'. Refute it at one input. -/
def hopNobodyWrong : ChangeSpec := { name := "hopNobody", fn := fun _ => fun
  | [d1, d2] => { results := [.lit (.bool false)], args := [d1, d2] }
  | _ => none }
def HopNobodyWrongFalsely : Prop := hopNobodyRow.holds Try.pinned (OpenSpec.ofChange hopNobodyWrong)

/-- 'bypathlaw18.CapaTakes': WHATEVER THE INPUT: true; the input reads as it did. -/
def capaTakesSpec : ChangeSpec := { name := "capaTakes", fn := fun _ => fun
  | [d1, d2, d3] => { results := [.lit (.bool true)], args := [d1, d2, d3] }
  | _ => none }
def capaTakesRow : OpenClaim := { program := "ytlkbaplfffbmkaa", sum := "dd86a393afe019fc3a1fdd97c2bc11bcb03caf2260ee7b2a37774c83a7a0fc58", func := "bypath/bypathlaw18.CapaTakes", spec := "capaTakes", unfollowed := true, recurses := true, named := ["math/bits.divideError", "math/bits.overflowError"], plainKeys := false, apart := false }
def CapaTakesSaid : Prop := capaTakesRow.holds Try.pinned (OpenSpec.ofChange capaTakesSpec)

/-- ITS FALSE NEIGHBOUR: 'it returns false'. Refute it at one input. -/
def capaTakesWrong : ChangeSpec := { name := "capaTakes", fn := fun _ => fun
  | [d1, d2, d3] => { results := [.lit (.bool false)], args := [d1, d2, d3] }
  | _ => none }
def CapaTakesWrongFalsely : Prop := capaTakesRow.holds Try.pinned (OpenSpec.ofChange capaTakesWrong)

/-- 'bypathlaw18.CapaStays': WHATEVER THE INPUT: true; the input reads as it did. -/
def capaStaysSpec : ChangeSpec := { name := "capaStays", fn := fun _ => fun
  | [d1, d2, d3] => { results := [.lit (.bool true)], args := [d1, d2, d3] }
  | _ => none }
def capaStaysRow : OpenClaim := { program := "ytlkbaplfffbmkaa", sum := "dd86a393afe019fc3a1fdd97c2bc11bcb03caf2260ee7b2a37774c83a7a0fc58", func := "bypath/bypathlaw18.CapaStays", spec := "capaStays", unfollowed := true, recurses := true, named := ["math/bits.divideError", "math/bits.overflowError"], plainKeys := false, apart := false }
def CapaStaysSaid : Prop := capaStaysRow.holds Try.pinned (OpenSpec.ofChange capaStaysSpec)

/-- ITS FALSE NEIGHBOUR: 'it returns false'. Refute it at one input. -/
def capaStaysWrong : ChangeSpec := { name := "capaStays", fn := fun _ => fun
  | [d1, d2, d3] => { results := [.lit (.bool false)], args := [d1, d2, d3] }
  | _ => none }
def CapaStaysWrongFalsely : Prop := capaStaysRow.holds Try.pinned (OpenSpec.ofChange capaStaysWrong)

/-- 'bypathlaw18.CapaLimits': WHATEVER THE INPUT: true; the input reads as it did. -/
def capaLimitsSpec : ChangeSpec := { name := "capaLimits", fn := fun _ => fun
  | [d1, d2, d3, d4] => { results := [.lit (.bool true)], args := [d1, d2, d3, d4] }
  | _ => none }
def capaLimitsRow : OpenClaim := { program := "ytlkbaplfffbmkaa", sum := "dd86a393afe019fc3a1fdd97c2bc11bcb03caf2260ee7b2a37774c83a7a0fc58", func := "bypath/bypathlaw18.CapaLimits", spec := "capaLimits", unfollowed := true, recurses := true, named := ["math/bits.divideError", "math/bits.overflowError"], plainKeys := false, apart := false }
def CapaLimitsSaid : Prop := capaLimitsRow.holds Try.pinned (OpenSpec.ofChange capaLimitsSpec)

/-- ITS FALSE NEIGHBOUR: 'it returns false'. Refute it at one input. -/
def capaLimitsWrong : ChangeSpec := { name := "capaLimits", fn := fun _ => fun
  | [d1, d2, d3, d4] => { results := [.lit (.bool false)], args := [d1, d2, d3, d4] }
  | _ => none }
def CapaLimitsWrongFalsely : Prop := capaLimitsRow.holds Try.pinned (OpenSpec.ofChange capaLimitsWrong)

/- THE SECOND FORM. 'bulk': how many values and letters a reading holds, each counted each time it is reached (what is shared counts as often as it is met; a slice's spare places count too). A statement '..UptoSaid' is the law's where the arguments, and the package variables that the reading takes, are together of bulk at most 1048576: NARROWER than '..Said'. Prove '..Said' where nothing that the law and all that it calls make is longer than what came in: it says more and counts as full. Else prove '..UptoSaid'. A law counts once. -/
mutual
def uptoBulk {H : Type} : DataW H → Nat
  | .lit (.string bytes) => bytes.length + 1
  | .lit _ => 1
  | .nil => 1
  | .ptr d => uptoBulk d + 1
  | .slice elems spare => uptoBulkAll elems + uptoBulkAll spare + 1
  | .agg parts => uptoBulkAll parts + 1
  | .iface _ d => uptoBulk d + 1
  | .map entries => uptoBulkEntries entries + 1
  | .held _ => 1
def uptoBulkAll {H : Type} : List (DataW H) → Nat
  | [] => 0
  | d :: r => uptoBulk d + uptoBulkAll r
def uptoBulkEntries {H : Type} : List (Lit × DataW H) → Nat
  | [] => 0
  | x :: r => uptoBulkEntry x + uptoBulkEntries r
def uptoBulkEntry {H : Type} : Lit × DataW H → Nat
  | (.string bytes, d) => bytes.length + uptoBulk d + 1
  | (_, d) => uptoBulk d + 1
 end
def uptoSmall : (H : Type) → List (DataW H) → Bool := fun _ ds => decide (uptoBulkAll ds ≤ 1048576)
def OpenSpec.upto (s : _root_.Go.ChangeSpec) : _root_.Go.OpenSpec := { _root_.Go.OpenSpec.ofChange s with cond := some uptoSmall }

/-- 'bypathlaw16.HopFinds', WHERE WHAT IT READS IS OF BULK AT MOST 1048576: true; the input reads as it did. -/
def hopFindsUptoRow : OpenClaim := { program := "ytlkbaplfffbmkaa", sum := "dd86a393afe019fc3a1fdd97c2bc11bcb03caf2260ee7b2a37774c83a7a0fc58", func := "bypath/bypathlaw16.HopFinds", spec := "hopFinds", unfollowed := true, recurses := true, plainKeys := false, apart := false, narrowed := true }
def HopFindsUptoSaid : Prop := hopFindsUptoRow.holds Try.pinned (OpenSpec.upto hopFindsSpec)

/-- 'bypathlaw16.HopOrders', WHERE WHAT IT READS IS OF BULK AT MOST 1048576: true; the input reads as it did. -/
def hopOrdersUptoRow : OpenClaim := { program := "ytlkbaplfffbmkaa", sum := "dd86a393afe019fc3a1fdd97c2bc11bcb03caf2260ee7b2a37774c83a7a0fc58", func := "bypath/bypathlaw16.HopOrders", spec := "hopOrders", unfollowed := true, recurses := true, plainKeys := false, apart := false, narrowed := true }
def HopOrdersUptoSaid : Prop := hopOrdersUptoRow.holds Try.pinned (OpenSpec.upto hopOrdersSpec)

/-- 'bypathlaw16.HopShorter', WHERE WHAT IT READS IS OF BULK AT MOST 1048576: true; the input reads as it did. -/
def hopShorterUptoRow : OpenClaim := { program := "ytlkbaplfffbmkaa", sum := "dd86a393afe019fc3a1fdd97c2bc11bcb03caf2260ee7b2a37774c83a7a0fc58", func := "bypath/bypathlaw16.HopShorter", spec := "hopShorter", unfollowed := true, recurses := true, plainKeys := false, apart := false, narrowed := true }
def HopShorterUptoSaid : Prop := hopShorterUptoRow.holds Try.pinned (OpenSpec.upto hopShorterSpec)

/-- 'bypathlaw16.HopNobody', WHERE WHAT IT READS IS OF BULK AT MOST 1048576: true; the input reads as it did. -/
def hopNobodyUptoRow : OpenClaim := { program := "ytlkbaplfffbmkaa", sum := "dd86a393afe019fc3a1fdd97c2bc11bcb03caf2260ee7b2a37774c83a7a0fc58", func := "bypath/bypathlaw16.HopNobody", spec := "hopNobody", unfollowed := true, recurses := true, plainKeys := false, apart := false, narrowed := true }
def HopNobodyUptoSaid : Prop := hopNobodyUptoRow.holds Try.pinned (OpenSpec.upto hopNobodySpec)

/-- 'bypathlaw18.CapaTakes', WHERE WHAT IT READS IS OF BULK AT MOST 1048576: true; the input reads as it did. -/
def capaTakesUptoRow : OpenClaim := { program := "ytlkbaplfffbmkaa", sum := "dd86a393afe019fc3a1fdd97c2bc11bcb03caf2260ee7b2a37774c83a7a0fc58", func := "bypath/bypathlaw18.CapaTakes", spec := "capaTakes", unfollowed := true, recurses := true, named := ["math/bits.divideError", "math/bits.overflowError"], plainKeys := false, apart := false, narrowed := true }
def CapaTakesUptoSaid : Prop := capaTakesUptoRow.holds Try.pinned (OpenSpec.upto capaTakesSpec)

/-- 'bypathlaw18.CapaStays', WHERE WHAT IT READS IS OF BULK AT MOST 1048576: true; the input reads as it did. -/
def capaStaysUptoRow : OpenClaim := { program := "ytlkbaplfffbmkaa", sum := "dd86a393afe019fc3a1fdd97c2bc11bcb03caf2260ee7b2a37774c83a7a0fc58", func := "bypath/bypathlaw18.CapaStays", spec := "capaStays", unfollowed := true, recurses := true, named := ["math/bits.divideError", "math/bits.overflowError"], plainKeys := false, apart := false, narrowed := true }
def CapaStaysUptoSaid : Prop := capaStaysUptoRow.holds Try.pinned (OpenSpec.upto capaStaysSpec)

/-- 'bypathlaw18.CapaLimits', WHERE WHAT IT READS IS OF BULK AT MOST 1048576: true; the input reads as it did. -/
def capaLimitsUptoRow : OpenClaim := { program := "ytlkbaplfffbmkaa", sum := "dd86a393afe019fc3a1fdd97c2bc11bcb03caf2260ee7b2a37774c83a7a0fc58", func := "bypath/bypathlaw18.CapaLimits", spec := "capaLimits", unfollowed := true, recurses := true, named := ["math/bits.divideError", "math/bits.overflowError"], plainKeys := false, apart := false, narrowed := true }
def CapaLimitsUptoSaid : Prop := capaLimitsUptoRow.holds Try.pinned (OpenSpec.upto capaLimitsSpec)

end Rows
end Go.Proofs.Ytlkbaplfffbmkaa
