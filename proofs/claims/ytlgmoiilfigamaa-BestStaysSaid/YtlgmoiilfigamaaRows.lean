/-
  No cell of these rows narrows 'for every input' (looked for: loops, veiled, ifaces, maps, wideKeys, modest, calm, conditions, laid).
  DERIVED. THE GIVEN ROWS OF THIS SEAT. 4 by the template 'for every input the law returns true; each argument reads behind the call as it read before'; 0 by the template 'total and deterministic' (their statements: YtlgmoiilfigamaaTotals.lean).
  GIVEN WITH THE SEED: the statements are not yours to turn. If you find one false, say at which input.
  Laid BY PROGRAM, IN A SANDBOX (cutbox-rows.mjs): the forced cells as the released guide's own fill.sh prints them over the translation 6a027930ea530173… (all of the seat's roots in one cut). By AI agents, Wed Nov 11 2026. No macro, syntax, notation, axiom, sorry.
-/
import Derived.Test.YtlgmoiilfigamaaChecked
import GoSem.Claim
import GoSem.ClaimJoined
import GoSem.ClaimMapViews
import Derived.JoinedTies
import Derived.KernelRfl
namespace Go.Proofs.Ytlgmoiilfigamaa
/- THE CELL 'sum', in the pinned program and in every row, IS THE sha256 OF THE DUMP (.gsa) THAT YtlgmoiilfigamaaProg.lean LOADS. Nothing in Lean hashes anything: it is a label: what it is worth is what the hold of that sum in a sandbox is worth. -/
noncomputable def Try.pinned : Pinned := { name := "ytlgmoiilfigamaa", sum := "6a027930ea53017377cdbbab0ba038e945c361f53771fb19ba329fa3064d179a", checked := Try.checked }
namespace Rows
def none {H : Type} : Left H := { results := [], args := [] }

/-- 'bypathlaw15.BestRoutes': WHATEVER THE INPUT: true; the input reads as it did. -/
def bestRoutesSpec : ChangeSpec := { name := "bestRoutes", fn := fun _ => fun
  | [d] => { results := [.lit (.bool true)], args := [d] }
  | _ => none }
def bestRoutesRow : OpenClaim := { program := "ytlgmoiilfigamaa", sum := "6a027930ea53017377cdbbab0ba038e945c361f53771fb19ba329fa3064d179a", func := "bypath/bypathlaw15.BestRoutes", spec := "bestRoutes", unfollowed := true, recurses := true, apart := false }
def BestRoutesSaid : Prop := bestRoutesRow.holds Try.pinned (OpenSpec.ofChange bestRoutesSpec)

/-- ITS FALSE NEIGHBOUR: 'it returns false'. Refute it at one input. -/
def bestRoutesWrong : ChangeSpec := { name := "bestRoutes", fn := fun _ => fun
  | [d] => { results := [.lit (.bool false)], args := [d] }
  | _ => none }
def BestRoutesWrongFalsely : Prop := bestRoutesRow.holds Try.pinned (OpenSpec.ofChange bestRoutesWrong)

/-- 'bypathlaw15.BestOrders': WHATEVER THE INPUT: true; the input reads as it did. -/
def bestOrdersSpec : ChangeSpec := { name := "bestOrders", fn := fun _ => fun
  | [d1, d2] => { results := [.lit (.bool true)], args := [d1, d2] }
  | _ => none }
def bestOrdersRow : OpenClaim := { program := "ytlgmoiilfigamaa", sum := "6a027930ea53017377cdbbab0ba038e945c361f53771fb19ba329fa3064d179a", func := "bypath/bypathlaw15.BestOrders", spec := "bestOrders", unfollowed := true, recurses := true, apart := false }
def BestOrdersSaid : Prop := bestOrdersRow.holds Try.pinned (OpenSpec.ofChange bestOrdersSpec)

/-- ITS FALSE NEIGHBOUR: 'it returns false'. Refute it at one input. -/
def bestOrdersWrong : ChangeSpec := { name := "bestOrders", fn := fun _ => fun
  | [d1, d2] => { results := [.lit (.bool false)], args := [d1, d2] }
  | _ => none }
def BestOrdersWrongFalsely : Prop := bestOrdersRow.holds Try.pinned (OpenSpec.ofChange bestOrdersWrong)

/-- 'bypathlaw15.BestStays': WHATEVER THE INPUT: true; the input reads as it did. -/
def bestStaysSpec : ChangeSpec := { name := "bestStays", fn := fun _ => fun
  | [d1, d2] => { results := [.lit (.bool true)], args := [d1, d2] }
  | _ => none }
def bestStaysRow : OpenClaim := { program := "ytlgmoiilfigamaa", sum := "6a027930ea53017377cdbbab0ba038e945c361f53771fb19ba329fa3064d179a", func := "bypath/bypathlaw15.BestStays", spec := "bestStays", unfollowed := true, recurses := true, apart := false }
def BestStaysSaid : Prop := bestStaysRow.holds Try.pinned (OpenSpec.ofChange bestStaysSpec)

/-- ITS FALSE NEIGHBOUR: 'it returns false'. Refute it at one input. -/
def bestStaysWrong : ChangeSpec := { name := "bestStays", fn := fun _ => fun
  | [d1, d2] => { results := [.lit (.bool false)], args := [d1, d2] }
  | _ => none }
def BestStaysWrongFalsely : Prop := bestStaysRow.holds Try.pinned (OpenSpec.ofChange bestStaysWrong)

/-- 'bypathlaw15.BestRanks': WHATEVER THE INPUT: true; the input reads as it did. -/
def bestRanksSpec : ChangeSpec := { name := "bestRanks", fn := fun _ => fun
  | [d] => { results := [.lit (.bool true)], args := [d] }
  | _ => none }
def bestRanksRow : OpenClaim := { program := "ytlgmoiilfigamaa", sum := "6a027930ea53017377cdbbab0ba038e945c361f53771fb19ba329fa3064d179a", func := "bypath/bypathlaw15.BestRanks", spec := "bestRanks", unfollowed := true, recurses := true, apart := false }
def BestRanksSaid : Prop := bestRanksRow.holds Try.pinned (OpenSpec.ofChange bestRanksSpec)

/-- ITS FALSE NEIGHBOUR: 'it returns false'. Refute it at one input. -/
def bestRanksWrong : ChangeSpec := { name := "bestRanks", fn := fun _ => fun
  | [d] => { results := [.lit (.bool false)], args := [d] }
  | _ => none }
def BestRanksWrongFalsely : Prop := bestRanksRow.holds Try.pinned (OpenSpec.ofChange bestRanksWrong)

/- THE SECOND FORM. 'bulk': how many values and letters a reading holds, each counted each time it is reached (what is shared counts as often as it is met; a slice's spare places count too). A statement '..UptoSaid' is the law's where the arguments, and the package variables that the reading takes, are together of bulk at most 1048576: NARROWER than '..Said'. Prove '..Said' where nothing that the law and all that it calls make is longer than what came in: it says more and counts as full. Else prove '..UptoSaid'. A law counts once. -/
mutual
def uptoBulk {H : Type} : DataW H → Nat
  | .lit (.string bytes) => bytes.length + 1
  | .lit _ => 1
  | .nil => 1
  | .ptr d => uptoBulk d + 1
  | .slice elems spare => uptoBulkAll elems + uptoBulkAll spare + 1
  | .agg parts => uptoBulkAll parts + 1
  | .iface _ d => uptoBulk d + 1
  | .map entries => uptoBulkEntries entries + 1
  | .held _ => 1
def uptoBulkAll {H : Type} : List (DataW H) → Nat
  | [] => 0
  | d :: r => uptoBulk d + uptoBulkAll r
def uptoBulkEntries {H : Type} : List (Lit × DataW H) → Nat
  | [] => 0
  | x :: r => uptoBulkEntry x + uptoBulkEntries r
def uptoBulkEntry {H : Type} : Lit × DataW H → Nat
  | (.string bytes, d) => bytes.length + uptoBulk d + 1
  | (_, d) => uptoBulk d + 1
 end
def uptoSmall : (H : Type) → List (DataW H) → Bool := fun _ ds => decide (uptoBulkAll ds ≤ 1048576)
def OpenSpec.upto (s : _root_.Go.ChangeSpec) : _root_.Go.OpenSpec := { _root_.Go.OpenSpec.ofChange s with cond := some uptoSmall }

/-- 'bypathlaw15.BestRoutes', WHERE WHAT IT READS IS OF BULK AT MOST 1048576: true; the input reads as it did. -/
def bestRoutesUptoRow : OpenClaim := { program := "ytlgmoiilfigamaa", sum := "6a027930ea53017377cdbbab0ba038e945c361f53771fb19ba329fa3064d179a", func := "bypath/bypathlaw15.BestRoutes", spec := "bestRoutes", unfollowed := true, recurses := true, apart := false, narrowed := true }
def BestRoutesUptoSaid : Prop := bestRoutesUptoRow.holds Try.pinned (OpenSpec.upto bestRoutesSpec)

/-- 'bypathlaw15.BestOrders', WHERE WHAT IT READS IS OF BULK AT MOST 1048576: true; the input reads as it did. -/
def bestOrdersUptoRow : OpenClaim := { program := "ytlgmoiilfigamaa", sum := "6a027930ea53017377cdbbab0ba038e945c361f53771fb19ba329fa3064d179a", func := "bypath/bypathlaw15.BestOrders", spec := "bestOrders", unfollowed := true, recurses := true, apart := false, narrowed := true }
def BestOrdersUptoSaid : Prop := bestOrdersUptoRow.holds Try.pinned (OpenSpec.upto bestOrdersSpec)

/-- 'bypathlaw15.BestStays', WHERE WHAT IT READS IS OF BULK AT MOST 1048576: true; the input reads as it did. -/
def bestStaysUptoRow : OpenClaim := { program := "ytlgmoiilfigamaa", sum := "6a027930ea53017377cdbbab0ba038e945c361f53771fb19ba329fa3064d179a", func := "bypath/bypathlaw15.BestStays", spec := "bestStays", unfollowed := true, recurses := true, apart := false, narrowed := true }
def BestStaysUptoSaid : Prop := bestStaysUptoRow.holds Try.pinned (OpenSpec.upto bestStaysSpec)

/-- 'bypathlaw15.BestRanks', WHERE WHAT IT READS IS OF BULK AT MOST 1048576: true; the input reads as it did. -/
def bestRanksUptoRow : OpenClaim := { program := "ytlgmoiilfigamaa", sum := "6a027930ea53017377cdbbab0ba038e945c361f53771fb19ba329fa3064d179a", func := "bypath/bypathlaw15.BestRanks", spec := "bestRanks", unfollowed := true, recurses := true, apart := false, narrowed := true }
def BestRanksUptoSaid : Prop := bestRanksUptoRow.holds Try.pinned (OpenSpec.upto bestRanksSpec)

end Rows
end Go.Proofs.Ytlgmoiilfigamaa
