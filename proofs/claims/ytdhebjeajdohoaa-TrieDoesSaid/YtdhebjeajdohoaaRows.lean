/-
  No cell of these rows narrows 'for every input' (looked for: loops, veiled, ifaces, maps, wideKeys, modest, calm, conditions, laid).
  DERIVED. THE GIVEN ROWS OF THIS SEAT. 5 by the template 'for every input the law returns true; each argument reads behind the call as it read before'; 0 by the template 'total and deterministic' (their statements: YtdhebjeajdohoaaTotals.lean).
  GIVEN WITH THE SEED: the statements are not yours to turn. If you find one false, say at which input.
  Laid BY PROGRAM, IN A SANDBOX (cutbox-rows.mjs): the forced cells as the released guide's own fill.sh prints them over the translation 59813cecbde7a663… (all of the seat's roots in one cut). By AI agents, Wed Nov 11 2026. No macro, syntax, notation, axiom, sorry.
-/
import Derived.Test.YtdhebjeajdohoaaChecked
import GoSem.Claim
import GoSem.ClaimJoined
import GoSem.ClaimMapViews
import Derived.JoinedTies
import Derived.KernelRfl
namespace Go.Proofs.Ytdhebjeajdohoaa
/- THE CELL 'sum', in the pinned program and in every row, IS THE sha256 OF THE DUMP (.gsa) THAT YtdhebjeajdohoaaProg.lean LOADS. Nothing in Lean hashes anything: it is a label: what it is worth is what the hold of that sum in a sandbox is worth. -/
noncomputable def Try.pinned : Pinned := { name := "ytdhebjeajdohoaa", sum := "59813cecbde7a663d63376320d4a85e42ef0543ecd4333c84d36c4adee79f5e5", checked := Try.checked }
namespace Rows
def none {H : Type} : Left H := { results := [], args := [] }

/-- 'bypathlaw13.TrieDoes': WHATEVER THE INPUT: true; the input reads as it did. -/
def trieDoesSpec : ChangeSpec := { name := "trieDoes", fn := fun _ => fun
  | [d1, d2] => { results := [.lit (.bool true)], args := [d1, d2] }
  | _ => none }
def trieDoesRow : OpenClaim := { program := "ytdhebjeajdohoaa", sum := "59813cecbde7a663d63376320d4a85e42ef0543ecd4333c84d36c4adee79f5e5", func := "bypath/bypathlaw13.TrieDoes", spec := "trieDoes", unfollowed := true, recurses := true, apart := false }
def TrieDoesSaid : Prop := trieDoesRow.holds Try.pinned (OpenSpec.ofChange trieDoesSpec)

/-- ITS FALSE NEIGHBOUR: 'it returns false'. Refute it at one input. -/
def trieDoesWrong : ChangeSpec := { name := "trieDoes", fn := fun _ => fun
  | [d1, d2] => { results := [.lit (.bool false)], args := [d1, d2] }
  | _ => none }
def TrieDoesWrongFalsely : Prop := trieDoesRow.holds Try.pinned (OpenSpec.ofChange trieDoesWrong)

/-- 'bypathlaw13.TrieOrders': WHATEVER THE INPUT: true; the input reads as it did. -/
def trieOrdersSpec : ChangeSpec := { name := "trieOrders", fn := fun _ => fun
  | [d1, d2, d3] => { results := [.lit (.bool true)], args := [d1, d2, d3] }
  | _ => none }
def trieOrdersRow : OpenClaim := { program := "ytdhebjeajdohoaa", sum := "59813cecbde7a663d63376320d4a85e42ef0543ecd4333c84d36c4adee79f5e5", func := "bypath/bypathlaw13.TrieOrders", spec := "trieOrders", unfollowed := true, recurses := true, apart := false }
def TrieOrdersSaid : Prop := trieOrdersRow.holds Try.pinned (OpenSpec.ofChange trieOrdersSpec)

/-- ITS FALSE NEIGHBOUR: 'it returns false'. Refute it at one input. -/
def trieOrdersWrong : ChangeSpec := { name := "trieOrders", fn := fun _ => fun
  | [d1, d2, d3] => { results := [.lit (.bool false)], args := [d1, d2, d3] }
  | _ => none }
def TrieOrdersWrongFalsely : Prop := trieOrdersRow.holds Try.pinned (OpenSpec.ofChange trieOrdersWrong)

/-- 'bypathlaw13.TrieGone': WHATEVER THE INPUT: true; the input reads as it did. -/
def trieGoneSpec : ChangeSpec := { name := "trieGone", fn := fun _ => fun
  | [d1, d2] => { results := [.lit (.bool true)], args := [d1, d2] }
  | _ => none }
def trieGoneRow : OpenClaim := { program := "ytdhebjeajdohoaa", sum := "59813cecbde7a663d63376320d4a85e42ef0543ecd4333c84d36c4adee79f5e5", func := "bypath/bypathlaw13.TrieGone", spec := "trieGone", unfollowed := true, recurses := true, apart := false }
def TrieGoneSaid : Prop := trieGoneRow.holds Try.pinned (OpenSpec.ofChange trieGoneSpec)

/-- ITS FALSE NEIGHBOUR: 'it returns false'. Refute it at one input. -/
def trieGoneWrong : ChangeSpec := { name := "trieGone", fn := fun _ => fun
  | [d1, d2] => { results := [.lit (.bool false)], args := [d1, d2] }
  | _ => none }
def TrieGoneWrongFalsely : Prop := trieGoneRow.holds Try.pinned (OpenSpec.ofChange trieGoneWrong)

/-- 'bypathlaw13.TrieNobody': WHATEVER THE INPUT: true; the input reads as it did. -/
def trieNobodySpec : ChangeSpec := { name := "trieNobody", fn := fun _ => fun
  | [d1, d2] => { results := [.lit (.bool true)], args := [d1, d2] }
  | _ => none }
def trieNobodyRow : OpenClaim := { program := "ytdhebjeajdohoaa", sum := "59813cecbde7a663d63376320d4a85e42ef0543ecd4333c84d36c4adee79f5e5", func := "bypath/bypathlaw13.TrieNobody", spec := "trieNobody", unfollowed := true, recurses := true, apart := false }
def TrieNobodySaid : Prop := trieNobodyRow.holds Try.pinned (OpenSpec.ofChange trieNobodySpec)

/-- ITS FALSE NEIGHBOUR: 'it returns false'. Refute it at one input. -/
def trieNobodyWrong : ChangeSpec := { name := "trieNobody", fn := fun _ => fun
  | [d1, d2] => { results := [.lit (.bool false)], args := [d1, d2] }
  | _ => none }
def TrieNobodyWrongFalsely : Prop := trieNobodyRow.holds Try.pinned (OpenSpec.ofChange trieNobodyWrong)

/-- 'bypathlaw13.TrieWithin': WHATEVER THE INPUT: true; the input reads as it did. -/
def trieWithinSpec : ChangeSpec := { name := "trieWithin", fn := fun _ => fun
  | [d1, d2] => { results := [.lit (.bool true)], args := [d1, d2] }
  | _ => none }
def trieWithinRow : OpenClaim := { program := "ytdhebjeajdohoaa", sum := "59813cecbde7a663d63376320d4a85e42ef0543ecd4333c84d36c4adee79f5e5", func := "bypath/bypathlaw13.TrieWithin", spec := "trieWithin", unfollowed := true, recurses := true, apart := false }
def TrieWithinSaid : Prop := trieWithinRow.holds Try.pinned (OpenSpec.ofChange trieWithinSpec)

/-- ITS FALSE NEIGHBOUR: 'it returns false'. Refute it at one input. -/
def trieWithinWrong : ChangeSpec := { name := "trieWithin", fn := fun _ => fun
  | [d1, d2] => { results := [.lit (.bool false)], args := [d1, d2] }
  | _ => none }
def TrieWithinWrongFalsely : Prop := trieWithinRow.holds Try.pinned (OpenSpec.ofChange trieWithinWrong)

/- THE SECOND FORM. 'bulk': how many values and letters a reading holds, each counted each time it is reached (what is shared counts as often as it is met; a slice's spare places count too). A statement '..UptoSaid' is the law's where the arguments, and the package variables that the reading takes, are together of bulk at most 1048576: NARROWER than '..Said'. Prove '..Said' where nothing that the law and all that it calls make is longer than what came in: it says more and counts as full. Else prove '..UptoSaid'. A law counts once. -/
mutual
def uptoBulk {H : Type} : DataW H → Nat
  | .lit (.string bytes) => bytes.length + 1
  | .lit _ => 1
  | .nil => 1
  | .ptr d => uptoBulk d + 1
  | .slice elems spare => uptoBulkAll elems + uptoBulkAll spare + 1
  | .agg parts => uptoBulkAll parts + 1
  | .iface _ d => uptoBulk d + 1
  | .map entries => uptoBulkEntries entries + 1
  | .held _ => 1
def uptoBulkAll {H : Type} : List (DataW H) → Nat
  | [] => 0
  | d :: r => uptoBulk d + uptoBulkAll r
def uptoBulkEntries {H : Type} : List (Lit × DataW H) → Nat
  | [] => 0
  | x :: r => uptoBulkEntry x + uptoBulkEntries r
def uptoBulkEntry {H : Type} : Lit × DataW H → Nat
  | (.string bytes, d) => bytes.length + uptoBulk d + 1
  | (_, d) => uptoBulk d + 1
 end
def uptoSmall : (H : Type) → List (DataW H) → Bool := fun _ ds => decide (uptoBulkAll ds ≤ 1048576)
def OpenSpec.upto (s : _root_.Go.ChangeSpec) : _root_.Go.OpenSpec := { _root_.Go.OpenSpec.ofChange s with cond := some uptoSmall }

/-- 'bypathlaw13.TrieDoes', WHERE WHAT IT READS IS OF BULK AT MOST 1048576: true; the input reads as it did. -/
def trieDoesUptoRow : OpenClaim := { program := "ytdhebjeajdohoaa", sum := "59813cecbde7a663d63376320d4a85e42ef0543ecd4333c84d36c4adee79f5e5", func := "bypath/bypathlaw13.TrieDoes", spec := "trieDoes", unfollowed := true, recurses := true, apart := false, narrowed := true }
def TrieDoesUptoSaid : Prop := trieDoesUptoRow.holds Try.pinned (OpenSpec.upto trieDoesSpec)

/-- 'bypathlaw13.TrieOrders', WHERE WHAT IT READS IS OF BULK AT MOST 1048576: true; the input reads as it did. -/
def trieOrdersUptoRow : OpenClaim := { program := "ytdhebjeajdohoaa", sum := "59813cecbde7a663d63376320d4a85e42ef0543ecd4333c84d36c4adee79f5e5", func := "bypath/bypathlaw13.TrieOrders", spec := "trieOrders", unfollowed := true, recurses := true, apart := false, narrowed := true }
def TrieOrdersUptoSaid : Prop := trieOrdersUptoRow.holds Try.pinned (OpenSpec.upto trieOrdersSpec)

/-- 'bypathlaw13.TrieGone', WHERE WHAT IT READS IS OF BULK AT MOST 1048576: true; the input reads as it did. -/
def trieGoneUptoRow : OpenClaim := { program := "ytdhebjeajdohoaa", sum := "59813cecbde7a663d63376320d4a85e42ef0543ecd4333c84d36c4adee79f5e5", func := "bypath/bypathlaw13.TrieGone", spec := "trieGone", unfollowed := true, recurses := true, apart := false, narrowed := true }
def TrieGoneUptoSaid : Prop := trieGoneUptoRow.holds Try.pinned (OpenSpec.upto trieGoneSpec)

/-- 'bypathlaw13.TrieNobody', WHERE WHAT IT READS IS OF BULK AT MOST 1048576: true; the input reads as it did. -/
def trieNobodyUptoRow : OpenClaim := { program := "ytdhebjeajdohoaa", sum := "59813cecbde7a663d63376320d4a85e42ef0543ecd4333c84d36c4adee79f5e5", func := "bypath/bypathlaw13.TrieNobody", spec := "trieNobody", unfollowed := true, recurses := true, apart := false, narrowed := true }
def TrieNobodyUptoSaid : Prop := trieNobodyUptoRow.holds Try.pinned (OpenSpec.upto trieNobodySpec)

/-- 'bypathlaw13.TrieWithin', WHERE WHAT IT READS IS OF BULK AT MOST 1048576: true; the input reads as it did. -/
def trieWithinUptoRow : OpenClaim := { program := "ytdhebjeajdohoaa", sum := "59813cecbde7a663d63376320d4a85e42ef0543ecd4333c84d36c4adee79f5e5", func := "bypath/bypathlaw13.TrieWithin", spec := "trieWithin", unfollowed := true, recurses := true, apart := false, narrowed := true }
def TrieWithinUptoSaid : Prop := trieWithinUptoRow.holds Try.pinned (OpenSpec.upto trieWithinSpec)

end Rows
end Go.Proofs.Ytdhebjeajdohoaa
