/- MeterTakes: its arguments. -/
import Derived.Test.YtfmehahjjgalfaaQam
import Derived.Test.YtfmehahjjgalfaaQar
namespace Go.Proofs.Ytfmehahjjgalfaa.Me
open Go.RowKit
theorem mtakes_i {w : World} {s : SlV OpM} (h : SlOk ROpM opIn w s) {p : Nat × Int} (hp : p.1 < 4294967296 ∧ I3 p.2) : Calls Try.prog 11 #[.slice s.a s.n s.c, .agg #[.int .u32 (p.1 : Int), .int .i64 p.2]] w fun e w' => e = .returned (.bool true) ∧ Below w.heap.size w w' := mtakes_law ⟨h.sl, fun x hx => cts_of (h.all x hx)⟩ (p := p) (okK hp.1 hp.2)
end Go.Proofs.Ytfmehahjjgalfaa.Me

