/- Routes in memory. -/
import Derived.Test.YtlgmoiilfigamaaRows
import Derived.Test.YtlgmoiilfigamaaMem
import Derived.Test.YtlgmoiilfigamaaPl
namespace Go.Proofs.Ytlgmoiilfigamaa
open Go.RowKit

structure SegV where
  set : Bool := false
  sa : Option Addr := none
  sn : Nat := 0
  sc : Nat := 0
  ns : List Int := []
  deriving Inhabited

/-- a slice of ints that lies below B -/
def IntsAt (w : World) (B : Nat) (oa : Option Addr) (n : Nat) (xs : List Int) : Prop :=
  n = xs.length ∧ n ≤ maxLen ∧ (0 < n → ∃ b off, oa = some ⟨b, off, none⟩ ∧ b < B ∧ ∀ i, i < n → w.cell? ⟨b, off + i, none⟩ = some (.int .i64 (xs.getD i 0)))
/-- a path -/
def PathAt (w : World) (B : Nat) (oa : Option Addr) (n : Nat) (p : List SegV) : Prop :=
  n = p.length ∧ n ≤ maxLen ∧ (0 < n → ∃ b off, oa = some ⟨b, off, none⟩ ∧ b < B ∧ ∀ i, i < n → w.cell? ⟨b, off + i * 2, none⟩ = some (.bool (p.getD i default).set) ∧
    w.cell? ⟨b, off + i * 2 + 1, none⟩ = some (.slice (p.getD i default).sa (p.getD i default).sn (p.getD i default).sc)) ∧ ∀ s ∈ p, IntsAt w B s.sa s.sn s.ns

theorem IntsAt.below {w w' : World} {B : Nat} {oa : Option Addr} {n : Nat} {xs : List Int} (h : IntsAt w B oa n xs) (hb : Below B w w') : IntsAt w' B oa n xs := by
  obtain ⟨h1, h2, h3⟩ := h
  refine ⟨h1, h2, fun hn => ?_⟩
  obtain ⟨b, off, e, hB, hc⟩ := h3 hn
  exact ⟨b, off, e, hB, fun i hi => (hb.cell (p := ⟨b, off + i, none⟩) hB).trans (hc i hi)⟩
theorem PathAt.below {w w' : World} {B : Nat} {oa : Option Addr} {n : Nat} {p : List SegV} (h : PathAt w B oa n p) (hb : Below B w w') : PathAt w' B oa n p := by
  obtain ⟨h1, h2, h3, h4⟩ := h
  refine ⟨h1, h2, fun hn => ?_, fun s hs => (h4 s hs).below hb⟩
  obtain ⟨b, off, e, hB, hc⟩ := h3 hn
  exact ⟨b, off, e, hB, fun i hi => ⟨(hb.cell (p := ⟨b, off + i * 2, none⟩) hB).trans (hc i hi).1, (hb.cell (p := ⟨b, off + i * 2 + 1, none⟩) hB).trans (hc i hi).2⟩⟩

/-- a route: its cells, and what they lead to -/
structure Rt where
  r : Int := 0
  a : Int := 0
  l : Int := 0
  i : Int := 0
  o : Int := 0
  pa : Option Addr := none
  pn : Nat := 0
  pc : Nat := 0
  nx : Int := 0
  md : Int := 0
  pf : Int := 0
  ca : Option Addr := none
  cn : Nat := 0
  cc : Nat := 0
  path : List SegV := []
  comms : List Int := []
  deriving Inhabited
def Rt.attrs (x : Rt) : Value := .agg #[.int .i64 x.o, .slice x.pa x.pn x.pc, .int .u32 x.nx, .int .i64 x.md, .int .i64 x.pf, .slice x.ca x.cn x.cc]
def Rt.cells (x : Rt) : List Value := [.int .i64 x.r, .int .u32 x.a, .int .i64 x.l, .int .i64 x.i, .int .i64 x.o, .slice x.pa x.pn x.pc, .int .u32 x.nx, .int .i64 x.md, .int .i64 x.pf, .slice x.ca x.cn x.cc]

def pfirst (p : List SegV) : Int :=
  match p with
  | [] => 0
  | s :: _ => if s.set then 0 else s.ns.headD 0

structure RtOk (w : World) (B : Nat) (x : Rt) : Prop where
  path : PathAt w B x.pa x.pn x.path
  comms : IntsAt w B x.ca x.cn x.comms
  pf1 : x.pf ≤ 9223372036854775807
  fr : -9223372036854775808 ≤ pfirst x.path ∧ pfirst x.path ≤ 9223372036854775807
theorem RtOk.below {w w' : World} {B : Nat} {x : Rt} (h : RtOk w B x) (hb : Below B w w') : RtOk w' B x := ⟨h.path.below hb, h.comms.below hb, h.pf1, h.fr⟩

def slen (s : SegV) : Int := if s.set then 1 else s.ns.length
def plen (p : List SegV) : Int := (p.map slen).sum
def prefOf (x : Rt) : Int := if x.pf < 0 then 100 else x.pf
def medOf (x : Rt) : Int := max x.md 0
/-- not too large -/
def Small (x : Rt) : Prop := x.path.length ≤ 20 ∧ x.comms.length ≤ 100 ∧ ∀ s ∈ x.path, s.ns.length ≤ 200
theorem plen_bd (p : List SegV) (h : ∀ s ∈ p, s.ns.length ≤ 200) : 0 ≤ plen p ∧ plen p ≤ 200 * p.length := by
  induction p with
  | nil => simp [plen]
  | cons s r ih =>
    have h1 := h s (by simp)
    have h2 := ih (fun t ht => h t (List.mem_cons_of_mem _ ht))
    have h3 : 0 ≤ slen s ∧ slen s ≤ 200 := by unfold slen; split <;> omega
    unfold plen at *
    simp only [List.map_cons, List.sum_cons, List.length_cons]
    omega
theorem plen_take (p : List SegV) (k : Nat) (h : k < p.length) : plen (p.take (k + 1)) = plen (p.take k) + slen (p.getD k default) := by
  unfold plen
  rw [List.take_succ_eq_append_getElem h, List.map_append, List.sum_append]
  simp [h]
end Go.Proofs.Ytlgmoiilfigamaa
