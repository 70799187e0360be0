/- Updates in memory; a piece of bytes; attributes that are too large. -/
import Derived.Test.YtadoflcomienoaaGreatZah
import Derived.Test.YtadoflcomienoaaGreatZaa
import Derived.Test.YtadoflcomienoaaGreatZad
import Derived.Laws.Tables
import Derived.Deep.Quiet
import Derived.Test.YtadoflcomienoaaGreatZac
import Derived.Test.YtadoflcomienoaaGreatZab
namespace Go.Proofs.YtadoflcomienoaaGreat
open Go.RowKit

def NlOk (_ : World) (n : Nl) : Prop := n.a < 4294967296 ∧ I64 n.id ∧ I64 n.ln
structure UpV where
  g : SlV Nl
  r : SlV Nl
  a : AtV
  soft : Bool
deriving Inhabited
def UpV.up (x : UpV) : Up := ⟨x.g.l, x.r.l, x.a.at, x.soft⟩
def UpV.v (x : UpV) : Value := .agg #[.slice x.g.a x.g.n x.g.c, .slice x.r.a x.r.n x.r.c, .int .i64 x.a.o, .slice x.a.p.a x.a.p.n x.a.p.c, .int .u32 x.a.nx, .int .i64 x.a.md, .int .i64 x.a.pf, .slice x.a.c.a x.a.c.n x.a.c.c, .bool x.soft]
structure UpOk (w : World) (x : UpV) : Prop where
  g : SlOk RNl NlOk w x.g
  r : SlOk RNl NlOk w x.r
  a : AtOk w x.a
theorem SlOk.keepN {w w' : World} {s : SlV Nl} (h : SlOk RNl NlOk w s) (hb : Below w.heap.size w w') : SlOk RNl NlOk w' s := h.keep hb fun _ _ h => h
theorem UpOk.keep {w w' : World} {x : UpV} (h : UpOk w x) (hb : Below w.heap.size w w') : UpOk w' x := ⟨h.g.keepN hb, h.r.keepN hb, h.a.keep hb⟩
theorem SlOk.nls {w : World} {s : SlV Nl} (h : SlOk RNl NlOk w s) : Nls w s.a s.n s.c s.l := ⟨h.sl, fun x hx => (h.all x hx).1, h.nil, h.nc, h.cm⟩
def largeA (x : At) : Bool := (decide (20 < x.p.length) || decide (100 < x.c.length)) || !(x.p.all fun s => decide (s.2.length ≤ 200))
theorem largeA_at {w : World} {x : AtV} (hx : AtOk w x) : largeA x.at = ((decide (20 < x.p.n) || decide (100 < x.c.n)) || !(x.p.l.all fun s => decide (s.s.l.length ≤ 200))) := by
  unfold largeA AtV.at
  dsimp only
  rw [List.length_map, ← hx.p.sl.len, ← hx.c.sl.len, List.all_map]
  rfl
set_option maxRecDepth 100000 in
set_option maxHeartbeats 2000000 in
theorem large_any {w : World} {x : AtV} (hx : AtOk w x) : Calls Tryz.prog 41 #[x.v] w fun e w' => e = .returned (.bool (largeA x.at)) ∧ Below w.heap.size w w' := by
  have hb0 := (Below.refl w.heap.size w).alloc (Nat.le_refl _) (.cells #[.int .i64 x.o, .slice x.p.a x.p.n x.p.c, .int .u32 x.nx, .int .i64 x.md, .int .i64 x.pf, .slice x.c.a x.c.n x.c.c] 40)
  have hX : BxA w.heap.size x (w.alloc (.cells #[.int .i64 x.o, .slice x.p.a x.p.n x.p.c, .int .u32 x.nx, .int .i64 x.md, .int .i64 x.pf, .slice x.c.a x.c.n x.c.c] 40)) := hnew _ _
  have HL := Lib.hid hx.p.sl.len
  have hmax := hx.p.sl.max
  obtain ⟨v, hv⟩ : ∃ v, largeA x.at = v := ⟨_, rfl⟩
  rw [hv]
  have HV := Lib.hid (hv.symm.trans (largeA_at hx))
  have F0 := Lib.hid (And.intro hb0 (And.intro hX (hx.keep hb0)))
  obtain ⟨c0, c1, c2, c3, c4, c5⟩ := hX.cells
  clear hv hb0 hX hx
  unfold AtV.v
  obtain ⟨w1, hw1⟩ : ∃ w1, w.alloc (.cells #[.int .i64 x.o, .slice x.p.a x.p.n x.p.c, .int .u32 x.nx, .int .i64 x.md, .int .i64 x.pf, .slice x.c.a x.c.n x.c.c] 40) = w1 := ⟨_, rfl⟩
  rw [hw1] at F0 c0 c1 c2 c3 c4 c5
  by_cases h1 : 20 < x.p.n
  · have e1 : ((20 : Int) < (x.p.n : Int)) = True := by simp; omega
    rw [decide_eq_true h1] at HV
    clear h1
    go_enter Tryz.func41, Tryz.ntmps41
    go_wp2_with fail
    go_ret
    exact ⟨ret_bool (by rw [HV.out]; rfl), F0.out.1⟩
  · have e1 : ((20 : Int) < (x.p.n : Int)) = False := by simp; omega
    rw [decide_eq_false h1] at HV
    by_cases h2 : 100 < x.c.n
    · have e2 : ((100 : Int) < (x.c.n : Int)) = True := by simp; omega
      rw [decide_eq_true h2] at HV
      clear h1 h2
      go_enter Tryz.func41, Tryz.ntmps41
      go_wp2_with fail
      go_ret
      exact ⟨ret_bool (by rw [HV.out]; rfl), F0.out.1⟩
    · have e2 : ((100 : Int) < (x.c.n : Int)) = False := by simp; omega
      rw [decide_eq_false h2] at HV
      clear h1 h2
      go_enter Tryz.func41, Tryz.ntmps41
      go_wp2_with fail
      clear e1 e2 c0 c1 c2 c3 c4 c5
      go_loopw [3] (fun iv wr => ∃ i : Nat, i ≤ x.p.n ∧ iv = .int .i64 i ∧ (x.p.l.take i).all (fun s => decide (s.s.l.length ≤ 200)) = true ∧ Below w1.heap.size w1 wr) (fun iv _ => x.p.n - (intOf iv).toNat)
      case atStart => exact ⟨0, Nat.zero_le _, rfl, rfl, Below.refl _ _⟩
      case round =>
        obtain ⟨i, hi, rfl, hall, hb⟩ := hrel
        obtain ⟨w2, rfl⟩ : ∃ w2 : World, w2 = wr := ⟨_, rfl⟩
        have hx2 := F0.out.2.2.keep hb
        obtain ⟨-, c1, -, -, -, -⟩ := (F0.out.2.1.keep hb).cells
        by_cases hlt : i < x.p.n
        · have hil : ((i : Int) < (x.p.n : Int)) = True := by simp; omega
          have hi0 : ((0 : Int) ≤ (i : Int)) = True := by simp
          have hw3 := wrapS hlt hmax
          obtain ⟨b0, o0, ea, hbb, hat⟩ := hx2.p.sl.at hlt
          have hs0 := hx2.p.all _ (getD_mem (i := i) (by rw [← HL.out]; exact hlt))
          have hmem := getD_mem (M := x.p.l) (i := i) (by rw [← HL.out]; exact hlt)
          have t1 := all_take_s x.p.l (fun s => decide (s.s.l.length ≤ 200)) i (by rw [← HL.out]; exact hlt)
          rw [hall, Bool.true_and] at t1
          obtain ⟨s, hs⟩ : ∃ s, x.p.l.getD i default = s := ⟨_, rfl⟩
          rw [hs] at hat hs0 hmem t1
          have s1 := hat 1 (by decide)
          simp only [RSg, List.getElem?_cons_zero, List.getElem?_cons_succ] at s1
          rw [ea] at c1
          have HT := Lib.hid (And.intro t1 (And.intro hb (And.intro hmem hs0.sl.len)))
          clear hb hat hall hs hs0 hmem hbb hx2 ea t1
          by_cases g : 200 < s.s.n
          · have e3 : ((200 : Int) < (s.s.n : Int)) = True := by simp; omega
            have HG := Lib.hid g
            clear g
            go_wp2_with fail
            go_ret
            have hno : x.p.l.all (fun s => decide (s.s.l.length ≤ 200)) = false := by
              rw [List.all_eq_false]
              exact ⟨s, HT.out.2.2.1, by have h1 := HG.out; have h2 := HT.out.2.2.2; simp; omega⟩
            exact ⟨ret_bool (by rw [HV.out, hno]; rfl), bcall F0.out.1 (by simp) HT.out.2.1⟩
          · have e3 : ((200 : Int) < (s.s.n : Int)) = False := by simp; omega
            have HG := Lib.hid (show (x.p.l.take (i + 1)).all (fun s => decide (s.s.l.length ≤ 200)) = true from by
              rw [HT.out.1]
              have h2 := HT.out.2.2.2
              exact decide_eq_true (by omega))
            clear g
            go_wp2_with fail
            exact ⟨⟨i + 1, hlt, by first | rw [hw3] | rw [Int.natCast_succ], HG.out, HT.out.2.1⟩, by first | (rw [hw3]; exact mSucc hlt) | (rw [← Int.natCast_succ]; exact mSucc hlt)⟩
        · obtain rfl : i = x.p.n := by omega
          have hil : ((x.p.n : Int) < (x.p.n : Int)) = False := by simp
          have HA := Lib.hid (And.intro (show x.p.l.all (fun s => decide (s.s.l.length ≤ 200)) = true from by
            have := hall
            rwa [HL.out, List.take_length] at this) hb)
          clear hall hb hx2
          go_wp2_with fail
          go_ret
          exact ⟨ret_bool (by rw [HV.out, HA.out.1]; rfl), bcall F0.out.1 (by simp) HA.out.2⟩
end Go.Proofs.YtadoflcomienoaaGreat
/- The bytes of prefixes, and of attributes, as an update has them. -/
namespace Go.Proofs.YtadoflcomienoaaGreat
open Go.RowKit

def BxU (q : Nat) (x : UpV) (W : World) : Prop := W.heap[q]? = some (.cells #[.slice x.g.a x.g.n x.g.c, .slice x.r.a x.r.n x.r.c, .int .i64 x.a.o, .slice x.a.p.a x.a.p.n x.a.p.c, .int .u32 x.a.nx, .int .i64 x.a.md, .int .i64 x.a.pf, .slice x.a.c.a x.a.c.n x.a.c.c, .bool x.soft] 42)
theorem BxU.keep {q : Nat} {x : UpV} {W W' : World} (h : BxU q x W) (hb : Below W.heap.size W W') : BxU q x W' := (hb.block _ (lt_of_blk h)).trans h
theorem BxU.cells {q : Nat} {x : UpV} {W : World} (h : BxU q x W) : W.cell? ⟨q, 0, none⟩ = some (.slice x.g.a x.g.n x.g.c) ∧ W.cell? ⟨q, 1, none⟩ = some (.slice x.r.a x.r.n x.r.c) ∧ W.cell? ⟨q, 2, none⟩ = some (.int .i64 x.a.o) ∧ W.cell? ⟨q, 3, none⟩ = some (.slice x.a.p.a x.a.p.n x.a.p.c) ∧ W.cell? ⟨q, 4, none⟩ = some (.int .u32 x.a.nx) ∧ W.cell? ⟨q, 5, none⟩ = some (.int .i64 x.a.md) ∧ W.cell? ⟨q, 6, none⟩ = some (.int .i64 x.a.pf) ∧ W.cell? ⟨q, 7, none⟩ = some (.slice x.a.c.a x.a.c.n x.a.c.c) ∧ W.cell? ⟨q, 8, none⟩ = some (.bool x.soft) := ⟨cell_of h rfl, cell_of h rfl, cell_of h rfl, cell_of h rfl, cell_of h rfl, cell_of h rfl, cell_of h rfl, cell_of h rfl, cell_of h rfl⟩
theorem errI_zero (b : Bool) {n : Int} (h : n ≠ 0) : (errI b n == 0) = b := by
  cases b
  · simpa [errI] using h
  · rfl
def atZV : AtV := ⟨0, ⟨none, 0, 0, []⟩, 0, 0, 0, ⟨none, 0, 0, []⟩⟩
theorem slZ {α : Type} [Inhabited α] {R : Rep α} {ok : World → α → Prop} {w : World} : SlOk R ok w ⟨none, 0, 0, []⟩ := ⟨⟨rfl, by show 0 ≤ maxLen; omega, fun h => absurd h (Nat.lt_irrefl 0)⟩, fun _ => rfl, Nat.le_refl _, by show 0 ≤ maxLen; omega, fun x hx => by cases hx⟩
theorem atZ_ok (w : World) : AtOk w atZV := ⟨slZ, slZ, by unfold I64; decide, by decide, by unfold I64; decide, by unfold I64; decide⟩
end Go.Proofs.YtadoflcomienoaaGreat
/- Which updates may be put; how many prefixes fit. -/
namespace Go.Proofs.YtadoflcomienoaaGreat
open Go.RowKit

def szN (n : Nl) : Nat := (nb false n).length
end Go.Proofs.YtadoflcomienoaaGreat
/- A slice cut to its first k, with room for no more. -/
namespace Go.Proofs.YtadoflcomienoaaGreat
namespace Rep
open Go.RowKit
variable {P : Program} {α : Type} [Inhabited α] {R : Rep α}
theorem cut_kk {t : TypeId} {bytes : Nat} (hT : Ty P t R bytes) {w : World} {a : Option Addr} {n c : Nat} {L : List α} (hs : R.Sl w a n c L) (hnc : n ≤ c) {i : Nat} (hi : i ≤ n) :
    ∃ sa, (∀ W, (Instr.sliceAt t (.slice a n c) none (some (.int .i64 (i : Int))) (some (.int .i64 (i : Int)))).run P W = .ok (.slice sa i i) W) ∧ (∀ W, (Instr.slice t (.slice a n c) none (some (.int .i64 (i : Int))) (some (.int .i64 (i : Int)))).run P W = .ok (.slice sa i i) W) ∧
      R.Sl w sa i i (L.take i) := by
  have h2 : ∀ W, (Instr.slice t (.slice a n c) none (some (.int .i64 (i : Int))) (some (.int .i64 (i : Int)))).run P W = .ok (.slice (cutAddr a 0 i R.k) i i) W := fun W => by
    rw [run_slice_hm W t a n c hT.elem' .i64 .i64 (i : Int) (i : Int) (by omega) (by omega) (by omega), hT.size W]
    simp only [Result.andThen, sliced, Int.toNat_natCast, cutAddr, Nat.sub_zero]
  refine ⟨cutAddr a 0 i R.k, fun W => ?_, h2, ⟨by rw [List.length_take, ← hs.len]; omega, by have := hs.max; omega, fun h0 => ?_⟩⟩
  · rw [run_sliceAt_slice W t _ _ _ _ hT.elem']; exact h2 W
  · obtain ⟨b, o, e, hr⟩ := hs.row (by omega)
    obtain ⟨o', e', ho'⟩ := cutAddr_some (b := b) (o := o) (l := 0) (m := i) (k := R.k)
    rw [e, e']
    refine ⟨b, o', rfl, ?_⟩
    rw [ho' (by omega), Nat.zero_mul, Nat.add_zero]
    exact hr.take i
end Rep
end Go.Proofs.YtadoflcomienoaaGreat
/- Quiet steps of a drawn region: a guard that holds; a struct loaded whole; a call. -/
namespace Go.Proofs.YtadoflcomienoaaGreat
open Go Go.RowKit

section
variable {P : Program} {ops : Array Oper} {C : World → Prop} {Q : Act → Prop} {K : Act → Prop} {a : Act} {o : Oper} {rest : List Oper}
theorem exec_load_mid {w : World} (ty : TypeId) (x : Operand) (ho : o.op = .load ty x) (b off : Nat) (cells : Array Value) (hx : a.eval x = .pointer (some ⟨b, off, none⟩))
    (hb : w.rangeAt b off cells.toList) {d : TypeDesc} (hu : P.underlying ty = some d) (hd : d.isRow = true) (hi : (P.info? ty).map (·.size) = some cells.size) : (execOp a.eval o).run P w = .ok (.value (.agg cells)) w := by
  have hr := run_loadVar_mid (P := P) w b off ty cells.toList d hb hu hd (by simpa using hi)
  have hl : (Instr.loadAt ty (.pointer (some ⟨b, off, none⟩))).run P w = .ok (.agg cells) w := by
    simp only [Instr.loadAt, Instr.sureAddr, Sem.run_bind, Sem.run_pure, Result.andThen_ok]
    simpa using hr
  unfold execOp
  simp only [ho, hx, Sem.run_bind, hl, Sem.run_pure, Result.andThen_ok]
theorem rangeAt_block {w : World} {b : Nat} {cells : Array Value} {T : TypeId} {fr : Nat × Nat} (h : w.heap[b]? = some (.cells cells T fr)) (off : Nat) (l : List Value) (hl : (cells.toList.drop off).take l.length = l) : w.rangeAt b off l := by
  intro j v hv
  refine cell_of h ?_
  have hj : j < l.length := (List.getElem?_eq_some_iff.1 hv).1
  rw [← hl] at hv
  rw [List.getElem?_take, if_pos hj, List.getElem?_drop] at hv
  simpa using hv
end
end Go.Proofs.YtadoflcomienoaaGreat
/- A struct loaded whole, as one of those that read ahead of a write. -/
namespace Go.Proofs.YtadoflcomienoaaGreat
open Go Go.RowKit
section
variable {P : Program} {ops : Array Oper} {S : World → Prop} {L : Act → Prop} {K : Act → Prop} {a : Act} {o : Oper} {rest : List Oper}
theorem wpRead_yes (h : ∀ K : Act → Prop, (∀ a, wpRead P ops S L rest a → K a) → ∃ v, (∀ w, S w → (execOp a.eval o).run P w = .ok (.value v) w) ∧ K (a.put o.dst v)) (hw : Region.wanted o (yielded ops a.tmps) = true) : wpRead P ops S L (o :: rest) a := by
  unfold wpRead
  rw [if_pos hw]
  exact h _ fun _ h => h
theorem read_load (ty : TypeId) (x : Operand) (ho : o.op = .load ty x) (b off : Nat) (cells : Array Value) (hx : a.eval x = .pointer (some ⟨b, off, none⟩))
    (hb : ∀ w, S w → w.rangeAt b off cells.toList) {d : TypeDesc} (hu : P.underlying ty = some d) (hd : d.isRow = true) (hi : (P.info? ty).map (·.size) = some cells.size) (hK : K (a.put o.dst (.agg cells))) : ∃ v, (∀ w, S w → (execOp a.eval o).run P w = .ok (.value v) w) ∧ K (a.put o.dst v) :=
  ⟨_, fun _ hw => exec_load_mid ty x ho b off cells hx (hb _ hw) hu hd hi, hK⟩
end
end Go.Proofs.YtadoflcomienoaaGreat
