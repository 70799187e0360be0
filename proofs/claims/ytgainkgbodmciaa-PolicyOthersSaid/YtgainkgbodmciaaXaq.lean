/- The filter's other questions. -/
import Derived.Test.YtgainkgbodmciaaXap
namespace Go.Proofs.Ytgainkgbodmciaa
open Go.RowKit

def FltC (fb : Nat) (lg : Int) (xv : Value) (y : Rt) (k : Int) (w : World) : Prop := w.cell? ⟨fb, 22, none⟩ = some (.int .i64 y.r) ∧ w.cell? ⟨fb, 23, none⟩ = some (.int .u32 y.a) ∧ w.cell? ⟨fb, 24, none⟩ = some (.int .i64 y.l) ∧ w.cell? ⟨fb, 25, none⟩ = some (.int .i64 y.i) ∧ w.cell? ⟨fb, 26, none⟩ = some (.int .i64 y.o) ∧ w.cell? ⟨fb, 27, none⟩ = some (.slice y.pa y.pn y.pc) ∧ w.cell? ⟨fb, 28, none⟩ = some (.int .u32 y.nx) ∧ w.cell? ⟨fb, 29, none⟩ = some (.int .i64 y.md) ∧ w.cell? ⟨fb, 30, none⟩ = some (.int .i64 y.pf) ∧ w.cell? ⟨fb, 31, none⟩ = some (.slice y.ca y.cn y.cc) ∧ w.cell? ⟨fb, 32, none⟩ = some (.int .i64 k) ∧ w.cell? ⟨fb, 16, none⟩ = some (.int .i64 lg) ∧ w.cell? ⟨fb, 21, none⟩ = some xv
theorem FltA.cells {Fc : Array Value} {lg : Int} {da : Option Addr} {dn dc : Nat} {xv : Value} {y : Rt} {k : Int} (HF : FltA Fc lg da dn dc xv y k) {fb : Nat} {w : World} (hf : w.heap[fb]? = some (.cells Fc 80)) : FltC fb lg xv y k w :=
  ⟨cell_of hf (HF.o 0 (by decide)), cell_of hf (HF.o 1 (by decide)), cell_of hf (HF.o 2 (by decide)), cell_of hf (HF.o 3 (by decide)), cell_of hf (HF.o 4 (by decide)), cell_of hf (HF.o 5 (by decide)), cell_of hf (HF.o 6 (by decide)), cell_of hf (HF.o 7 (by decide)), cell_of hf (HF.o 8 (by decide)), cell_of hf (HF.o 9 (by decide)), cell_of hf (HF.o 10 (by decide)), cell_of hf HF.c16, cell_of hf HF.c22⟩
def sameP (x y : Rt) : Bool := decide (x.a = y.a) && decide (x.l = y.l)
def sameK (x y : Rt) : Bool := decide (x.r = y.r) && sameP x y && decide (x.i = y.i)
def otherB (x y : Rt) : Bool := sameP x y && !sameK x y
def nearB (lg : Int) (x y : Rt) : Bool := decide (plen x.path - plen y.path ≤ lg)
def openB (G : Int → Option Cy) (m k : Int) : Bool := match G m with | none => false | some v => !v.dr && decide (m ≠ k)
set_option maxRecDepth 100000 in
set_option maxHeartbeats 2000000 in
theorem other_any {w : World} {Fc : Array Value} {lg : Int} {da : Option Addr} {dn dc : Nat} {xv : Value} {y : Rt} {k : Int} (HF : FltA Fc lg da dn dc xv y k) (x : Rt) (m : Int) : Calls Try.prog 53 #[.agg Fc, x.cand m] w fun e w' => e = .returned (.bool (otherB x y)) ∧ Below w.heap.size w w' := by
  have hal := ((Below.refl w.heap.size w).alloc (Nat.le_refl _) (.cells Fc 80)).alloc (by simp) (.cells #[.int .i64 x.r, .int .u32 x.a, .int .i64 x.l, .int .i64 x.i, .int .i64 x.o, .slice x.pa x.pn x.pc, .int .u32 x.nx, .int .i64 x.md, .int .i64 x.pf, .slice x.ca x.cn x.cc, .int .i64 m] 46)
  have h0 : ((w.alloc (.cells Fc 80)).alloc (.cells #[.int .i64 x.r, .int .u32 x.a, .int .i64 x.l, .int .i64 x.i, .int .i64 x.o, .slice x.pa x.pn x.pc, .int .u32 x.nx, .int .i64 x.md, .int .i64 x.pf, .slice x.ca x.cn x.cc, .int .i64 m] 46)).heap[w.heap.size]? = some (.cells Fc 80) := hold (hnew _ _)
  have hf := HF.cells h0
  obtain ⟨g0, g1, g2, g3, g4, g5, g6, g7, g8, g9, g10, g11, g12⟩ := hf
  have HA := Lib.hid hal
  clear hal h0 HF
  unfold Rt.cand
  obtain ⟨b, hb⟩ : ∃ b, otherB x y = b := ⟨_, rfl⟩
  rw [hb]
  unfold otherB sameK sameP at hb
  by_cases na : x.a = y.a
  · have nat : (x.a = y.a) = True := by simp [na]
    have nab : (x.a == y.a) = true := by simp [na]
    have nad : decide (x.a = y.a) = true := by simp [na]
    clear na
    by_cases nl : x.l = y.l
    · have nlt : (x.l = y.l) = True := by simp [nl]
      have nlb : (x.l == y.l) = true := by simp [nl]
      have nld : decide (x.l = y.l) = true := by simp [nl]
      clear nl
      by_cases nr : x.r = y.r
      · have nrt : (x.r = y.r) = True := by simp [nr]
        have nrb : (x.r == y.r) = true := by simp [nr]
        have nrd : decide (x.r = y.r) = true := by simp [nr]
        clear nr
        by_cases ni : x.i = y.i
        · have nit : (x.i = y.i) = True := by simp [ni]
          have nib : (x.i == y.i) = true := by simp [ni]
          have nid : decide (x.i = y.i) = true := by simp [ni]
          clear ni
          have hb' := hb.symm
          simp only [nad, nld, nrd, nid, Bool.and_true, Bool.and_false, Bool.not_true] at hb'
          clear hb nad nld nrd nid
          subst hb'
          go_enter Try.func53, Try.ntmps53
          go_wp2_with fail
          go_ret
          exact ⟨rfl, HA.out⟩
        · have nit : (x.i = y.i) = False := by simp [ni]
          have nib : (x.i == y.i) = false := by simp [ni]
          have nid : decide (x.i = y.i) = false := by simp [ni]
          clear ni
          have hb' := hb.symm
          simp only [nad, nld, nrd, nid, Bool.and_true, Bool.and_false, Bool.not_false] at hb'
          clear hb nad nld nrd nid
          subst hb'
          go_enter Try.func53, Try.ntmps53
          go_wp2_with fail
          go_ret
          exact ⟨rfl, HA.out⟩
      · have nrt : (x.r = y.r) = False := by simp [nr]
        have nrb : (x.r == y.r) = false := by simp [nr]
        have nrd : decide (x.r = y.r) = false := by simp [nr]
        clear nr
        by_cases ni : x.i = y.i
        · have nit : (x.i = y.i) = True := by simp [ni]
          have nib : (x.i == y.i) = true := by simp [ni]
          have nid : decide (x.i = y.i) = true := by simp [ni]
          clear ni
          have hb' := hb.symm
          simp only [nad, nld, nrd, nid, Bool.and_true, Bool.not_false] at hb'
          clear hb nad nld nrd nid
          subst hb'
          go_enter Try.func53, Try.ntmps53
          go_wp2_with fail
          go_ret
          exact ⟨rfl, HA.out⟩
        · have nit : (x.i = y.i) = False := by simp [ni]
          have nib : (x.i == y.i) = false := by simp [ni]
          have nid : decide (x.i = y.i) = false := by simp [ni]
          clear ni
          have hb' := hb.symm
          simp only [nad, nld, nrd, nid, Bool.and_true, Bool.and_false, Bool.not_false] at hb'
          clear hb nad nld nrd nid
          subst hb'
          go_enter Try.func53, Try.ntmps53
          go_wp2_with fail
          go_ret
          exact ⟨rfl, HA.out⟩
    · have nlt : (x.l = y.l) = False := by simp [nl]
      have nlb : (x.l == y.l) = false := by simp [nl]
      have nld : decide (x.l = y.l) = false := by simp [nl]
      clear nl
      by_cases nr : x.r = y.r
      · have nrt : (x.r = y.r) = True := by simp [nr]
        have nrb : (x.r == y.r) = true := by simp [nr]
        have nrd : decide (x.r = y.r) = true := by simp [nr]
        clear nr
        by_cases ni : x.i = y.i
        · have nit : (x.i = y.i) = True := by simp [ni]
          have nib : (x.i == y.i) = true := by simp [ni]
          have nid : decide (x.i = y.i) = true := by simp [ni]
          clear ni
          have hb' := hb.symm
          simp only [nad, nld, nrd, nid, Bool.and_true, Bool.and_false, Bool.not_false] at hb'
          clear hb nad nld nrd nid
          subst hb'
          go_enter Try.func53, Try.ntmps53
          go_wp2_with fail
          go_ret
          exact ⟨rfl, HA.out⟩
        · have nit : (x.i = y.i) = False := by simp [ni]
          have nib : (x.i == y.i) = false := by simp [ni]
          have nid : decide (x.i = y.i) = false := by simp [ni]
          clear ni
          have hb' := hb.symm
          simp only [nad, nld, nrd, nid, Bool.and_true, Bool.and_false, Bool.not_false] at hb'
          clear hb nad nld nrd nid
          subst hb'
          go_enter Try.func53, Try.ntmps53
          go_wp2_with fail
          go_ret
          exact ⟨rfl, HA.out⟩
      · have nrt : (x.r = y.r) = False := by simp [nr]
        have nrb : (x.r == y.r) = false := by simp [nr]
        have nrd : decide (x.r = y.r) = false := by simp [nr]
        clear nr
        by_cases ni : x.i = y.i
        · have nit : (x.i = y.i) = True := by simp [ni]
          have nib : (x.i == y.i) = true := by simp [ni]
          have nid : decide (x.i = y.i) = true := by simp [ni]
          clear ni
          have hb' := hb.symm
          simp only [nad, nld, nrd, nid, Bool.and_true, Bool.and_false, Bool.not_false] at hb'
          clear hb nad nld nrd nid
          subst hb'
          go_enter Try.func53, Try.ntmps53
          go_wp2_with fail
          go_ret
          exact ⟨rfl, HA.out⟩
        · have nit : (x.i = y.i) = False := by simp [ni]
          have nib : (x.i == y.i) = false := by simp [ni]
          have nid : decide (x.i = y.i) = false := by simp [ni]
          clear ni
          have hb' := hb.symm
          simp only [nad, nld, nrd, nid, Bool.and_true, Bool.and_false, Bool.not_false] at hb'
          clear hb nad nld nrd nid
          subst hb'
          go_enter Try.func53, Try.ntmps53
          go_wp2_with fail
          go_ret
          exact ⟨rfl, HA.out⟩
  · have nat : (x.a = y.a) = False := by simp [na]
    have nab : (x.a == y.a) = false := by simp [na]
    have nad : decide (x.a = y.a) = false := by simp [na]
    clear na
    by_cases nl : x.l = y.l
    · have nlt : (x.l = y.l) = True := by simp [nl]
      have nlb : (x.l == y.l) = true := by simp [nl]
      have nld : decide (x.l = y.l) = true := by simp [nl]
      clear nl
      by_cases nr : x.r = y.r
      · have nrt : (x.r = y.r) = True := by simp [nr]
        have nrb : (x.r == y.r) = true := by simp [nr]
        have nrd : decide (x.r = y.r) = true := by simp [nr]
        clear nr
        by_cases ni : x.i = y.i
        · have nit : (x.i = y.i) = True := by simp [ni]
          have nib : (x.i == y.i) = true := by simp [ni]
          have nid : decide (x.i = y.i) = true := by simp [ni]
          clear ni
          have hb' := hb.symm
          simp only [nad, nld, nrd, nid, Bool.and_true, Bool.and_false, Bool.not_false] at hb'
          clear hb nad nld nrd nid
          subst hb'
          go_enter Try.func53, Try.ntmps53
          go_wp2_with fail
          go_ret
          exact ⟨rfl, HA.out⟩
        · have nit : (x.i = y.i) = False := by simp [ni]
          have nib : (x.i == y.i) = false := by simp [ni]
          have nid : decide (x.i = y.i) = false := by simp [ni]
          clear ni
          have hb' := hb.symm
          simp only [nad, nld, nrd, nid, Bool.and_true, Bool.and_false, Bool.not_false] at hb'
          clear hb nad nld nrd nid
          subst hb'
          go_enter Try.func53, Try.ntmps53
          go_wp2_with fail
          go_ret
          exact ⟨rfl, HA.out⟩
      · have nrt : (x.r = y.r) = False := by simp [nr]
        have nrb : (x.r == y.r) = false := by simp [nr]
        have nrd : decide (x.r = y.r) = false := by simp [nr]
        clear nr
        by_cases ni : x.i = y.i
        · have nit : (x.i = y.i) = True := by simp [ni]
          have nib : (x.i == y.i) = true := by simp [ni]
          have nid : decide (x.i = y.i) = true := by simp [ni]
          clear ni
          have hb' := hb.symm
          simp only [nad, nld, nrd, nid, Bool.and_true, Bool.and_false, Bool.not_false] at hb'
          clear hb nad nld nrd nid
          subst hb'
          go_enter Try.func53, Try.ntmps53
          go_wp2_with fail
          go_ret
          exact ⟨rfl, HA.out⟩
        · have nit : (x.i = y.i) = False := by simp [ni]
          have nib : (x.i == y.i) = false := by simp [ni]
          have nid : decide (x.i = y.i) = false := by simp [ni]
          clear ni
          have hb' := hb.symm
          simp only [nad, nld, nrd, nid, Bool.and_true, Bool.and_false, Bool.not_false] at hb'
          clear hb nad nld nrd nid
          subst hb'
          go_enter Try.func53, Try.ntmps53
          go_wp2_with fail
          go_ret
          exact ⟨rfl, HA.out⟩
    · have nlt : (x.l = y.l) = False := by simp [nl]
      have nlb : (x.l == y.l) = false := by simp [nl]
      have nld : decide (x.l = y.l) = false := by simp [nl]
      clear nl
      by_cases nr : x.r = y.r
      · have nrt : (x.r = y.r) = True := by simp [nr]
        have nrb : (x.r == y.r) = true := by simp [nr]
        have nrd : decide (x.r = y.r) = true := by simp [nr]
        clear nr
        by_cases ni : x.i = y.i
        · have nit : (x.i = y.i) = True := by simp [ni]
          have nib : (x.i == y.i) = true := by simp [ni]
          have nid : decide (x.i = y.i) = true := by simp [ni]
          clear ni
          have hb' := hb.symm
          simp only [nad, nld, nrd, nid, Bool.and_true, Bool.and_false, Bool.not_false] at hb'
          clear hb nad nld nrd nid
          subst hb'
          go_enter Try.func53, Try.ntmps53
          go_wp2_with fail
          go_ret
          exact ⟨rfl, HA.out⟩
        · have nit : (x.i = y.i) = False := by simp [ni]
          have nib : (x.i == y.i) = false := by simp [ni]
          have nid : decide (x.i = y.i) = false := by simp [ni]
          clear ni
          have hb' := hb.symm
          simp only [nad, nld, nrd, nid, Bool.and_true, Bool.and_false, Bool.not_false] at hb'
          clear hb nad nld nrd nid
          subst hb'
          go_enter Try.func53, Try.ntmps53
          go_wp2_with fail
          go_ret
          exact ⟨rfl, HA.out⟩
      · have nrt : (x.r = y.r) = False := by simp [nr]
        have nrb : (x.r == y.r) = false := by simp [nr]
        have nrd : decide (x.r = y.r) = false := by simp [nr]
        clear nr
        by_cases ni : x.i = y.i
        · have nit : (x.i = y.i) = True := by simp [ni]
          have nib : (x.i == y.i) = true := by simp [ni]
          have nid : decide (x.i = y.i) = true := by simp [ni]
          clear ni
          have hb' := hb.symm
          simp only [nad, nld, nrd, nid, Bool.and_true, Bool.and_false, Bool.not_false] at hb'
          clear hb nad nld nrd nid
          subst hb'
          go_enter Try.func53, Try.ntmps53
          go_wp2_with fail
          go_ret
          exact ⟨rfl, HA.out⟩
        · have nit : (x.i = y.i) = False := by simp [ni]
          have nib : (x.i == y.i) = false := by simp [ni]
          have nid : decide (x.i = y.i) = false := by simp [ni]
          clear ni
          have hb' := hb.symm
          simp only [nad, nld, nrd, nid, Bool.and_true, Bool.and_false, Bool.not_false] at hb'
          clear hb nad nld nrd nid
          subst hb'
          go_enter Try.func53, Try.ntmps53
          go_wp2_with fail
          go_ret
          exact ⟨rfl, HA.out⟩
set_option maxRecDepth 100000 in
set_option maxHeartbeats 2000000 in
theorem near_any {w : World} {Fc : Array Value} {lg : Int} {da : Option Addr} {dn dc : Nat} {xv : Value} {y : Rt} {k : Int} (HF : FltA Fc lg da dn dc xv y k) {B : Nat} (hB : B ≤ w.heap.size) {x : Rt} (hx : RtOk w B x) (hsx : Small x) (hy : RtOk w B y) (hsy : Small y) (m : Int) : Calls Try.prog 54 #[.agg Fc, x.cand m] w fun e w' => e = .returned (.bool (nearB lg x y)) ∧ Below w.heap.size w w' := by
  have hal := ((Below.refl w.heap.size w).alloc (Nat.le_refl _) (.cells Fc 80)).alloc (by simp) (.cells #[.int .i64 x.r, .int .u32 x.a, .int .i64 x.l, .int .i64 x.i, .int .i64 x.o, .slice x.pa x.pn x.pc, .int .u32 x.nx, .int .i64 x.md, .int .i64 x.pf, .slice x.ca x.cn x.cc, .int .i64 m] 46)
  have h0 : ((w.alloc (.cells Fc 80)).alloc (.cells #[.int .i64 x.r, .int .u32 x.a, .int .i64 x.l, .int .i64 x.i, .int .i64 x.o, .slice x.pa x.pn x.pc, .int .u32 x.nx, .int .i64 x.md, .int .i64 x.pf, .slice x.ca x.cn x.cc, .int .i64 m] 46)).heap[w.heap.size]? = some (.cells Fc 80) := hold (hnew _ _)
  have h1 : ((w.alloc (.cells Fc 80)).alloc (.cells #[.int .i64 x.r, .int .u32 x.a, .int .i64 x.l, .int .i64 x.i, .int .i64 x.o, .slice x.pa x.pn x.pc, .int .u32 x.nx, .int .i64 x.md, .int .i64 x.pf, .slice x.ca x.cn x.cc, .int .i64 m] 46)).heap[w.heap.size + 1]? = some (.cells #[.int .i64 x.r, .int .u32 x.a, .int .i64 x.l, .int .i64 x.i, .int .i64 x.o, .slice x.pa x.pn x.pc, .int .u32 x.nx, .int .i64 x.md, .int .i64 x.pf, .slice x.ca x.cn x.cc, .int .i64 m] 46) := hnewAt (by simp)
  have hc : ∀ w', Below ((w.alloc (.cells Fc 80)).alloc (.cells #[.int .i64 x.r, .int .u32 x.a, .int .i64 x.l, .int .i64 x.i, .int .i64 x.o, .slice x.pa x.pn x.pc, .int .u32 x.nx, .int .i64 x.md, .int .i64 x.pf, .slice x.ca x.cn x.cc, .int .i64 m] 46)).heap.size ((w.alloc (.cells Fc 80)).alloc (.cells #[.int .i64 x.r, .int .u32 x.a, .int .i64 x.l, .int .i64 x.i, .int .i64 x.o, .slice x.pa x.pn x.pc, .int .u32 x.nx, .int .i64 x.md, .int .i64 x.pf, .slice x.ca x.cn x.cc, .int .i64 m] 46)) w' → FltC w.heap.size lg xv y k w' ∧ OptC (w.heap.size + 1) x m w' := fun w' hw' => ⟨HF.cells ((hw'.block _ (lt_of_blk h0)).trans h0), optC_of ((hw'.block _ (lt_of_blk h1)).trans h1)⟩
  have HX := Lib.hid hc
  have HA := Lib.hid (And.intro hal (And.intro hB (And.intro hx (And.intro hsx (And.intro hy hsy)))))
  have hp1 := plen_bd x.path hsx.2.2
  have hp2 := plen_bd y.path hsy.2.2
  have hl1 := hsx.1
  have hl2 := hsy.1
  have hs1 : wrap64 (plen x.path - plen y.path) = plen x.path - plen y.path := by unfold wrap64; omega
  have hs2 : IntKind.i64.wrap (plen x.path - plen y.path) = plen x.path - plen y.path := IntWalk.i64_in _ (by omega)
  clear hal h0 h1 HF hc hB hx hsx hy hsy hp1 hp2 hl1 hl2
  unfold Rt.cand nearB
  go_enter Try.func54, Try.ntmps54
  go_wp2_with fail
  generalize (w.alloc (.cells Fc 80)).alloc (.cells #[.int .i64 x.r, .int .u32 x.a, .int .i64 x.l, .int .i64 x.i, .int .i64 x.o, .slice x.pa x.pn x.pc, .int .u32 x.nx, .int .i64 x.md, .int .i64 x.pf, .slice x.ca x.cn x.cc, .int .i64 m] 46) = W1 at *
  refine wp_region_heldP (Below W1.heap.size W1) (by kernel_rfl) ?_
  have HB := Lib.hid (Below.refl W1.heap.size W1).drew
  generalize W1.drew = W2 at *
  refine held_reads [0, 1, 2, 4, 5, 6, 7, 10, 11, 12] (g := 5) rfl (by kernel_rfl) HB.out (fun _ _ d _ _ h => by cases d <;> exact h) ?_
  simp only [pick, List.getD_cons_zero, List.getD_cons_succ]
  iterate 10 ((with_reducible refine wpRead_step (fun K hK => ?_)); go_simp; first | ((with_reducible refine hK _ ?_); clear hK K) | (apply Exists.intro; (with_reducible refine ⟨fun w' hw' => ?_, hK _ ?_⟩); (obtain ⟨⟨g0, g1, g2, g3, g4, g5, g6, g7, g8, g9, g10, g11, g12⟩, f0, f1, f2, f3, f4, f5, f6, f7, f8, f9, f10⟩ := HX.out _ hw'; go_simp; first | exact rfl | exact ⟨rfl, rfl⟩); clear hK K))
  with_reducible refine wpRead_nil ?_
  refine held_one 3 (by kernel_rfl) ?_
  simp only [pick, List.getD_cons_zero, List.getD_cons_succ]
  go_wp2_with fail
  have hw3 : Below w.heap.size w W2 := HA.out.1.trans (HB.out.mono HA.out.1.size)
  have hc3 := length_any x W2 B (Nat.le_trans HA.out.2.1 hw3.size) (HA.out.2.2.1.below (hw3.mono HA.out.2.1)) HA.out.2.2.2.1
  unfold Rt.attrs at hc3
  refine hc3.mono ?_
  rintro e W3 ⟨rfl, hb3⟩
  have HB := Lib.hid (bcall HB.out (Nat.le_refl _) hb3)
  clear hb3 hc3 hw3
  go_wp2_with fail
  refine ⟨HB.out, ?_⟩
  refine held_one 8 (by kernel_rfl) ?_
  simp only [pick, List.getD_cons_zero, List.getD_cons_succ]
  go_wp2_with fail
  have hw8 : Below w.heap.size w W3 := HA.out.1.trans (HB.out.mono HA.out.1.size)
  have hc8 := length_any y W3 B (Nat.le_trans HA.out.2.1 hw8.size) (HA.out.2.2.2.2.1.below (hw8.mono HA.out.2.1)) HA.out.2.2.2.2.2
  unfold Rt.attrs at hc8
  refine hc8.mono ?_
  rintro e W4 ⟨rfl, hb8⟩
  have HB := Lib.hid (bcall HB.out (Nat.le_refl _) hb8)
  clear hb8 hc8 hw8
  go_wp2_with fail
  refine ⟨HB.out, ?_⟩
  refine held_one 9 (by kernel_rfl) ?_
  simp only [pick, List.getD_cons_zero, List.getD_cons_succ]
  go_wp2_with fail
  refine ⟨HB.out, ?_⟩
  refine held_one 13 (by kernel_rfl) ?_
  simp only [pick, List.getD_cons_zero, List.getD_cons_succ]
  go_wp2_with fail
  refine ⟨HB.out, ?_⟩
  refine held_one 14 (by kernel_rfl) ?_
  simp only [pick, List.getD_cons_zero, List.getD_cons_succ]
  go_wp2_with fail
  refine ⟨HB.out, ?_⟩
  refine wpAnyH_done (by kernel_rfl) ?_ _
  go_wp2_with fail
  go_ret
  exact ⟨rfl, HA.out.1.trans (HB.out.mono HA.out.1.size)⟩
set_option maxRecDepth 100000 in
set_option maxHeartbeats 2000000 in
theorem open_any {w : World} {Fc : Array Value} {lg : Int} {da : Option Addr} {dn dc : Nat} {xv : Value} {y : Rt} {k : Int} (HF : FltA Fc lg da dn dc xv y k) {G : Int → Option Cy} (HG : Gets w xv G) (x : Rt) {m : Int} (hm : IN.ok m) : Calls Try.prog 56 #[.agg Fc, x.cand m] w fun e w' => e = .returned (.bool (openB G m k)) ∧ Below w.heap.size w w' := by
  have hal := ((Below.refl w.heap.size w).alloc (Nat.le_refl _) (.cells Fc 80)).alloc (by simp) (.cells #[.int .i64 x.r, .int .u32 x.a, .int .i64 x.l, .int .i64 x.i, .int .i64 x.o, .slice x.pa x.pn x.pc, .int .u32 x.nx, .int .i64 x.md, .int .i64 x.pf, .slice x.ca x.cn x.cc, .int .i64 m] 46)
  have h0 : ((w.alloc (.cells Fc 80)).alloc (.cells #[.int .i64 x.r, .int .u32 x.a, .int .i64 x.l, .int .i64 x.i, .int .i64 x.o, .slice x.pa x.pn x.pc, .int .u32 x.nx, .int .i64 x.md, .int .i64 x.pf, .slice x.ca x.cn x.cc, .int .i64 m] 46)).heap[w.heap.size]? = some (.cells Fc 80) := hold (hnew _ _)
  have h1 : ((w.alloc (.cells Fc 80)).alloc (.cells #[.int .i64 x.r, .int .u32 x.a, .int .i64 x.l, .int .i64 x.i, .int .i64 x.o, .slice x.pa x.pn x.pc, .int .u32 x.nx, .int .i64 x.md, .int .i64 x.pf, .slice x.ca x.cn x.cc, .int .i64 m] 46)).heap[w.heap.size + 1]? = some (.cells #[.int .i64 x.r, .int .u32 x.a, .int .i64 x.l, .int .i64 x.i, .int .i64 x.o, .slice x.pa x.pn x.pc, .int .u32 x.nx, .int .i64 x.md, .int .i64 x.pf, .slice x.ca x.cn x.cc, .int .i64 m] 46) := hnewAt (by simp)
  have HCl := Lib.hid (HG _ hal m hm)
  have HA := Lib.hid (And.intro hal (And.intro h0 h1))
  have HFF := Lib.hid HF
  obtain ⟨g0, g1, g2, g3, g4, g5, g6, g7, g8, g9, g10, g11, g12⟩ := HF.cells h0
  clear hal h0 h1 HF HG hm
  unfold Rt.cand
  obtain ⟨ob, hob⟩ : ∃ ob, openB G m k = ob := ⟨_, rfl⟩
  rw [hob]
  have HOb := Lib.hid hob
  clear hob
  go_enter Try.func56, Try.ntmps56
  go_wp2_with fail
  generalize (w.alloc (.cells Fc 80)).alloc (.cells #[.int .i64 x.r, .int .u32 x.a, .int .i64 x.l, .int .i64 x.i, .int .i64 x.o, .slice x.pa x.pn x.pc, .int .u32 x.nx, .int .i64 x.md, .int .i64 x.pf, .slice x.ca x.cn x.cc, .int .i64 m] 46) = W1 at *
  refine (HCl.out).mono ?_
  rintro e W2 ⟨rfl, hb2⟩
  have HB := Lib.hid (And.intro (bcall HA.out.1 (Nat.le_refl _) hb2) (And.intro ((hb2.block _ (lt_of_blk HA.out.2.1)).trans HA.out.2.1) ((hb2.block _ (lt_of_blk HA.out.2.2)).trans HA.out.2.2)))
  clear hb2 HA HCl g0 g1 g2 g3 g4 g5 g6 g7 g8 g9 g10 g11 g12
  obtain ⟨g0, g1, g2, g3, g4, g5, g6, g7, g8, g9, g10, g11, g12⟩ := HFF.out.cells HB.out.2.1
  obtain ⟨f0, f1, f2, f3, f4, f5, f6, f7, f8, f9, f10⟩ := optC_of HB.out.2.2
  cases hG : G m with
  | none =>
    obtain rfl : ob = false := by have := HOb.out; unfold openB at this; rw [hG] at this; exact this.symm
    have k0 := cell_hold f10 (.cells #[.int .i64 0, .int .i64 0, .bool false] 52)
    have k1 := cell_hold g10 (.cells #[.int .i64 0, .int .i64 0, .bool false] 52)
    have hal3 := (Below.refl W2.heap.size W2).alloc (Nat.le_refl _) (.cells #[.int .i64 0, .int .i64 0, .bool false] 52)
    have HB3 := Lib.hid (bcall HB.out.1 (Nat.le_refl _) hal3)
    clear hal3 hG
    unfold Cy.v Cy.z
    go_wp2_with fail
    go_ret
    exact ⟨rfl, HB3.out⟩
  | some v =>
    have k0 := cell_hold f10 (.cells #[.int .i64 v.id, .int .i64 v.cp, .bool v.dr] 52)
    have k1 := cell_hold g10 (.cells #[.int .i64 v.id, .int .i64 v.cp, .bool v.dr] 52)
    have hal3 := (Below.refl W2.heap.size W2).alloc (Nat.le_refl _) (.cells #[.int .i64 v.id, .int .i64 v.cp, .bool v.dr] 52)
    have HB3 := Lib.hid (bcall HB.out.1 (Nat.le_refl _) hal3)
    have HGe := Lib.hid hG
    clear hal3 hG
    dsimp only [Option.getD_some, Option.isSome_some]
    unfold Cy.v
    obtain ⟨vid, vcp, vdr⟩ := v
    dsimp only at *
    have hob2 : ob = (!vdr && decide (m ≠ k)) := by have := HOb.out; unfold openB at this; rw [HGe.out] at this; exact this.symm
    cases vdr with
    | true =>
      obtain rfl : ob = false := hob2
      go_wp2_with fail
      go_ret
      exact ⟨rfl, HB3.out⟩
    | false =>
      by_cases hmk : m = k
      · have e1 : (m == k) = true := by simp [hmk]
        have e2 : (m = k) = True := by simp [hmk]
        have e3 : decide (m ≠ k) = false := by simp [hmk]
        rw [e3] at hob2
        obtain rfl := hob2
        clear hmk e3
        go_wp2_with fail
        go_ret
        exact ⟨ret_bool (by simp only [bne, e1, Bool.not_true, Bool.not_false, Bool.true_and]), HB3.out⟩
      · have e1 : (m == k) = false := by simp [hmk]
        have e2 : (m = k) = False := by simp [hmk]
        have e3 : decide (m ≠ k) = true := by simp [hmk]
        rw [e3] at hob2
        obtain rfl := hob2
        clear hmk e3
        go_wp2_with fail
        go_ret
        exact ⟨ret_bool (by simp only [bne, e1, Bool.not_false, Bool.true_and]), HB3.out⟩
end Go.Proofs.Ytgainkgbodmciaa
/- all, allowed. -/
namespace Go.Proofs.Ytgainkgbodmciaa
open Go.RowKit

def AskC (Fc : Array Value) (f : FuncId) (o : Value) (b : Bool) (w : World) : Prop := ∀ W, Below w.heap.size w W → Calls Try.prog f #[.agg Fc, o] W fun e w' => e = .returned (.bool b) ∧ Below W.heap.size W w'
theorem AskC.keep {Fc : Array Value} {f : FuncId} {o : Value} {b : Bool} {w w' : World} (H : AskC Fc f o b w) (hb : Below w.heap.size w w') : AskC Fc f o b w' := fun W hW => H W (bcall hb (Nat.le_refl _) hW)
set_option maxRecDepth 100000 in
set_option maxHeartbeats 2000000 in
theorem all_any {w : World} {Fc : Array Value} {x : Rt} {m : Int} {b0 b1 b2 b3 : Bool} (h0 : AskC Fc 53 (x.cand m) b0 w) (h1 : AskC Fc 54 (x.cand m) b1 w) (h2 : AskC Fc 55 (x.cand m) b2 w) (h3 : AskC Fc 56 (x.cand m) b3 w) {p c : Nat} {T : TypeId} {fr : Nat × Nat} (hp : w.heap[p]? = some (.cells #[.func (.func 53) #[.agg Fc] #[], .func (.func 54) #[.agg Fc] #[], .func (.func 55) #[.agg Fc] #[], .func (.func 56) #[.agg Fc] #[]] T fr)) : Calls Try.prog 52 #[x.cand m, .slice (some ⟨p, 0, none⟩) 4 c] w fun e w' => e = .returned (.bool (b0 && b1 && b2 && b3)) ∧ Below w.heap.size w w' := by
  have hal := (Below.refl w.heap.size w).alloc (Nat.le_refl _) (.cells #[.int .i64 x.r, .int .u32 x.a, .int .i64 x.l, .int .i64 x.i, .int .i64 x.o, .slice x.pa x.pn x.pc, .int .u32 x.nx, .int .i64 x.md, .int .i64 x.pf, .slice x.ca x.cn x.cc, .int .i64 m] 46)
  have hx : (w.alloc (.cells #[.int .i64 x.r, .int .u32 x.a, .int .i64 x.l, .int .i64 x.i, .int .i64 x.o, .slice x.pa x.pn x.pc, .int .u32 x.nx, .int .i64 x.md, .int .i64 x.pf, .slice x.ca x.cn x.cc, .int .i64 m] 46)).heap[w.heap.size]? = some (.cells #[.int .i64 x.r, .int .u32 x.a, .int .i64 x.l, .int .i64 x.i, .int .i64 x.o, .slice x.pa x.pn x.pc, .int .u32 x.nx, .int .i64 x.md, .int .i64 x.pf, .slice x.ca x.cn x.cc, .int .i64 m] 46) := hnew _ _
  have hp1 : (w.alloc (.cells #[.int .i64 x.r, .int .u32 x.a, .int .i64 x.l, .int .i64 x.i, .int .i64 x.o, .slice x.pa x.pn x.pc, .int .u32 x.nx, .int .i64 x.md, .int .i64 x.pf, .slice x.ca x.cn x.cc, .int .i64 m] 46)).heap[p]? = some (.cells #[.func (.func 53) #[.agg Fc] #[], .func (.func 54) #[.agg Fc] #[], .func (.func 55) #[.agg Fc] #[], .func (.func 56) #[.agg Fc] #[]] T fr) := hold hp
  have H := Lib.hid (And.intro (h0.keep hal) (And.intro (h1.keep hal) (And.intro (h2.keep hal) (h3.keep hal))))
  have HA := Lib.hid (And.intro hal (And.intro hx hp1))
  clear hal hx hp1 h0 h1 h2 h3 hp
  obtain ⟨B, hBB⟩ : ∃ B, (b0 && b1 && b2 && b3) = B := ⟨_, rfl⟩
  rw [hBB]
  have HBB := Lib.hid hBB
  clear hBB
  unfold Rt.cand at *
  go_enter Try.func52, Try.ntmps52
  go_wp2_with fail
  generalize w.alloc (.cells #[.int .i64 x.r, .int .u32 x.a, .int .i64 x.l, .int .i64 x.i, .int .i64 x.o, .slice x.pa x.pn x.pc, .int .u32 x.nx, .int .i64 x.md, .int .i64 x.pf, .slice x.ca x.cn x.cc, .int .i64 m] 46) = W1 at *
  go_loopw [9] (fun iv wr => ∃ i : Nat, i ≤ 4 ∧ iv = .int .i64 i ∧ (0 < i → b0 = true) ∧ (1 < i → b1 = true) ∧ (2 < i → b2 = true) ∧ (3 < i → b3 = true) ∧ Below W1.heap.size W1 wr) (fun iv _ => 4 - (intOf iv).toNat)
  case atStart => exact ⟨0, by omega, rfl, by omega, by omega, by omega, by omega, Below.refl _ _⟩
  case round =>
    obtain ⟨i, hi, rfl, g0, g1, g2, g3, hb⟩ := hrel
    have HB := Lib.hid (And.intro hb (And.intro ((hb.block _ (lt_of_blk HA.out.2.1)).trans HA.out.2.1) ((hb.block _ (lt_of_blk HA.out.2.2)).trans HA.out.2.2)))
    have HG := Lib.hid (And.intro g0 (And.intro g1 (And.intro g2 g3)))
    clear hb g0 g1 g2 g3
    have hcase : i = 0 ∨ i = 1 ∨ i = 2 ∨ i = 3 ∨ i = 4 := by omega
    rcases hcase with rfl | rfl | rfl | rfl | rfl
    · rw [show ((0 : Nat) : Int) = 0 from rfl]
      have c0 : wr.cell? ⟨p, 0, none⟩ = some (.func (.func 53) #[.agg Fc] #[]) := cell_of HB.out.2.2 rfl
      obtain ⟨k0, k1, k2, k3, k4, k5, k6, k7, k8, k9, k10⟩ : OptC w.heap.size x m wr := optC_of HB.out.2.1
      have hc := H.out.1 wr HB.out.1
      go_wp2_with fail
      refine hc.mono ?_
      rintro e W2 ⟨rfl, hb2⟩
      have HB2 := Lib.hid (bcall HB.out.1 (Nat.le_refl _) hb2)
      clear hb2 hc HB c0 k0 k1 k2 k3 k4 k5 k6 k7 k8 k9 k10
      cases hbb : b0 with
      | false =>
        obtain rfl : B = false := by have h := HBB.out; rw [hbb] at h; rw [← h]; simp
        subst hbb
        go_wp2_with fail
        go_ret
        exact ⟨rfl, HA.out.1.trans (HB2.out.mono HA.out.1.size)⟩
      | true =>
        have Hbb := Lib.hid hbb
        clear hbb
        go_wp2_with fail
        exact ⟨⟨1, by omega, rfl, fun _ => Hbb.out, fun h => absurd h (by omega), fun h => absurd h (by omega), fun h => absurd h (by omega), HB2.out⟩, by decide⟩
    · rw [show ((1 : Nat) : Int) = 1 from rfl]
      have c0 : wr.cell? ⟨p, 1, none⟩ = some (.func (.func 54) #[.agg Fc] #[]) := cell_of HB.out.2.2 rfl
      obtain ⟨k0, k1, k2, k3, k4, k5, k6, k7, k8, k9, k10⟩ : OptC w.heap.size x m wr := optC_of HB.out.2.1
      have hc := H.out.2.1 wr HB.out.1
      go_wp2_with fail
      refine hc.mono ?_
      rintro e W2 ⟨rfl, hb2⟩
      have HB2 := Lib.hid (bcall HB.out.1 (Nat.le_refl _) hb2)
      clear hb2 hc HB c0 k0 k1 k2 k3 k4 k5 k6 k7 k8 k9 k10
      cases hbb : b1 with
      | false =>
        obtain rfl : B = false := by have h := HBB.out; rw [hbb] at h; rw [← h]; simp
        subst hbb
        go_wp2_with fail
        go_ret
        exact ⟨rfl, HA.out.1.trans (HB2.out.mono HA.out.1.size)⟩
      | true =>
        have Hbb := Lib.hid hbb
        clear hbb
        go_wp2_with fail
        exact ⟨⟨2, by omega, rfl, fun h => HG.out.1 (by omega), fun _ => Hbb.out, fun h => absurd h (by omega), fun h => absurd h (by omega), HB2.out⟩, by decide⟩
    · rw [show ((2 : Nat) : Int) = 2 from rfl]
      have c0 : wr.cell? ⟨p, 2, none⟩ = some (.func (.func 55) #[.agg Fc] #[]) := cell_of HB.out.2.2 rfl
      obtain ⟨k0, k1, k2, k3, k4, k5, k6, k7, k8, k9, k10⟩ : OptC w.heap.size x m wr := optC_of HB.out.2.1
      have hc := H.out.2.2.1 wr HB.out.1
      go_wp2_with fail
      refine hc.mono ?_
      rintro e W2 ⟨rfl, hb2⟩
      have HB2 := Lib.hid (bcall HB.out.1 (Nat.le_refl _) hb2)
      clear hb2 hc HB c0 k0 k1 k2 k3 k4 k5 k6 k7 k8 k9 k10
      cases hbb : b2 with
      | false =>
        obtain rfl : B = false := by have h := HBB.out; rw [hbb] at h; rw [← h]; simp
        subst hbb
        go_wp2_with fail
        go_ret
        exact ⟨rfl, HA.out.1.trans (HB2.out.mono HA.out.1.size)⟩
      | true =>
        have Hbb := Lib.hid hbb
        clear hbb
        go_wp2_with fail
        exact ⟨⟨3, by omega, rfl, fun h => HG.out.1 (by omega), fun h => HG.out.2.1 (by omega), fun _ => Hbb.out, fun h => absurd h (by omega), HB2.out⟩, by decide⟩
    · rw [show ((3 : Nat) : Int) = 3 from rfl]
      have c0 : wr.cell? ⟨p, 3, none⟩ = some (.func (.func 56) #[.agg Fc] #[]) := cell_of HB.out.2.2 rfl
      obtain ⟨k0, k1, k2, k3, k4, k5, k6, k7, k8, k9, k10⟩ : OptC w.heap.size x m wr := optC_of HB.out.2.1
      have hc := H.out.2.2.2 wr HB.out.1
      go_wp2_with fail
      refine hc.mono ?_
      rintro e W2 ⟨rfl, hb2⟩
      have HB2 := Lib.hid (bcall HB.out.1 (Nat.le_refl _) hb2)
      clear hb2 hc HB c0 k0 k1 k2 k3 k4 k5 k6 k7 k8 k9 k10
      cases hbb : b3 with
      | false =>
        obtain rfl : B = false := by have h := HBB.out; rw [hbb] at h; rw [← h]; simp
        subst hbb
        go_wp2_with fail
        go_ret
        exact ⟨rfl, HA.out.1.trans (HB2.out.mono HA.out.1.size)⟩
      | true =>
        have Hbb := Lib.hid hbb
        clear hbb
        go_wp2_with fail
        exact ⟨⟨4, by omega, rfl, fun h => HG.out.1 (by omega), fun h => HG.out.2.1 (by omega), fun h => HG.out.2.2.1 (by omega), fun _ => Hbb.out, HB2.out⟩, by decide⟩
    · rw [show ((4 : Nat) : Int) = 4 from rfl]
      obtain rfl : B = true := by have h := HG.out; rw [← HBB.out, h.1 (by omega), h.2.1 (by omega), h.2.2.1 (by omega), h.2.2.2 (by omega)]; rfl
      go_wp2_with fail
      go_ret
      exact ⟨rfl, HA.out.1.trans (HB.out.1.mono HA.out.1.size)⟩
def allowB (lg : Int) (ds : List Int) (G : Int → Option Cy) (c d : Cd) : Bool := otherB c.1 d.1 && nearB lg c.1 d.1 && cleanB ds c.1 && openB G c.2 d.2
set_option maxRecDepth 100000 in
set_option maxHeartbeats 2000000 in
theorem allowed_any {w : World} {Fc : Array Value} {lg : Int} {da : Option Addr} {dn dc : Nat} {xv : Value} {y : Rt} {k : Int} (HF : FltA Fc lg da dn dc xv y k) {B : Nat} (hB : B ≤ w.heap.size) {ds : List Int} (hd : IntsAt w B da dn ds) {G : Int → Option Cy} (HG : Gets w xv G) {x : Rt} (hx : RtOk w B x) (hsx : Small x) (hy : RtOk w B y) (hsy : Small y) {m : Int} (hm : IN.ok m) : Calls Try.prog 29 #[.agg Fc, x.cand m] w fun e w' => e = .returned (.bool (allowB lg ds G (x, m) (y, k))) ∧ Below w.heap.size w w' := by
  have hal := ((Below.refl w.heap.size w).alloc (Nat.le_refl _) (.cells Fc 80)).alloc (by simp) (.cells #[.int .i64 x.r, .int .u32 x.a, .int .i64 x.l, .int .i64 x.i, .int .i64 x.o, .slice x.pa x.pn x.pc, .int .u32 x.nx, .int .i64 x.md, .int .i64 x.pf, .slice x.ca x.cn x.cc, .int .i64 m] 46)
  have h0 : ((w.alloc (.cells Fc 80)).alloc (.cells #[.int .i64 x.r, .int .u32 x.a, .int .i64 x.l, .int .i64 x.i, .int .i64 x.o, .slice x.pa x.pn x.pc, .int .u32 x.nx, .int .i64 x.md, .int .i64 x.pf, .slice x.ca x.cn x.cc, .int .i64 m] 46)).heap[w.heap.size]? = some (.cells Fc 80) := hold (hnew _ _)
  have h1 : ((w.alloc (.cells Fc 80)).alloc (.cells #[.int .i64 x.r, .int .u32 x.a, .int .i64 x.l, .int .i64 x.i, .int .i64 x.o, .slice x.pa x.pn x.pc, .int .u32 x.nx, .int .i64 x.md, .int .i64 x.pf, .slice x.ca x.cn x.cc, .int .i64 m] 46)).heap[w.heap.size + 1]? = some (.cells #[.int .i64 x.r, .int .u32 x.a, .int .i64 x.l, .int .i64 x.i, .int .i64 x.o, .slice x.pa x.pn x.pc, .int .u32 x.nx, .int .i64 x.md, .int .i64 x.pf, .slice x.ca x.cn x.cc, .int .i64 m] 46) := hnewAt (by simp)
  have K0 : AskC Fc 53 (x.cand m) (otherB x y) w := fun W hW => other_any HF x m
  have K1 : AskC Fc 54 (x.cand m) (nearB lg x y) w := fun W hW => near_any HF (Nat.le_trans hB hW.size) (hx.below (hW.mono hB)) hsx (hy.below (hW.mono hB)) hsy m
  have K2 : AskC Fc 55 (x.cand m) (cleanB ds x) w := fun W hW => clean_any HF (Nat.le_trans hB hW.size) (hd.below (hW.mono hB)) (hx.below (hW.mono hB)) m
  have K3 : AskC Fc 56 (x.cand m) (openB G m k) w := fun W hW => open_any HF (HG.keep hW) x hm
  have hsz : (Try.prog.info? 80).map (·.size) = some Fc.size := by rw [HF.size]; kernel_rfl
  have HA := Lib.hid (And.intro hal (And.intro h0 (And.intro h1 hsz)))
  have HK := Lib.hid (And.intro (K0.keep hal) (And.intro (K1.keep hal) (And.intro (K2.keep hal) (K3.keep hal))))
  clear hal h0 h1 HF hB hd HG hx hsx hy hsy hm K0 K1 K2 K3 hsz
  unfold allowB
  dsimp only
  generalize otherB x y = b0 at *
  generalize nearB lg x y = b1 at *
  generalize cleanB ds x = b2 at *
  generalize openB G m k = b3 at *
  obtain ⟨BB, hBB⟩ : ∃ BB, (b0 && b1 && b2 && b3) = BB := ⟨_, rfl⟩
  rw [hBB]
  have HBB := Lib.hid hBB
  clear hBB
  unfold Rt.cand
  go_enter Try.func29, Try.ntmps29
  go_wp2_with (with_reducible refine halt_load 80 rfl ?_)
  generalize (w.alloc (.cells Fc 80)).alloc (.cells #[.int .i64 x.r, .int .u32 x.a, .int .i64 x.l, .int .i64 x.i, .int .i64 x.o, .slice x.pa x.pn x.pc, .int .u32 x.nx, .int .i64 x.md, .int .i64 x.pf, .slice x.ca x.cn x.cc, .int .i64 m] 46) = W1 at *
  refine Halted.go ?_
  refine load_whole rfl 80 _ rfl w.heap.size Fc rfl HA.out.2.1 Try.underlying80 rfl HA.out.2.2.2 ?_
  go_wp2_with (with_reducible refine halt_load 80 rfl ?_)
  refine Halted.go ?_
  refine load_whole rfl 80 _ rfl w.heap.size Fc rfl HA.out.2.1 Try.underlying80 rfl HA.out.2.2.2 ?_
  go_wp2_with (with_reducible refine halt_load 80 rfl ?_)
  refine Halted.go ?_
  refine load_whole rfl 80 _ rfl w.heap.size Fc rfl HA.out.2.1 Try.underlying80 rfl HA.out.2.2.2 ?_
  go_wp2_with (with_reducible refine halt_load 80 rfl ?_)
  refine Halted.go ?_
  refine load_whole rfl 80 _ rfl w.heap.size Fc rfl HA.out.2.1 Try.underlying80 rfl HA.out.2.2.2 ?_
  have hal2 := (Below.refl W1.heap.size W1).alloc (Nat.le_refl _) (.cells #[.func (.func 53) #[.agg Fc] #[], .func (.func 54) #[.agg Fc] #[], .func (.func 55) #[.agg Fc] #[], .func (.func 56) #[.agg Fc] #[]] 81)
  have hc := all_any (c := 4) (HK.out.1.keep hal2) (HK.out.2.1.keep hal2) (HK.out.2.2.1.keep hal2) (HK.out.2.2.2.keep hal2) (hnew W1 (.cells #[.func (.func 53) #[.agg Fc] #[], .func (.func 54) #[.agg Fc] #[], .func (.func 55) #[.agg Fc] #[], .func (.func 56) #[.agg Fc] #[]] 81))
  rw [HBB.out] at hc
  unfold Rt.cand at hc
  have HC := Lib.hid hc
  clear hc HK
  go_wp2_with fail
  refine HC.out.mono ?_
  rintro e W2 ⟨rfl, hb2⟩
  have HB := Lib.hid (HA.out.1.trans ((bcall hal2 (Nat.le_refl _) hb2).mono HA.out.1.size))
  clear hb2 hal2 HC
  go_wp2_with fail
  go_ret
  exact ⟨rfl, HB.out⟩
end Go.Proofs.Ytgainkgbodmciaa
/- A filter, built. -/
namespace Go.Proofs.Ytgainkgbodmciaa
open Go.RowKit

def lay (off : Nat) (v cs : Array Value) : Array Value := v.zipIdx.foldl (fun cs (p : Value × Nat) => cs.setIfInBounds (off + p.2) p.1) cs
theorem lay_size (off : Nat) (v cs : Array Value) : (lay off v cs).size = cs.size := (lay_arr v off cs).1
theorem lay_in {off : Nat} {v cs : Array Value} (h : off + v.size ≤ cs.size) {j : Nat} (h1 : off ≤ j) (h2 : j < off + v.size) : (lay off v cs)[j]? = v[j - off]? := by
  rw [lay, (lay_arr v off cs).2 j h, if_pos ⟨h1, h2⟩]
theorem lay_out {off : Nat} {v cs : Array Value} (h : off + v.size ≤ cs.size) {j : Nat} (h1 : ¬ (off ≤ j ∧ j < off + v.size)) : (lay off v cs)[j]? = cs[j]? := by
  rw [lay, (lay_arr v off cs).2 j h, if_neg h1]
theorem fill_cons {place : Nat → Option (Nat × Nat)} {cs : Array Value} {i off size : Nat} {v : Value} {rest : List (Nat × Value)} (hp : place i = some (off, size)) (hv : v.cells.size = size) (hs : off + size ≤ cs.size) : Instr.fill place cs ((i, v) :: rest) = Instr.fill place (lay off v.cells cs) rest := by
  conv => lhs; unfold Instr.fill
  rw [hp]
  dsimp only
  rw [if_neg (by simp [hv]; omega)]
  rfl
theorem all_get {cs : Array Value} (h : ∀ (j : Nat) v, cs[j]? = some v → v.oneCell' = true) : cs.all (·.oneCell') = true := by
  rw [Array.all_eq_true]
  intro j hj
  exact h j _ (Array.getElem?_eq_getElem hj)
theorem get_all {cs : Array Value} (h : cs.all (·.oneCell') = true) {j : Nat} {v : Value} (hv : cs[j]? = some v) : v.oneCell' = true := by
  rw [Array.all_eq_true] at h
  obtain ⟨hj, rfl⟩ := Array.getElem?_eq_some_iff.1 hv
  exact h j hj
def Z33 : Array Value := #[.int .i64 0, .int .u32 0, .int .i64 0, .int .i64 0, .int .i64 0, .int .i64 0, .int .i64 0, .slice none 0 0, .int .i64 0, .int .i64 0, .int .i64 0, .int .i64 0, .int .i64 0, .int .i64 0, .int .i64 0, .int .i64 0, .int .i64 0, .slice none 0 0, .int .i64 0, .int .i64 0, .pointer none, .pointer none, .int .i64 0, .int .u32 0, .int .i64 0, .int .i64 0, .int .i64 0, .slice none 0 0, .int .u32 0, .int .i64 0, .int .i64 0, .slice none 0 0, .int .i64 0]
theorem built80 (l : List (Nat × Value)) : Try.prog.built 80 l = Instr.fill (fun i => #[(0, 20), (20, 1), (21, 1), (22, 11)][i]?) Z33 l := by kernel_rfl
theorem filt_of {C : Array Value} {lg : Int} {im : Nat} {da : Option Addr} {dn dc : Nat} (H : CfA C lg im da dn dc) (hp xp : Option Addr) (y : Rt) (k : Int) : ∃ Fc, Try.prog.built 80 [(0, .agg C), (1, .pointer hp), (2, .pointer xp), (3, y.cand k)] = some Fc ∧ FltA Fc lg da dn dc (.pointer xp) y k := by
  have hz : Z33.size = 33 := rfl
  have s1 : (Value.cells (.agg C)).size = 20 := H.size
  have s4 : (y.cand k).cells.size = 11 := rfl
  refine ⟨lay 22 (y.cand k).cells (lay 21 (Value.cells (.pointer xp)) (lay 20 (Value.cells (.pointer hp)) (lay 0 (Value.cells (.agg C)) Z33))), ?_, ?_⟩
  · rw [built80, fill_cons (off := 0) (size := 20) rfl s1 (by rw [hz]; omega), fill_cons (off := 20) (size := 1) rfl rfl (by rw [lay_size, hz]; omega), fill_cons (off := 21) (size := 1) rfl rfl (by rw [lay_size, lay_size, hz]; omega), fill_cons (off := 22) (size := 11) rfl s4 (by rw [lay_size, lay_size, lay_size, hz]; omega)]
    rfl
  · have q1 : 0 + (Value.cells (.agg C)).size ≤ Z33.size := by rw [s1, hz]; omega
    have q2 : 20 + (Value.cells (.pointer hp)).size ≤ (lay 0 (Value.cells (.agg C)) Z33).size := by rw [lay_size, hz]; show 20 + 1 ≤ 33; omega
    have q3 : 21 + (Value.cells (.pointer xp)).size ≤ (lay 20 (Value.cells (.pointer hp)) (lay 0 (Value.cells (.agg C)) Z33)).size := by rw [lay_size, lay_size, hz]; show 21 + 1 ≤ 33; omega
    have q4 : 22 + (y.cand k).cells.size ≤ (lay 21 (Value.cells (.pointer xp)) (lay 20 (Value.cells (.pointer hp)) (lay 0 (Value.cells (.agg C)) Z33))).size := by rw [lay_size, lay_size, lay_size, hz, s4]; omega
    have p1 : (Value.cells (.pointer hp)).size = 1 := rfl
    have p2 : (Value.cells (.pointer xp)).size = 1 := rfl
    have lo : ∀ j, j < 20 → (lay 22 (y.cand k).cells (lay 21 (Value.cells (.pointer xp)) (lay 20 (Value.cells (.pointer hp)) (lay 0 (Value.cells (.agg C)) Z33))))[j]? = C[j]? := fun j hj => by
      rw [lay_out q4 (by omega), lay_out q3 (by omega), lay_out q2 (by omega), lay_in q1 (by omega) (by rw [s1]; omega)]
      rfl
    have hi : ∀ j, j < 11 → (lay 22 (y.cand k).cells (lay 21 (Value.cells (.pointer xp)) (lay 20 (Value.cells (.pointer hp)) (lay 0 (Value.cells (.agg C)) Z33))))[22 + j]? = (cdCells (y, k))[j]? := fun j hj => by
      rw [lay_in q4 (by omega) (by rw [s4]; omega), show 22 + j - 22 = j by omega, show (y.cand k).cells = (cdCells (y, k)).toArray from rfl, List.getElem?_toArray]
    have m1 : (lay 22 (y.cand k).cells (lay 21 (Value.cells (.pointer xp)) (lay 20 (Value.cells (.pointer hp)) (lay 0 (Value.cells (.agg C)) Z33))))[20]? = some (.pointer hp) := by
      rw [lay_out q4 (by omega), lay_out q3 (by omega), lay_in q2 (by omega) (by rw [p1]; omega)]
      rfl
    have m2 : (lay 22 (y.cand k).cells (lay 21 (Value.cells (.pointer xp)) (lay 20 (Value.cells (.pointer hp)) (lay 0 (Value.cells (.agg C)) Z33))))[21]? = some (.pointer xp) := by
      rw [lay_out q4 (by omega), lay_in q3 (by omega) (by rw [p2]; omega)]
      rfl
    have hsz : (lay 22 (y.cand k).cells (lay 21 (Value.cells (.pointer xp)) (lay 20 (Value.cells (.pointer hp)) (lay 0 (Value.cells (.agg C)) Z33)))).size = 33 := by rw [lay_size, lay_size, lay_size, lay_size, hz]
    clear q1 q2 q3 q4 p1 p2 s1 s4 hz
    generalize lay 22 (y.cand k).cells (lay 21 (Value.cells (.pointer xp)) (lay 20 (Value.cells (.pointer hp)) (lay 0 (Value.cells (.agg C)) Z33))) = A at *
    refine ⟨hsz, (lo 16 (by omega)).trans H.c16, (lo 17 (by omega)).trans H.c17, m2, hi, all_get fun j v hv => ?_⟩
    have hj : j < 33 := by
      obtain ⟨hj, -⟩ := Array.getElem?_eq_some_iff.1 hv
      omega
    by_cases h20 : j < 20
    · rw [lo j h20] at hv; exact get_all H.one hv
    · by_cases e20 : j = 20
      · subst e20; rw [m1] at hv; injection hv with hv; subst hv; rfl
      · by_cases e21 : j = 21
        · subst e21; rw [m2] at hv; injection hv with hv; subst hv; rfl
        · have := hi (j - 22) (by omega)
          rw [show 22 + (j - 22) = j by omega] at this
          rw [this] at hv
          exact (List.all_eq_true.1 (R46.one (y, k))) v (List.mem_of_getElem? hv)
end Go.Proofs.Ytgainkgbodmciaa
