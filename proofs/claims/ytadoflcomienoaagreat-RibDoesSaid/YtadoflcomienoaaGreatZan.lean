/- all: the iterator's contract. -/
import Derived.Test.YtadoflcomienoaaGreatZam
import Derived.Test.YtadoflcomienoaaGreatZak
import Derived.Test.YtadoflcomienoaaGreatZal
import Derived.Test.YtadoflcomienoaaGreatZab
namespace Go.Proofs.YtadoflcomienoaaGreat.Tm
open Go.RowKit Go.Shelf
attribute [local go_sem] Oper.semAt_some

theorem allM_any (p : Option Addr) (a : Nat) (m : Int) (w : World) : Calls Tryz.prog 158 #[.pointer p, pfx a m] w fun e w' => e = .returned (.func (.func 196) #[] #[.pointer (some ⟨w.heap.size, 0, none⟩), .pointer (some ⟨w.heap.size + 1, 0, none⟩)]) ∧ w' = (w.alloc (.cells #[.pointer p] 114)).alloc (.cells #[.int .u32 a, .int .i64 m] 58) := by
  unfold pfx
  go_enter Tryz.func158, Tryz.ntmps158
  go_wp2_with fail
  go_ret
  exact ⟨rfl, rfl⟩
/-- what a prefix holds, of a trie -/
def heldM (M : Nat → Nat → Option (Option Nat)) (a : Nat) (m : Int) : List (Nat × Nat) := if okP a m then trav M 33 a m.toNat else []
set_option maxRecDepth 100000 in
set_option maxHeartbeats 4000000 in
theorem all1M_gen (l B : Nat) (J Jx : List (Nat × Nat) → World → Prop) (a : Nat) (m : Int) (p : Option Addr) (o : Option Nat) (L : List (Nat × Nat)) (W : World) (t1 t2 : Nat) (ht1 : W.heap[t1]? = some (.cells #[.pointer p] 114)) (ht2 : W.heap[t2]? = some (.cells #[.int .u32 a, .int .i64 m] 58))
    (hF : ∀ W', Below W.heap.size W W' → Calls Tryz.prog 119 #[.pointer p, pfx a m] W' fun e W2 => e = .returned (ptr o) ∧ Below W'.heap.size W' W2)
    (hW : ∀ W', Below W.heap.size W W' → CallsIn Fence.wide 0 Tryz.prog 197 #[ptr o, .agg #[.int .u32 a, .int .i64 m], .func (.yield l) #[] #[]] W' fun e W2 => WalkRM B J Jx [] L W' e W2) :
    Calls Tryz.prog 196 #[.func (.yield l) #[] #[], .pointer (some ⟨t1, 0, none⟩), .pointer (some ⟨t2, 0, none⟩)] W fun e W' => (∃ v, e = .returned v) ∧ ((∃ ys, ys = L ∧ J ys W') ∨ (∃ pre, pre <+: L ∧ Jx pre W')) := by
  have HF := Lib.hid hF
  have HW := Lib.hid hW
  have l1 := lt_of_blk ht1
  have l2 := lt_of_blk ht2
  have H1 := Lib.hid (And.intro ht1 ht2)
  clear hF hW ht1 ht2
  unfold pfx at HF
  unfold ptr at HF HW
  go_enter Tryz.func196, Tryz.ntmps196
  go_wp2_with fail
  refine wp_region_quiet_tail (fun w' => Below W.heap.size W w') 5 (by kernel_rfl) (by kernel_rfl) (Below.drew (Below.refl _ _)) ?_
  simp only [List.take_succ_cons, List.take_zero, List.drop_succ_cons, List.drop_zero]
  iterate 5 ((with_reducible refine wpQuiet_step (fun K hK => ?_)); go_simp; first | ((with_reducible refine hK _ ?_); clear hK K) | (apply Exists.intro; (with_reducible refine ⟨fun w' hw' => ?_, hK _ ?_⟩); first | (go_at_call 119; (with_reducible refine (HF.out w' hw').mono ?_); rintro e w2 ⟨rfl, hb⟩; exact ⟨rfl, hw'.trans (hb.mono hw'.size)⟩) | (have b1 := (hw'.block t1 l1).trans H1.out.1; have b2 := (hw'.block t2 l2).trans H1.out.2; have d0 : w'.cell? ⟨t1, 0, none⟩ = some (.pointer p) := cell_of b1 rfl; have d1 : w'.cell? ⟨t2, 0, none⟩ = some (.int .u32 a) := cell_of b2 rfl; have d2 : w'.cell? ⟨t2, 1, none⟩ = some (.int .i64 m) := cell_of b2 rfl; clear b1 b2; go_simp; first | exact rfl | exact ⟨rfl, rfl⟩); clear hK K))
  refine wpQuiet_nil ?_
  intro wq hq
  have HQ := Lib.hid hq
  clear hq
  go_wp2_with (go_at_call 197; refine (callsIn_wide.1 (HW.out wq HQ.out)).mono ?_; rintro e4 w4 (⟨rfl, hJ4, hk4⟩ | ⟨rfl, q, hq, hx4⟩))
  · go_end0
    exact ⟨⟨_, rfl⟩, .inl ⟨_, rfl, by simpa using hJ4⟩⟩
  · go_end0
    exact ⟨⟨_, rfl⟩, .inr ⟨q, hq, by simpa using hx4⟩⟩
/-- all HANDS BACK what yields what a prefix holds -/
theorem allM_stops (B : Nat) (a : Nat) (m : Int) (ha : a < 4294967296) (b n : Nat) (N : Nat → Nat → Option Nat) (M : Nat → Nat → Option (Option Nat)) (w : World) (t1 t2 : Nat) (ht1 : w.heap[t1]? = some (.cells #[.pointer (some ⟨b, 0, none⟩)] 114)) (ht2 : w.heap[t2]? = some (.cells #[.int .u32 a, .int .i64 m] 58)) (hr : RdyM B w b N n M) (k : Nat) :
    SeqStopsK Fence.wide k Tryz.prog 196 #[.pointer (some ⟨t1, 0, none⟩), .pointer (some ⟨t2, 0, none⟩)] (fun x : Nat × Nat => #[pfx x.1 x.2]) (Kp B) (fun ys => ys = heldM M a m) (fun pre => pre <+: heldM M a m) (heldM M a m).length w := fun l J Jx W hW hJ _ hY h0 => by
  have hrW := hr.kp (Kp.of_below hr.box hW)
  refine callsIn_wide.2 (all1M_gen l B J Jx a m _ (if okP a m then N a m.toNat else none) (heldM M a m) W t1 t2 ((hW.block _ (lt_of_blk ht1)).trans ht1) ((hW.block _ (lt_of_blk ht2)).trans ht2) (fun W' hb => findM_any (hrW.kp (Kp.of_below hrW.box hb)).trie a m ha) (fun W' hb => ?_))
  have hr' := hrW.kp (Kp.of_below hrW.box hb)
  unfold heldM at hY ⊢
  cases hok : okP a m with
  | false => exact walkM_nil l _ B J Jx _ hJ a m rfl [] W' hr'.box (abides_below hJ h0 hb) 0
  | true =>
    obtain ⟨h1, h2, h3⟩ := okP_iff.1 hok
    rw [hok] at hY
    simp only [if_true] at hY ⊢
    refine walkM_in l B J Jx _ hJ (trav M 33 a m.toNat).length b n N M (fun k' pre x W1 hj hl => YieldAt.anyDepth rfl k' (hY pre x W1 hj hl)) 33 a m.toNat a m [] W' 0 (by omega) hr' (.inl ⟨by omega, h3, ha⟩) (fun _ => ⟨rfl, by omega⟩) (abides_below hJ h0 hb) (by simp)
end Go.Proofs.YtadoflcomienoaaGreat.Tm
/- Within, Prefixes. -/
namespace Go.Proofs.YtadoflcomienoaaGreat.Tm
open Go.RowKit Go.Shelf
attribute [local go_sem] Oper.semAt_some

set_option maxRecDepth 100000 in
set_option maxHeartbeats 4000000 in
theorem withinM_gen (p : Option Addr) (a : Nat) (m : Int) (L : List (Nat × Nat)) (hL : L.length ≤ 4294967296) (w : World)
    (hS : ∀ W0, W0 = ((((w.alloc (.cells #[.int .u32 a, .int .i64 m] 58)).alloc (.cells #[.slice none 0 0] 67)).alloc (.cells #[.pointer p] 114)).alloc (.cells #[.int .u32 a, .int .i64 m] 58)) → ∀ k, SeqStopsK Fence.wide k Tryz.prog 196 #[.pointer (some ⟨w.heap.size + 1 + 1, 0, none⟩), .pointer (some ⟨w.heap.size + 1 + 1 + 1, 0, none⟩)] (fun x : Nat × Nat => #[pfx x.1 x.2]) (Kp (w.heap.size + 1)) (fun ys => ys = L) (fun pre => pre <+: L) L.length W0) :
    CallsIn Fence.wide 5 Tryz.prog 131 #[.pointer p, pfx a m] w fun e w' => ∃ v, e = .returned v ∧ RP.Own w' w.heap.size v L ∧ Below w.heap.size w w' := by
  have h1 : 1 ≤ 5 := by omega
  have HA := Lib.hid (allM_any p a m)
  unfold pfx at HA ⊢
  obtain ⟨i0, hi, hz0, hz1, hz2⟩ := info_parts info32
  refine callsIn_of_wp_marks Tryz.func131 rfl trivial ?_ rfl
  simp only [Tryz.ntmps131, List.size_toArray, List.length_cons, List.length_nil, Nat.reduceAdd, Nat.reduceSub, Array.replicate_succ, Array.replicate_zero, List.push_toArray, List.append_toArray, List.nil_append, List.cons_append]
  gi_wp2_with (refine ⟨trivial, ?_⟩; gi_at_call 158; refine (callsIn_wide.2 (HA.out _)).mono ?_; rintro e w' ⟨rfl, rfl⟩)
  have hB0 : Below w.heap.size w ((((w.alloc (.cells #[.int .u32 a, .int .i64 m] 58)).alloc (.cells #[.slice none 0 0] 67)).alloc (.cells #[.pointer p] 114)).alloc (.cells #[.int .u32 a, .int .i64 m] 58)) := ((((Below.refl _ w).alloc (Nat.le_refl _) _).alloc (by simp) _).alloc (by simp; omega) _).alloc (by simp; omega) _
  have bO : Boxed ((((w.alloc (.cells #[.int .u32 a, .int .i64 m] 58)).alloc (.cells #[.slice none 0 0] 67)).alloc (.cells #[.pointer p] 114)).alloc (.cells #[.int .u32 a, .int .i64 m] 58)) (w.heap.size + 1) 67 (.slice none 0 0) := hold (hold (hnewAt (by simp)))
  have hsz : ((((w.alloc (.cells #[.int .u32 a, .int .i64 m] 58)).alloc (.cells #[.slice none 0 0] 67)).alloc (.cells #[.pointer p] 114)).alloc (.cells #[.int .u32 a, .int .i64 m] 58)).heap.size = w.heap.size + 4 := by simp
  have hS1 := hS _ rfl
  generalize (((w.alloc (.cells #[.int .u32 a, .int .i64 m] 58)).alloc (.cells #[.slice none 0 0] 67)).alloc (.cells #[.pointer p] 114)).alloc (.cells #[.int .u32 a, .int .i64 m] 58) = W0 at hB0 bO hsz hS1 ⊢
  clear hS HA
  refine wpIn_rangeFunc_ownH rfl h1 (gf := 196) (lb := #[.pointer (some ⟨w.heap.size + 1 + 1, 0, none⟩), .pointer (some ⟨w.heap.size + 1 + 1 + 1, 0, none⟩)]) rfl trivial (enters_of Tryz.func196 (by kernel_rfl) rfl)
    (hS1 4) Kp.trans (fun W l o o' hl h hc _ => Kp.putObj o' (by omega) h hc) (Below.refl _ _) (fun _ => rfl)
    (fun pre W => (∃ v, Boxed W (w.heap.size + 1) 67 v ∧ W.ownsRow w.heap.size 58 2 v pre.length (RP.flat pre)) ∧ Below w.heap.size w W)
    (fun _ _ _ => False)
    (OwnFrom.and (Own.from (fun s X Y row hs hg hr => by
      obtain ⟨v, h1, h2, -⟩ := holdsRow_own w.heap.size (w.heap.size + 1) 67 58 2 (fun pre : List (Nat × Nat) => pre.length) (fun pre => RP.flat pre) (fun _ _ => True) s X Y row (by obtain ⟨v, h1, h2⟩ := hs; exact ⟨v, h1, h2, trivial⟩) hg hr
      exact ⟨v, h1, h2⟩) _) (ownFrom_below (Nat.le_refl _) (by omega)))
    (fun _ _ _ _ _ hs _ _ => hs)
    ⟨⟨_, bO, World.ownsRow_nil _ _ _ _⟩, hB0⟩
    (fun x a' W => ∃ Bx, W.heap[Bx]? = some (.cells #[.int .u32 x.1, .int .i64 x.2] 58) ∧ a' = { tmps := #[.pointer p, .agg #[.int .u32 a, .int .i64 m], undef, .pointer (some ⟨w.heap.size, 0, none⟩), .slice none 0 0, .pointer (some ⟨w.heap.size + 1, 0, none⟩), .pointer (some ⟨Bx, 0, none⟩), .pointer p, .agg #[.int .u32 a, .int .i64 m], .func (.func 196) #[] #[.pointer (some ⟨w.heap.size + 1 + 1, 0, none⟩), .pointer (some ⟨w.heap.size + 1 + 1 + 1, 0, none⟩)], .agg #[.int .u32 x.1, .int .i64 x.2], undef, undef, undef, undef, undef], defers := [] })
    (fun x a' _ X Y row hs hg hr => by
      obtain ⟨Bx, h1, h2⟩ := hs
      refine ⟨Bx, (hg.block Bx (lt_of_blk h1) (fun e => ?_)).trans h1, h2⟩
      obtain ⟨_, o, ho, hc⟩ := hr Bx e.symm
      rw [h1] at ho; cases ho; cases hc)
    ?assign ?body ?done ?stop
  case assign =>
    rintro l pre x W K ⟨⟨v, hv, hrow⟩, hB1⟩ hK
    dsimp only [pfx]
    gi_wp2
    exact hK _ _ ((KeepsOthers.alloc _ _).from _) (Kp.of_below hv.lt ((Below.refl _ W).alloc (Nat.le_refl _) _)) ⟨⟨v, hv.alloc _, hrow.alloc _⟩, hB1.alloc hB1.size _⟩ ⟨W.heap.size, hnew _ _, rfl⟩
  case body =>
    rintro l pre x a' W hl _ ⟨⟨v, hv, hrow⟩, hB1⟩ ⟨Bx, hbx, rfl⟩ hlt
    have hc := hv.cell
    have d0 : W.cell? ⟨Bx, 0, none⟩ = some (.int .u32 x.1) := cell_of hbx rfl
    have d1 : W.cell? ⟨Bx, 1, none⟩ = some (.int .i64 x.2) := cell_of hbx rfl
    have hsW := hB1.size
    clear hS1 hbx hB0 bO
    gi_wp2_with (gi_at_builtin; refine wpListIn_append_blk _ rfl _ _ 67 rfl w.heap.size 58 i0 (.agg #[.int .u32 0, .int .i64 0]) 2 16 Tryz.underlying67 hi hz0 hz1 hz2 rfl (by decide) _ _ _ rfl (hrow.alloc _) ⟨W.heap.size, 0, none⟩ 1 1 [.int .u32 x.1, .int .i64 x.2] rfl rfl (cell_two_new _ _ _ _) (by simp [Value.oneCell']) (by omega) (by unfold maxLen; omega) (by omega) (by simp; omega) ?_; intro v' w1 hown' hgrow hblk; obtain ⟨g', cap', rfl⟩ := ownsRow_succ hown'; obtain ⟨hv1, hv2, hr2, hk2, hb2⟩ := hv.appended (by decide) hrow hsW (by omega) hown' hgrow; have hkp := Kp.appended hv (by decide) hrow hown' hgrow hblk; have hc1 := hv1.cell; have hf1 := hv1.frozen)
    exact ⟨hk2.from _, hkp, ⟨⟨_, hv2, by rw [RP.flat_append, RP.flat_one, List.length_append]; exact hr2⟩, hB1.trans hb2⟩⟩
  case done =>
    rintro D zs W hD rfl ⟨⟨v, hv, hrow⟩, hB1⟩ hK
    have hc := hv.cell
    gi_wp2
    refine ⟨by simp, .inl ⟨_, _, rfl, run_takeDeferred hK, ?_⟩⟩
    exact ⟨_, results_tmp rfl _ _ _, v, rfl, ownsRow_putObj hrow _ hK rfl, hB1.trans (belowK_b (w := w) (Nat.le_refl _) W D _ _ (by omega) hK rfl rfl)⟩
  case stop =>
    rintro D c pre W _ _ h _
    exact h.elim
theorem withinM_any {w : World} {b n : Nat} {N : Nat → Nat → Option Nat} {M : Nat → Nat → Option (Option Nat)} (h : TrieM w b N n M) (a : Nat) (m : Int) (ha : a < 4294967296) (hL : (heldM M a m).length ≤ 4294967296) :
    Calls Tryz.prog 131 #[.pointer (some ⟨b, 0, none⟩), pfx a m] w fun e w' => ∃ v, e = .returned v ∧ RP.Own w' w.heap.size v (heldM M a m) ∧ Below w.heap.size w w' := by
  refine callsIn_wide.1 (withinM_gen (some ⟨b, 0, none⟩) a m _ hL w fun W0 hW0 k => ?_)
  have hbl : Below w.heap.size w W0 := by rw [hW0]; exact ((((Below.refl _ w).alloc (Nat.le_refl _) _).alloc (by simp) _).alloc (by simp; omega) _).alloc (by simp; omega) _
  have hO : Boxed W0 (w.heap.size + 1) 67 (.slice none 0 0) := by rw [hW0]; exact hold (hold (hnewAt (by simp)))
  refine allM_stops (w.heap.size + 1) a m ha b n N M W0 (w.heap.size + 1 + 1) (w.heap.size + 1 + 1 + 1) (by rw [hW0]; exact hold (hnewAt (by simp))) (by rw [hW0]; exact hnewAt (by simp)) ⟨h.below hbl, fun q hq => ⟨by have := h.lt hq; omega, ownAt_nil hO⟩, hO.lt, fun q hq => absurd hq (ownAt_nil hO)⟩ k
theorem prefixesM_any {w : World} {b n : Nat} {N : Nat → Nat → Option Nat} {M : Nat → Nat → Option (Option Nat)} (h : TrieM w b N n M) (hL : (heldM M 0 0).length ≤ 4294967296) :
    Calls Tryz.prog 85 #[.pointer (some ⟨b, 0, none⟩)] w fun e w' => ∃ v, e = .returned v ∧ RP.Own w' w.heap.size v (heldM M 0 0) ∧ Below w.heap.size w w' := by
  have HW := Lib.hid (withinM_any h 0 0 (by decide) hL)
  unfold pfx at HW
  clear h hL
  go_enter Tryz.func85, Tryz.ntmps85
  go_wp2_with (go_at_call 131; refine (HW.out).mono ?_; rintro e w1 ⟨v, rfl, hown, hb⟩)
  go_ret
  exact ⟨v, rfl, hown, hb⟩
end Go.Proofs.YtadoflcomienoaaGreat.Tm
/- Routes in memory; a prefix's paths; how many each router has. -/
namespace Go.Proofs.YtadoflcomienoaaGreat
open Go.RowKit
open Go.ChangeMaps (setBlock)

/-- a route, as it lies in memory -/
structure RtV where
  r : Int
  k : PK
  i : Int
  a : AtV
deriving Inhabited
/-- a route, as it reads -/
structure Rt where
  r : Int
  k : PK
  i : Int
  a : At
deriving Inhabited, DecidableEq
def RtV.rt (x : RtV) : Rt := ⟨x.r, x.k, x.i, x.a.at⟩
def RtV.pi (x : RtV) : Int × Int := (x.r, x.i)
def RtV.key (x : RtV) : Int × PK × Int := (x.r, x.k, x.i)
def Rt.key (x : Rt) : Int × PK × Int := (x.r, x.k, x.i)
def RtV.v (x : RtV) : Value := .agg #[.int .i64 x.r, .int .u32 (x.k.1 : Int), .int .i64 x.k.2, .int .i64 x.i, .int .i64 x.a.o, .slice x.a.p.a x.a.p.n x.a.p.c, .int .u32 x.a.nx, .int .i64 x.a.md, .int .i64 x.a.pf, .slice x.a.c.a x.a.c.n x.a.c.c]
def RRt : Rep RtV := ⟨93, 10, by decide, fun x => [.int .i64 x.r, .int .u32 (x.k.1 : Int), .int .i64 x.k.2, .int .i64 x.i, .int .i64 x.a.o, .slice x.a.p.a x.a.p.n x.a.p.c, .int .u32 x.a.nx, .int .i64 x.a.md, .int .i64 x.a.pf, .slice x.a.c.a x.a.c.n x.a.c.c], fun _ => rfl, fun _ => rfl⟩
theorem TRt : Rep.Ty Tryz.prog 72 RRt 112 := Rep.Ty.mk' Tryz.underlying72 (z := .agg #[.int .i64 0, .int .u32 0, .int .i64 0, .int .i64 0, .int .i64 0, .slice none 0 0, .int .u32 0, .int .i64 0, .int .i64 0, .slice none 0 0]) (by kernel_rfl) rfl
/-- what the keys of a table may be -/
structure KOk (r : Int) (k : PK) (i : Int) : Prop where
  r : 0 ≤ r ∧ r < 16
  a : k.1 < 4294967296
  p : okP k.1 k.2 = true
  i : 0 ≤ i ∧ i ≤ 4294967295
/-- what holds, whatever becomes of certain blocks, and of new ones -/
def HoldF (F : Nat → Prop) (w : World) (P : World → Prop) : Prop := ∀ w', w.heap.size ≤ w'.heap.size → (∀ k, k < w.heap.size → ¬ F k → w'.heap[k]? = w.heap[k]?) → P w'
section
variable {F F' : Nat → Prop} {w w' : World} {P Q : World → Prop}
theorem HoldF.now (h : HoldF F w P) : P w := h w (Nat.le_refl _) fun _ _ _ => rfl
theorem HoldF.imp (h : HoldF F w P) (hi : ∀ W, P W → Q W) : HoldF F w Q := fun w' h1 h2 => hi _ (h w' h1 h2)
theorem HoldF.turn (h : HoldF F w P) (hs : w.heap.size ≤ w'.heap.size) (he : ∀ k, k < w.heap.size → ¬ F k → w'.heap[k]? = w.heap[k]?) (hf : ∀ k, F' k → F k ∨ w.heap.size ≤ k) : HoldF F' w' P := fun w2 h1 h2 =>
  h w2 (Nat.le_trans hs h1) fun k hk hn => (h2 k (Nat.lt_of_lt_of_le hk hs) (fun hg => by rcases hf k hg with h3 | h3; exact hn h3; omega)).trans (he k hk hn)
theorem HoldF.moved (h : HoldF F w P) (m : Moved w w' F F') : HoldF F' w' P := h.turn m.size m.same m.foot
theorem HoldF.below (h : HoldF F w P) (hb : Below w.heap.size w w') : HoldF F w' P := h.moved (Moved.of_below hb F)
end
theorem SlOk.same {α : Type} [Inhabited α] {R : Rep α} {ok : World → α → Prop} {w w' : World} {s : SlV α} (h : SlOk R ok w s) (he : 0 < s.n → ∀ a, s.a = some a → a.block < w.heap.size → w'.heap[a.block]? = w.heap[a.block]?) (hok : ∀ x ∈ s.l, ok w x → ok w' x) : SlOk R ok w' s :=
  ⟨⟨h.sl.len, h.sl.max, fun hn => by
    obtain ⟨b, o, e, r⟩ := h.sl.row hn
    exact ⟨b, o, e, r.keep (he hn _ e r.lt)⟩⟩, h.nil, h.nc, h.cm, fun x hx => hok x hx (h.all x hx)⟩
/-- attributes whose blocks lie outside of some -/
structure OutA (F : Nat → Prop) (x : AtV) : Prop where
  p : 0 < x.p.n → ∀ a, x.p.a = some a → ¬ F a.block
  c : 0 < x.c.n → ∀ a, x.c.a = some a → ¬ F a.block
  s : ∀ y ∈ x.p.l, 0 < y.s.n → ∀ a, y.s.a = some a → ¬ F a.block
theorem NewA.out {B : Nat} {x : AtV} {F : Nat → Prop} (h : NewA B x) (hF : ∀ k, F k → k < B) : OutA F x :=
  ⟨fun hn a e hf => by have := h.p hn a e; have := hF _ hf; omega, fun hn a e hf => by have := h.c hn a e; have := hF _ hf; omega, fun y hy hn a e hf => by have := h.s y hy hn a e; have := hF _ hf; omega⟩
theorem AtOk.hold {w : World} {x : AtV} {F : Nat → Prop} (h : AtOk w x) (ho : OutA F x) : HoldF F w fun W => AtOk W x := fun _w' _ he =>
  ⟨h.p.same (fun hn a e hl => he _ hl (ho.p hn a e)) (fun y hy h1 => SlOk.same h1 (fun hn a e hl => he _ hl (ho.s y hy hn a e)) fun _ _ h => h), h.c.same (fun hn a e hl => he _ hl (ho.c hn a e)) fun _ _ h => h, h.o, h.nx, h.md, h.pf⟩

abbrev QK := Int × Int
theorem rowQ : (129 : TypeId) < Tryz.prog.types.size := of_decide_eq_true (by kernel_rfl)
theorem wideQ : (match Tryz.prog.underlying 129 with | some (.array _ _) | some (.struct _) => true | _ => false) = true := by kernel_rfl
set_option maxRecDepth 100000 in
theorem lawQ : WideMaps.KeyLaw Tryz.prog 129 := deep_law_laid laidOut (m := 2) (by omega) rowQ (by kernel_rfl) wideQ
theorem keyQ : Tryz.prog.keyType 129 = true := by kernel_rfl
theorem cellsQ : Tryz.prog.cellsOf 129 = 2 := by kernel_rfl
def QK.val (k : QK) : Value := .agg #[.int .i64 k.1, .int .i64 k.2]
def QK.wf (k : QK) : Prop := (Lit.int .i64 k.1).wf = true ∧ (Lit.int .i64 k.2).wf = true
theorem QK.reads (k : QK) (h : QK.wf k) : ∃ l, keyOf Tryz.prog 129 (QK.val k) = some l := by
  obtain ⟨h2, h3⟩ := h
  have hf : (QK.val k).formed Tryz.prog 129 = true := by simp [Value.formed, Tryz.underlying129, QK.val, cellsQ]
  have i1 : ∀ d n, (Lit.int .i64 n).wf = true → Tryz.prog.keyLits (d + 1) 3 [.int .i64 n] = some [.int .i64 n] := by
    intro d n h; simp [Program.keyLits, Tryz.underlying3, h]
  have i3 : ∀ d, Tryz.prog.keyLits (d + 1 + 1) 129 [.int .i64 k.1, .int .i64 k.2] = some [.int .i64 k.1, .int .i64 k.2] := by
    intro d; unfold Program.keyLits; simp [Tryz.underlying129, cellsQ, cells3, i1 d _ h3, i1 d _ h2]
  unfold keyOf
  simp only [Tryz.underlying129]
  rw [keyQ, hf, sizeT]
  have := i3 (282 + 1)
  simp only [QK.val, Value.cells, this]
  exact ⟨_, rfl⟩
def QN : MR.Enc Tryz.prog 129 QK where
  enc := QK.val
  ok := QK.wf
  law := Maps.Keyed.of_law lawQ
  reads := QK.reads
  inj a b h := by
    obtain ⟨a1, a2⟩ := a
    obtain ⟨b1, b2⟩ := b
    simp [QK.val] at h
    exact Prod.ext h.1 h.2

theorem mapAt_unique {P : Program} {K : TypeId} {κ : Type} {N : MR.Enc P K κ} {w : World} {b c1 c2 : Nat} {l1 l2 : List (MR.Ent κ)} (h1 : MR.MapAt N w b l1 c1) (h2 : MR.MapAt N w b l2 c2) : l1 = l2 ∧ c1 = c2 := by
  have h := h1.blk.symm.trans h2.blk
  injection h with h
  injection h with ha hc
  have hl : MR.ents N.enc l1 = MR.ents N.enc l2 := by simpa using ha
  refine ⟨?_, hc⟩
  unfold MR.ents at hl
  have : ∀ (x y : List (MR.Ent κ)), x.map (fun e => (⟨N.enc e.1, e.2.1, e.2.2⟩ : MapEntry)) = y.map (fun e => (⟨N.enc e.1, e.2.1, e.2.2⟩ : MapEntry)) → x = y := by
    intro x
    induction x with
    | nil => intro y h; cases y with
      | nil => rfl
      | cons => cases h
    | cons a r ih =>
      intro y h
      cases y with
      | nil => cases h
      | cons a' r' =>
        rw [List.map_cons, List.map_cons, List.cons.injEq, MapEntry.mk.injEq] at h
        obtain ⟨⟨e1, e2, e3⟩, e4⟩ := h
        rw [ih r' e4]
        congr 1
        exact Prod.ext (N.inj _ _ e1) (Prod.ext e2 e3)
  exact this _ _ hl
def IN : MR.Enc Tryz.prog 3 Int where
  enc := .int .i64
  ok n := (Lit.int .i64 n).wf = true
  law := Maps.int_keyed Tryz.underlying3
  reads n h := by
    unfold keyOf
    simp only [Tryz.underlying3]
    exact ⟨.int .i64 n, by simp [mapKey, Tryz.underlying3, h]⟩
  inj a b h := by simpa using h
/-- the map of these -/
def PathsAt (w : World) (bm : Nat) (L : List RtV) : Prop := ∃ clk es, MR.MapAt QN w bm es clk ∧ Kl.Lay RtV.pi (fun x => x.a.v) es L
theorem PathsAt.on {w w' : World} {bm : Nat} {L : List RtV} (h : PathsAt w bm L) (e : w'.heap[bm]? = w.heap[bm]?) : PathsAt w' bm L := by
  obtain ⟨clk, es, h1, h2⟩ := h
  exact ⟨clk, es, h1.blk_iff QN e, h2⟩
theorem PathsAt.lt {w : World} {bm : Nat} {L : List RtV} (h : PathsAt w bm L) : bm < w.heap.size := by
  obtain ⟨clk, es, h1, h2⟩ := h
  exact lt_of_blk h1.blk
theorem PathsAt.keep {w w' : World} {bm : Nat} {L : List RtV} (h : PathsAt w bm L) (hb : Below w.heap.size w w') : PathsAt w' bm L := h.on (hb.block _ h.lt)
theorem PathsAt.nd {w : World} {bm : Nat} {L : List RtV} (h : PathsAt w bm L) : (L.map RtV.pi).Nodup := by
  obtain ⟨clk, es, h1, h2⟩ := h
  exact h2.nd
def getP14 (L : List RtV) (k : QK) : AtV := ((Kl.look RtV.pi L k).map RtV.a).getD atZV
def hasP14 (L : List RtV) (k : QK) : Bool := (Kl.look RtV.pi L k).isSome
theorem PathsAt.lookup {w : World} {bm : Nat} {L : List RtV} (H : PathsAt w bm L) {k : QK} (hk : QN.ok k) (W : World) (hW : W.heap[bm]? = w.heap[bm]?) :
    (Instr.lookup 117 (.map (some bm)) (.agg #[.int .i64 k.1, .int .i64 k.2]) true).run Tryz.prog W = .ok (.tuple #[.agg #[.int .i64 (getP14 L k).o, .slice (getP14 L k).p.a (getP14 L k).p.n (getP14 L k).p.c, .int .u32 (getP14 L k).nx, .int .i64 (getP14 L k).md, .int .i64 (getP14 L k).pf, .slice (getP14 L k).c.a (getP14 L k).c.n (getP14 L k).c.c], .bool (hasP14 L k)]) W := by
  obtain ⟨clk, es, k2, k3⟩ := H
  have h := MR.run_lookup QN (k2.blk_iff QN hW) hk Tryz.underlying117 zeroA true
  rw [k3.get, if_pos rfl] at h
  have e1 : ((Kl.look RtV.pi L k).map fun x => x.a.v).getD (.agg #[.int .i64 0, .slice none 0 0, .int .u32 0, .int .i64 0, .int .i64 0, .slice none 0 0]) = (getP14 L k).v := by unfold getP14; cases Kl.look RtV.pi L k <;> rfl
  have e2 : ((Kl.look RtV.pi L k).map fun x => x.a.v).isSome = hasP14 L k := by unfold hasP14; cases Kl.look RtV.pi L k <;> rfl
  rw [e1, e2] at h
  exact h
theorem PathsAt.put {w : World} {bm : Nat} {L L' : List RtV} (H : PathsAt w bm L) {x : RtV} (hk : QN.ok x.pi) (hL : (L'.map RtV.pi).Nodup) (hl : ∀ k, Kl.look RtV.pi L' k = if k = x.pi then some x else Kl.look RtV.pi L k) :
    ∃ O, (Instr.mapUpdate 117 (.map (some bm)) (.agg #[.int .i64 x.r, .int .i64 x.i]) (.agg #[.int .i64 x.a.o, .slice x.a.p.a x.a.p.n x.a.p.c, .int .u32 x.a.nx, .int .i64 x.a.md, .int .i64 x.a.pf, .slice x.a.c.a x.a.c.n x.a.c.c])).run Tryz.prog w = .ok () (setBlock w bm O) ∧ PathsAt (setBlock w bm O) bm L' := by
  obtain ⟨clk, es, k2, k3⟩ := H
  have hu := MR.run_update QN k2 hk Tryz.underlying117 (x.a.v)
  exact ⟨_, hu.1, ⟨_, _, hu.2, k3.put hL hl hu.2.nodup hu.2.bnodup⟩⟩
theorem PathsAt.delete {w : World} {bm : Nat} {L : List RtV} (H : PathsAt w bm L) {k : QK} (hk : QN.ok k) :
    ∃ O, (∀ K' ty : TypeId, (Builtin.delete_ #[117, K'] ty #[.map (some bm), .agg #[.int .i64 k.1, .int .i64 k.2]]).run Tryz.prog w = .ok (.tuple #[]) (setBlock w bm O)) ∧ PathsAt (setBlock w bm O) bm (L.filter fun x => decide (x.pi ≠ k)) ∧ ∀ clk es, MR.MapAt QN w bm es clk → MR.MapAt QN (setBlock w bm O) bm (MR.del es k) clk := by
  obtain ⟨clk, es, k2, k3⟩ := H
  have hu := fun K' ty => MR.run_delete QN k2 hk Tryz.underlying117 (K' := K') ty
  refine ⟨_, fun K' ty => (hu K' ty).1, ⟨_, _, (hu 0 0).2, k3.del k⟩, fun clk2 es2 h2 => ?_⟩
  obtain ⟨rfl, rfl⟩ := mapAt_unique k2 h2
  exact (hu 0 0).2
theorem PathsAt.len {w : World} {bm : Nat} {L : List RtV} (H : PathsAt w bm L) (W : World) (hW : W.heap[bm]? = w.heap[bm]?) (ty : TypeId) : (Builtin.len_ #[117] ty #[.map (some bm)]).run Tryz.prog W = .ok (.int .i64 L.length) W := by
  obtain ⟨clk, es, k2, k3⟩ := H
  have := MR.run_len QN (k2.blk_iff QN hW) Tryz.underlying117 ty
  rw [k3.len] at this
  exact this

theorem paths_nil {k : QK} (hk : QN.ok k) (W : World) : (Instr.lookup 117 (.map none) (.agg #[.int .i64 k.1, .int .i64 k.2]) true).run Tryz.prog W = .ok (.tuple #[.agg #[.int .i64 0, .slice none 0 0, .int .u32 0, .int .i64 0, .int .i64 0, .slice none 0 0], .bool false]) W := by
  obtain ⟨lx, hlx⟩ := QN.reads k hk
  show (Instr.lookup 117 (.map none) (QN.enc k) true).run Tryz.prog W = _
  unfold Instr.lookup
  rcases QN.law.find W hlx [] (fun e he => by cases he) with ⟨h1, -⟩ | ⟨j, e, -, h2, -⟩
  · simp only [Sem.run_bind, run_underlying Tryz.underlying117, Result.andThen, Sem.run_pure, QN.law.check W _ hlx, h1, zeroA]
    rfl
  · simp at h2
/-- a map of numbers by numbers: what it says of each -/
def OfAt (w : World) (bo : Nat) (f : Int → Int) : Prop := ∃ clk es, MR.MapAt IN w bo es clk ∧ ∀ k, (MR.get? es k).getD (.int .i64 0) = .int .i64 (f k)
theorem OfAt.on {w w' : World} {bo : Nat} {f : Int → Int} (h : OfAt w bo f) (e : w'.heap[bo]? = w.heap[bo]?) : OfAt w' bo f := by
  obtain ⟨clk, es, h1, h2⟩ := h
  exact ⟨clk, es, h1.blk_iff IN e, h2⟩
theorem OfAt.lt {w : World} {bo : Nat} {f : Int → Int} (h : OfAt w bo f) : bo < w.heap.size := by
  obtain ⟨clk, es, h1, h2⟩ := h
  exact lt_of_blk h1.blk
theorem OfAt.blk {w : World} {bo : Nat} {f : Int → Int} (h : OfAt w bo f) : ∃ A c, w.heap[bo]? = some (.map A c) := by
  obtain ⟨clk, es, h1, h2⟩ := h
  exact ⟨_, _, h1.blk⟩
theorem PathsAt.blk {w : World} {bm : Nat} {L : List RtV} (h : PathsAt w bm L) : ∃ A c, w.heap[bm]? = some (.map A c) := by
  obtain ⟨clk, es, h1, h2⟩ := h
  exact ⟨_, _, h1.blk⟩
theorem OfAt.lookup {w : World} {bo : Nat} {f : Int → Int} (H : OfAt w bo f) {k : Int} (hk : (Lit.int .i64 k).wf = true) (W : World) (hW : W.heap[bo]? = w.heap[bo]?) :
    (Instr.lookup 118 (.map (some bo)) (.int .i64 k) false).run Tryz.prog W = .ok (.int .i64 (f k)) W := by
  obtain ⟨clk, es, k2, k3⟩ := H
  have h := MR.run_lookup IN (k2.blk_iff IN hW) (x := k) hk Tryz.underlying118 (z := .int .i64 0) (fun w => by kernel_rfl) false
  rw [k3, if_neg (by decide)] at h
  exact h
theorem OfAt.update {w : World} {bo : Nat} {f : Int → Int} (H : OfAt w bo f) {k : Int} (hk : (Lit.int .i64 k).wf = true) (n : Int) :
    ∃ O, (Instr.mapUpdate 118 (.map (some bo)) (.int .i64 k) (.int .i64 n)).run Tryz.prog w = .ok () (setBlock w bo O) ∧ OfAt (setBlock w bo O) bo (fun j => if j = k then n else f j) := by
  obtain ⟨clk, es, k2, k3⟩ := H
  have hu := MR.run_update IN k2 (x := k) hk Tryz.underlying118 (.int .i64 n)
  refine ⟨_, hu.1, ⟨_, _, hu.2, fun j => ?_⟩⟩
  rw [MR.get?_put]
  by_cases hj : j = k
  · subst hj
    rw [if_pos rfl]
    show _ = Value.int .i64 (if j = j then n else f j)
    rw [if_pos rfl]
    rfl
  · rw [if_neg hj]
    show _ = Value.int .i64 (if j = k then n else f j)
    rw [if_neg hj]
    exact k3 j
end Go.Proofs.YtadoflcomienoaaGreat
/- Tables of routes: what becomes of them (plain). -/
namespace Go.Proofs.YtadoflcomienoaaGreat
open Go.RowKit

abbrev RKey := Int × PK × Int
def atP (S : List Rt) (k : PK) : List Rt := S.filter fun x => decide (x.k = k)
def rky (x : Rt) : PK := (x.r.toNat, x.i)
def routesR (S : List Rt) (k : PK) : List Rt := sortK rky (atP S k)
def dropR (S : List Rt) (q : RKey) : List Rt := S.filter fun x => decide (x.key ≠ q)
def hasR (S : List Rt) (q : RKey) : Bool := S.any fun x => decide (x.key = q)
def setR (room : Int) (s : List Rt × Int) (x : Rt) : List Rt × Int :=
  if hasR s.1 x.key || decide ((s.1.length : Int) < room) then (dropR s.1 x.key ++ [x], s.2) else (s.1, s.2 + 1)
def hasAS (a : At) (asn : Int) : Bool := a.p.any fun s => s.2.any fun n => decide (n = asn)
def goneR (router : Int) (g : List Nl) (S : List Rt) : List Rt := g.foldl (fun S n => dropR S (router, n.key, n.id)) S
def oneR (room router : Int) (loop : Bool) (a : At) (s : List Rt × Int) (n : Nl) : List Rt × Int :=
  if loop then (dropR s.1 (router, n.key, n.id), s.2) else setR room s ⟨router, n.key, n.id, a⟩
def comeR (room router : Int) (loop : Bool) (a : At) (r : List Nl) (s : List Rt × Int) : List Rt × Int := r.foldl (oneR room router loop a) s
def applyR (asn room router : Int) (u : Up) (s : List Rt × Int) : List Rt × Int := comeR room router (hasAS u.a asn) u.a u.routes (goneR router u.gone s.1, s.2)
def flushR (router : Int) (S : List Rt) : List Rt := S.filter fun x => decide (x.r ≠ router)
/-- tables that may be: each key once, no router below 0 -/
structure ROk (S : List Rt) : Prop where
  nd : (S.map Rt.key).Nodup
  r : ∀ x ∈ S, 0 ≤ x.r
/-- the prefixes whose routes are others -/
structure Chg (S S' : List Rt) (L : List PK) : Prop where
  ord : Kl.Ordered ltK L
  is : ∀ k, k ∈ L ↔ routesR S k ≠ routesR S' k
theorem key_eq_iff {x y : Rt} : x.key = y.key ↔ x.r = y.r ∧ x.k = y.k ∧ x.i = y.i := by
  unfold Rt.key
  rw [Prod.mk.injEq, Prod.mk.injEq]
theorem ROk.inj {S : List Rt} (h : ROk S) {x y : Rt} (hx : x ∈ S) (hy : y ∈ S) (e : x.key = y.key) : x = y := MR.inj_of_nodup h.nd hx hy e
theorem ROk.rky {S : List Rt} (h : ROk S) (k : PK) : ((atP S k).map rky).Nodup := by
  rw [List.nodup_iff_pairwise_ne, List.pairwise_map]
  have h1 : (atP S k).Nodup := (MR.nodup_of_map h.nd).filter _
  rw [List.nodup_iff_pairwise_ne] at h1
  refine List.Pairwise.imp_of_mem (fun {x y} hx hy hne e => hne ?_) h1
  unfold atP at hx hy
  rw [List.mem_filter, decide_eq_true_eq] at hx hy
  refine h.inj hx.1 hy.1 (key_eq_iff.2 ⟨?_, hx.2.trans hy.2.symm, ?_⟩)
  · have h2 := h.r _ hx.1
    have h3 := h.r _ hy.1
    unfold YtadoflcomienoaaGreat.rky at e
    rw [Prod.mk.injEq] at e
    omega
  · unfold YtadoflcomienoaaGreat.rky at e
    rw [Prod.mk.injEq] at e
    exact e.2
theorem routes_eq {S S' : List Rt} (h : ROk S) (h' : ROk S') {k : PK} (he : ∀ x, x.k = k → (x ∈ S ↔ x ∈ S')) : routesR S k = routesR S' k := by
  unfold routesR
  refine sortK_is (h'.rky k) (sortK_ord (h.rky k)) ((sortK_perm _).trans ?_)
  unfold atP
  rw [List.perm_ext_iff_of_nodup ((MR.nodup_of_map h.nd).filter _) ((MR.nodup_of_map h'.nd).filter _)]
  intro x
  rw [List.mem_filter, List.mem_filter, decide_eq_true_eq]
  constructor
  · rintro ⟨h1, h2⟩; exact ⟨(he x h2).1 h1, h2⟩
  · rintro ⟨h1, h2⟩; exact ⟨(he x h2).2 h1, h2⟩
theorem ordK_ext {L M : List PK} (hL : Kl.Ordered ltK L) (hM : Kl.Ordered ltK M) (h : ∀ k, k ∈ L ↔ k ∈ M) : L = M := by
  have nd : ∀ {L : List PK}, Kl.Ordered ltK L → L.Nodup := fun {L} h => by
    have := ordered_nodup (key := fun k : PK => k) h
    simpa using this
  exact Kl.ordered_eq (fun a b h => ltK_asymm a b h) hL hM ((List.perm_ext_iff_of_nodup (nd hL) (nd hM)).2 h)
theorem Chg.unique {S S' : List Rt} {L M : List PK} (h : Chg S S' L) (h' : Chg S S' M) : L = M := ordK_ext h.ord h'.ord fun k => (h.is k).trans (h'.is k).symm
theorem mem_dropR {S : List Rt} {q : RKey} {x : Rt} : x ∈ dropR S q ↔ x ∈ S ∧ x.key ≠ q := by unfold dropR; rw [List.mem_filter, decide_eq_true_eq]
theorem hasR_iff {S : List Rt} {q : RKey} : hasR S q = true ↔ ∃ x ∈ S, x.key = q := by unfold hasR; simp
theorem ROk.filter {S : List Rt} (h : ROk S) (p : Rt → Bool) : ROk (S.filter p) := ⟨Kl.nodup_filter h.nd p, fun x hx => h.r x (List.mem_filter.1 hx).1⟩
theorem ROk.drop {S : List Rt} (h : ROk S) (q : RKey) : ROk (dropR S q) := h.filter _
theorem ROk.put {S : List Rt} (h : ROk S) {x : Rt} (hx : 0 ≤ x.r) : ROk (dropR S x.key ++ [x]) := by
  refine ⟨?_, fun y hy => ?_⟩
  · rw [List.map_append, List.nodup_append]
    refine ⟨(h.drop _).nd, by simp, fun a ha b hb => ?_⟩
    simp at hb
    subst hb
    obtain ⟨y, hy, rfl⟩ := List.mem_map.1 ha
    exact (mem_dropR.1 hy).2
  · rcases List.mem_append.1 hy with h1 | h1
    · exact h.r _ (mem_dropR.1 h1).1
    · rw [List.mem_singleton] at h1; rw [h1]; exact hx
theorem ROk.set {room : Int} {s : List Rt × Int} (h : ROk s.1) {x : Rt} (hx : 0 ≤ x.r) : ROk (setR room s x).1 := by
  unfold setR
  split
  · exact h.put hx
  · exact h
theorem ROk.one {room router : Int} {loop : Bool} {a : At} {s : List Rt × Int} (h : ROk s.1) (hr : 0 ≤ router) (n : Nl) : ROk (oneR room router loop a s n).1 := by
  unfold oneR
  split
  · exact h.drop _
  · exact h.set hr
theorem ROk.gone {router : Int} {S : List Rt} (h : ROk S) (g : List Nl) : ROk (goneR router g S) := by
  unfold goneR
  induction g generalizing S with
  | nil => exact h
  | cons n g ih => exact ih (h.drop _)
theorem ROk.come {room router : Int} {loop : Bool} {a : At} {s : List Rt × Int} (h : ROk s.1) (hr : 0 ≤ router) (r : List Nl) : ROk (comeR room router loop a r s).1 := by
  unfold comeR
  induction r generalizing s with
  | nil => exact h
  | cons n r ih => exact ih (h.one hr n)
theorem ROk.apply {asn room router : Int} {u : Up} {s : List Rt × Int} (h : ROk s.1) (hr : 0 ≤ router) : ROk (applyR asn room router u s).1 := ROk.come (s := (_, _)) (h.gone _) hr _
theorem ROk.nil : ROk [] := ⟨List.nodup_nil, fun x h => by cases h⟩
theorem goneR_take {router : Int} {S : List Rt} {g : List Nl} {i : Nat} (h : i < g.length) : goneR router (g.take (i + 1)) S = dropR (goneR router (g.take i) S) (router, (g.getD i default).key, (g.getD i default).id) := by
  unfold goneR
  rw [List.take_succ_eq_append_getElem h, List.foldl_append, List.getD_eq_getElem?_getD, List.getElem?_eq_getElem h]
  rfl
theorem comeR_take {room router : Int} {loop : Bool} {a : At} {s : List Rt × Int} {r : List Nl} {i : Nat} (h : i < r.length) : comeR room router loop a (r.take (i + 1)) s = oneR room router loop a (comeR room router loop a (r.take i) s) (r.getD i default) := by
  unfold comeR
  rw [List.take_succ_eq_append_getElem h, List.foldl_append, List.getD_eq_getElem?_getD, List.getElem?_eq_getElem h]
  rfl
/-- one step turns but its own prefix -/
theorem drop_other {S : List Rt} {q : RKey} {x : Rt} (h : x.k ≠ q.2.1) : x ∈ dropR S q ↔ x ∈ S := by
  rw [mem_dropR]
  exact ⟨fun h1 => h1.1, fun h1 => ⟨h1, fun e => h (by rw [← e]; rfl)⟩⟩
theorem one_other {room router : Int} {loop : Bool} {a : At} {s : List Rt × Int} {n : Nl} {x : Rt} (h : x.k ≠ n.key) : x ∈ (oneR room router loop a s n).1 ↔ x ∈ s.1 := by
  unfold oneR
  split
  · exact drop_other h
  · unfold setR
    split
    · show x ∈ dropR s.1 (router, n.key, n.id) ++ [_] ↔ _
      rw [List.mem_append, List.mem_singleton, drop_other (q := (router, n.key, n.id)) h]
      refine ⟨fun h1 => h1.elim id fun e => absurd (by rw [e]) h, .inl⟩
    · exact Iff.rfl
theorem set_len {room : Int} {s : List Rt × Int} {x : Rt} (_h : ROk s.1) : (setR room s x).1.length ≤ s.1.length + 1 := by
  unfold setR
  split
  · show (dropR s.1 x.key ++ [x]).length ≤ _
    rw [List.length_append]
    exact Nat.add_le_add_right (List.length_filter_le _ _) 1
  · exact Nat.le_succ _
theorem one_len {room router : Int} {loop : Bool} {a : At} {s : List Rt × Int} {n : Nl} (h : ROk s.1) : (oneR room router loop a s n).1.length ≤ s.1.length + 1 := by
  unfold oneR
  split
  · exact Nat.le_succ_of_le (List.length_filter_le _ _)
  · exact set_len h
theorem gone_len {router : Int} {g : List Nl} {S : List Rt} : (goneR router g S).length ≤ S.length := by
  unfold goneR
  induction g generalizing S with
  | nil => exact Nat.le_refl _
  | cons n g ih => exact Nat.le_trans ih (List.length_filter_le _ _)
theorem come_len {room router : Int} {loop : Bool} {a : At} {s : List Rt × Int} (h : ROk s.1) (hr : 0 ≤ router) (r : List Nl) : (comeR room router loop a r s).1.length ≤ s.1.length + r.length := by
  unfold comeR
  induction r generalizing s with
  | nil => exact Nat.le_refl _
  | cons n r ih =>
    have h1 := ih (h.one (room := room) (loop := loop) (a := a) hr n)
    have h2 := one_len (room := room) (router := router) (loop := loop) (a := a) (n := n) h
    rw [List.foldl_cons, List.length_cons]
    omega
end Go.Proofs.YtadoflcomienoaaGreat
/- A trie's prefixes in order are those of the sorted list of its things. -/
namespace Go.Proofs.YtadoflcomienoaaGreat.Tm
open Go.RowKit

def ltK (x y : Nat × Nat) : Prop := x.1 < y.1 ∨ (x.1 = y.1 ∧ x.2 < y.2)
theorem ltK_irrefl (x : Nat × Nat) : ¬ ltK x x := by unfold ltK; omega
theorem ltK_trans {x y z : Nat × Nat} (h : ltK x y) (k : ltK y z) : ltK x z := by unfold ltK at *; omega
theorem sorted_ext : ∀ {L M : List (Nat × Nat)}, L.Pairwise ltK → M.Pairwise ltK → (∀ p, p ∈ L ↔ p ∈ M) → L = M
  | [], [], _, _, _ => rfl
  | [], y :: M, _, _, h => absurd ((h y).2 (by simp)) (by simp)
  | x :: L, [], _, _, h => absurd ((h x).1 (by simp)) (by simp)
  | x :: L, y :: M, hL, hM, h => by
    obtain ⟨h1, hL'⟩ := List.pairwise_cons.1 hL
    obtain ⟨h2, hM'⟩ := List.pairwise_cons.1 hM
    have hxy : x = y := by
      have hx := (h x).1 (by simp)
      have hy := (h y).2 (by simp)
      rcases List.mem_cons.1 hx with e | e
      · exact e
      · rcases List.mem_cons.1 hy with e2 | e2
        · exact e2.symm
        · exact absurd (ltK_trans (h1 y e2) (h2 x e)) (ltK_irrefl _)
    subst hxy
    rw [sorted_ext hL' hM' fun p => ?_]
    have hp := h p
    constructor
    · intro hm
      rcases List.mem_cons.1 (hp.1 (by simp [hm])) with e | e
      · subst e; exact absurd (h1 p hm) (ltK_irrefl _)
      · exact e
    · intro hm
      rcases List.mem_cons.1 (hp.2 (by simp [hm])) with e | e
      · subst e; exact absurd (h2 p hm) (ltK_irrefl _)
      · exact e
section
variable {α : Type} {M : Nat → Nat → Option α}
theorem cut_ge {x d a : Nat} (h : cut x d = a) : a ≤ x := h ▸ cut_le x d
theorem mem_trav (hM : ∀ a d, (M a d).isSome → Key a d) : ∀ (f a d : Nat), d + f = 33 → Key a d → ∀ p : Nat × Nat, p ∈ trav M f a d ↔ (M p.1 p.2).isSome ∧ d ≤ p.2 ∧ cut p.1 d = a
  | 0, a, d, hf, hk, p => by have := hk.le; omega
  | f + 1, a, d, hf, hk, p => by
    have hroot : p ∈ (if (M a d).isSome then [(a, d)] else []) ↔ (M p.1 p.2).isSome ∧ p = (a, d) := by
      split
      · rename_i h; simp; rintro rfl; exact h
      · rename_i h; simp; rintro h1 rfl; exact h h1
    rw [trav, List.mem_append, List.mem_append, hroot]
    by_cases hd : d ≤ 31
    · rw [mem_trav hM f _ _ (by omega) (hk.kid hd false), mem_trav hM f _ _ (by omega) (hk.kid hd true)]
      constructor
      · rintro (⟨h1, rfl⟩ | ⟨h1, h2, h3⟩ | ⟨h1, h2, h3⟩)
        · exact ⟨h1, Nat.le_refl _, hk.is⟩
        · exact ⟨h1, by omega, by rw [← cut_cut p.1 (Nat.le_succ d), h3, kid_cut hk hd]⟩
        · exact ⟨h1, by omega, by rw [← cut_cut p.1 (Nat.le_succ d), h3, kid_cut hk hd]⟩
      · rintro ⟨h1, h2, h3⟩
        rcases Nat.eq_or_lt_of_le h2 with h4 | h4
        · refine .inl ⟨h1, ?_⟩
          have := (hM _ _ h1).is
          rw [← h4, h3] at this
          exact Prod.ext this.symm h4.symm
        · refine .inr ?_
          have h5 := cut_kid p.1 hd
          rw [h3] at h5
          cases hb : p.1.testBit (31 - d) with
          | false => rw [hb] at h5; exact .inl ⟨h1, h4, h5⟩
          | true => rw [hb] at h5; exact .inr ⟨h1, h4, h5⟩
    · obtain rfl : f = 0 := by omega
      simp only [trav, List.not_mem_nil, or_false]
      constructor
      · rintro ⟨h1, rfl⟩; exact ⟨h1, Nat.le_refl _, hk.is⟩
      · rintro ⟨h1, h2, h3⟩
        have h6 := hM _ _ h1
        have h7 := h6.le
        have h8 : p.2 = d := by omega
        refine ⟨h1, Prod.ext ?_ h8⟩
        have := h6.is
        rw [h8, h3] at this
        exact this.symm
theorem sorted_trav (hM : ∀ a d, (M a d).isSome → Key a d) : ∀ (f a d : Nat), d + f = 33 → Key a d → (trav M f a d).Pairwise ltK
  | 0, a, d, hf, hk => List.Pairwise.nil
  | f + 1, a, d, hf, hk => by
    rw [trav]
    have hbig : ∀ c, ∀ p ∈ trav M f (kid a d c) (d + 1), a ≤ p.1 ∧ d < p.2 ∧ (c = true → a + 2 ^ (31 - d) ≤ p.1) ∧ (c = false → p.1 < a + 2 ^ (31 - d)) := by
      intro c p hp
      by_cases hd : d ≤ 31
      · obtain ⟨h1, h2, h3⟩ := (mem_trav hM f _ _ (by omega) (hk.kid hd c) p).1 hp
        have h4 := cut_ge h3
        refine ⟨?_, by omega, fun hc => ?_, fun hc => ?_⟩
        · have h9 := pow_pos2 (31 - d)
          cases c
          · exact h4
          · have h4' : a + 2 ^ (31 - d) ≤ p.1 := h4
            omega
        · subst hc; exact h4
        · subst hc
          have h3' : cut p.1 (d + 1) = a := h3
          unfold cut at h3'
          rw [show 32 - (d + 1) = 31 - d by omega] at h3'
          have h5 := Nat.div_add_mod p.1 (2 ^ (31 - d))
          have h6 := Nat.mod_lt p.1 (pow_pos2 (31 - d))
          rw [Nat.mul_comm] at h5
          omega
      · obtain rfl : f = 0 := by omega
        simp [trav] at hp
    have hrec : ∀ c, (trav M f (kid a d c) (d + 1)).Pairwise ltK := by
      intro c
      by_cases hd : d ≤ 31
      · exact sorted_trav hM f _ _ (by omega) (hk.kid hd c)
      · obtain rfl : f = 0 := by omega
        exact List.Pairwise.nil
    refine List.pairwise_append.2 ⟨by split <;> simp, List.pairwise_append.2 ⟨hrec false, hrec true, fun p hp q hq => ?_⟩, fun p hp q hq => ?_⟩
    · have h1 := (hbig false p hp).2.2.2 rfl
      have h2 := (hbig true q hq).2.2.1 rfl
      exact .inl (by omega)
    · have e : p = (a, d) := by
        split at hp
        · simpa using hp
        · cases hp
      subst e
      have h1 : a ≤ q.1 ∧ d < q.2 := by
        rcases List.mem_append.1 hq with h | h
        · exact ⟨(hbig false q h).1, (hbig false q h).2.1⟩
        · exact ⟨(hbig true q h).1, (hbig true q h).2.1⟩
      unfold ltK
      dsimp only
      omega
/-- a list of things in order, and what it says of each prefix -/
structure RefOk (E : List ((Nat × Nat) × α)) (M : Nat → Nat → Option α) : Prop where
  sorted : (E.map (·.1)).Pairwise ltK
  key : ∀ e ∈ E, Key e.1.1 e.1.2
  is : ∀ x d v, M x d = some v ↔ ((x, d), v) ∈ E
theorem RefOk.some {E : List ((Nat × Nat) × α)} (h : RefOk E M) (x d : Nat) : (M x d).isSome ↔ (x, d) ∈ E.map (·.1) := by
  rw [Option.isSome_iff_exists]
  constructor
  · rintro ⟨v, hv⟩; exact List.mem_map.2 ⟨_, (h.is x d v).1 hv, rfl⟩
  · intro hm
    obtain ⟨⟨p, v⟩, h1, h2⟩ := List.mem_map.1 hm
    dsimp only at h2; subst h2
    exact ⟨v, (h.is x d v).2 h1⟩
theorem RefOk.keyM {E : List ((Nat × Nat) × α)} (h : RefOk E M) (x d : Nat) (hs : (M x d).isSome) : Key x d := by
  obtain ⟨v, hv⟩ := Option.isSome_iff_exists.1 hs
  exact h.key _ ((h.is x d v).1 hv)
theorem key_ok {a n : Nat} (h : Key a n) : okP a n = true := by rw [okP_iff]; exact ⟨by omega, by have := h.le; omega, by rw [Int.toNat_natCast]; exact h.is⟩
def heldG (M : Nat → Nat → Option α) (a : Nat) (m : Int) : List (Nat × Nat) := if okP a m then trav M 33 a m.toNat else []
theorem trav_fuel (M : Nat → Nat → Option α) (hM : ∀ a d, (M a d).isSome → Key a d) : ∀ (f a d g : Nat), 33 ≤ d + f → trav M (f + g) a d = trav M f a d := by
  have h0 : ∀ (g a d : Nat), 33 ≤ d → trav M g a d = [] := by
    intro g
    induction g with
    | zero => intro _ _ _; rfl
    | succ g ih =>
      intro a d hd
      have hn : (M a d).isSome = false := by
        cases e : (M a d).isSome with
        | false => rfl
        | true => have := (hM a d e).le; omega
      rw [trav, hn, ih _ _ (by omega), ih _ _ (by omega)]; rfl
  intro f
  induction f with
  | zero => intro a d g hd; rw [h0 _ _ _ (by omega)]; rfl
  | succ f ih =>
    intro a d g hd
    rw [Nat.succ_add, trav, trav, ih _ _ _ (by omega), ih _ _ _ (by omega)]
theorem held_filter {E : List ((Nat × Nat) × α)} (h : RefOk E M) (a : Nat) (m : Int) (ha : a < 4294967296) : heldG M a m = (E.map (·.1)).filter (fun p => inP a m p.1 p.2) := by
  unfold heldG
  cases hok : okP a m with
  | false =>
    have : ∀ p ∈ E.map (·.1), ¬ (inP a m p.1 p.2 = true) := by intro p _; simp [inP, hok]
    simp [List.filter_eq_nil_iff.2 this]
  | true =>
    obtain ⟨h1, h2, h3⟩ := okP_iff.1 hok
    simp only [if_true]
    have hk : Key a m.toNat := ⟨by omega, h3, ha⟩
    have e33 : trav M 33 a m.toNat = trav M (33 - m.toNat) a m.toNat := by
      have := trav_fuel M h.keyM (33 - m.toNat) a m.toNat m.toNat (by omega)
      rwa [show 33 - m.toNat + m.toNat = 33 by omega] at this
    rw [e33]
    refine sorted_ext (sorted_trav h.keyM _ _ _ (by omega) hk) (h.sorted.filter _) fun p => ?_
    rw [mem_trav h.keyM _ _ _ (by omega) hk, List.mem_filter, h.some]
    constructor
    · rintro ⟨h4, h5, h6⟩
      have h7 := key_ok (h.keyM p.1 p.2 ((h.some _ _).2 h4))
      refine ⟨h4, ?_⟩
      unfold inP
      rw [hok, h7]
      simp only [Bool.true_and, Bool.and_eq_true, decide_eq_true_eq]
      exact ⟨by omega, h6⟩
    · rintro ⟨h4, h5⟩
      unfold inP at h5
      simp only [Bool.and_eq_true, decide_eq_true_eq] at h5
      exact ⟨h4, by omega, h5.2⟩
end
end Go.Proofs.YtadoflcomienoaaGreat.Tm
/- Lists of things in order: a thing is set, a thing is taken away. -/
namespace Go.Proofs.YtadoflcomienoaaGreat.Tm
open Go.RowKit

instance (x y : Nat × Nat) : Decidable (ltK x y) := by unfold ltK; exact inferInstance
section
variable {α : Type}
def insE (k : Nat × Nat) (v : α) : List ((Nat × Nat) × α) → List ((Nat × Nat) × α)
  | [] => [(k, v)]
  | e :: r => if ltK e.1 k then e :: insE k v r else if e.1 = k then (k, v) :: r else (k, v) :: e :: r
def delE (k : Nat × Nat) (E : List ((Nat × Nat) × α)) : List ((Nat × Nat) × α) := E.filter (fun e => decide (e.1 ≠ k))
theorem ltK_or {x y : Nat × Nat} (h : ¬ ltK x y) (hn : x ≠ y) : ltK y x := by
  unfold ltK at *
  have : ¬ (x.1 = y.1 ∧ x.2 = y.2) := fun e => hn (Prod.ext e.1 e.2)
  omega
theorem ins_keys (k : Nat × Nat) (v : α) : ∀ (E : List ((Nat × Nat) × α)) (q : Nat × Nat), q ∈ (insE k v E).map (·.1) ↔ q = k ∨ q ∈ E.map (·.1)
  | [], q => by simp [insE]
  | e :: r, q => by
    unfold insE
    split
    · rw [List.map_cons, List.mem_cons, ins_keys k v r q, List.map_cons, List.mem_cons]
      constructor
      · rintro (h | h | h) <;> simp [h]
      · rintro (h | h | h) <;> simp [h]
    · split
      · rename_i h; simp [h]
      · simp
theorem ins_sorted (k : Nat × Nat) (v : α) : ∀ (E : List ((Nat × Nat) × α)), (E.map (·.1)).Pairwise ltK → ((insE k v E).map (·.1)).Pairwise ltK
  | [], _ => by simp [insE]
  | e :: r, h => by
    obtain ⟨h1, h2⟩ := List.pairwise_cons.1 (show (e.1 :: r.map (·.1)).Pairwise ltK from h)
    unfold insE
    split
    · rename_i hl
      refine List.pairwise_cons.2 ⟨fun q hq => ?_, ins_sorted k v r h2⟩
      rcases (ins_keys k v r q).1 hq with rfl | hq
      · exact hl
      · exact h1 q hq
    · rename_i hl
      split
      · rename_i he
        exact List.pairwise_cons.2 ⟨fun q hq => he ▸ h1 q hq, h2⟩
      · rename_i he
        have hk := ltK_or hl he
        refine List.pairwise_cons.2 ⟨fun q hq => ?_, h⟩
        rcases List.mem_cons.1 hq with rfl | hq
        · exact hk
        · exact ltK_trans hk (h1 q hq)
theorem ins_mem (k : Nat × Nat) (v : α) : ∀ (E : List ((Nat × Nat) × α)), (E.map (·.1)).Pairwise ltK → ∀ (q : Nat × Nat) (u : α), (q, u) ∈ insE k v E ↔ if q = k then u = v else (q, u) ∈ E
  | [], _, q, u => by
    unfold insE
    by_cases h : q = k
    · subst h; simp
    · simp [h]
  | e :: r, hs, q, u => by
    obtain ⟨h1, h2⟩ := List.pairwise_cons.1 (show (e.1 :: r.map (·.1)).Pairwise ltK from hs)
    have hnot : ∀ {q : Nat × Nat} {u : α}, (q, u) ∈ r → ltK e.1 q := fun hm => h1 _ (List.mem_map.2 ⟨_, hm, rfl⟩)
    unfold insE
    split
    · rename_i hl
      rw [List.mem_cons, ins_mem k v r h2 q u, List.mem_cons]
      by_cases hq : q = k
      · subst hq
        simp only [if_true]
        constructor
        · rintro (h | h)
          · exact absurd (by rw [← h] at hl; exact hl) (ltK_irrefl _)
          · exact h
        · exact .inr
      · simp only [if_neg hq]
    · rename_i hl
      split
      · rename_i he
        rw [List.mem_cons, List.mem_cons]
        by_cases hq : q = k
        · subst hq
          simp only [if_true]
          constructor
          · rintro (h | h)
            · injection h
            · exact absurd (he ▸ hnot h) (ltK_irrefl _)
          · intro h; exact .inl (by rw [h])
        · simp only [if_neg hq]
          constructor
          · rintro (h | h)
            · exact absurd (Prod.mk.inj h).1 hq
            · exact .inr h
          · rintro (h | h)
            · exact absurd (by rw [← he, ← h]) hq
            · exact .inr h
      · rename_i he
        have hk := ltK_or hl he
        rw [List.mem_cons]
        by_cases hq : q = k
        · subst hq
          simp only [if_true]
          constructor
          · rintro (h | h)
            · injection h
            · rcases List.mem_cons.1 h with h | h
              · exact absurd (by rw [← h]) he
              · exact absurd (ltK_trans hk (hnot h)) (ltK_irrefl _)
          · intro h; exact .inl (by rw [h])
        · simp only [if_neg hq]
          constructor
          · rintro (h | h)
            · exact absurd (Prod.mk.inj h).1 hq
            · exact h
          · exact .inr
variable {M : Nat → Nat → Option α}
theorem RefOk.nil : RefOk ([] : List ((Nat × Nat) × α)) (fun _ _ => none) := ⟨List.Pairwise.nil, by simp, by simp⟩
theorem RefOk.put {E : List ((Nat × Nat) × α)} (h : RefOk E M) {k : Nat × Nat} (hk : Key k.1 k.2) (v : α) : RefOk (insE k v E) (upd M k.1 k.2 (Option.some v)) := by
  refine ⟨ins_sorted k v E h.sorted, fun e he => ?_, fun x d u => ?_⟩
  · rcases (ins_keys k v E e.1).1 (List.mem_map.2 ⟨e, he, rfl⟩) with h1 | h1
    · rw [h1]; exact hk
    · obtain ⟨e2, h2, h3⟩ := List.mem_map.1 h1
      rw [← h3]; exact h.key e2 h2
  · rw [ins_mem k v E h.sorted]
    by_cases hq : (x, d) = k
    · subst hq
      simp only [upd_same, if_true, Option.some.injEq]
      exact eq_comm
    · rw [upd_other _ _ (fun e => hq (Prod.ext e.1 e.2)), if_neg hq, h.is]
theorem del_keys (k : Nat × Nat) (E : List ((Nat × Nat) × α)) : (delE k E).map (·.1) = (E.map (·.1)).filter (fun q => decide (q ≠ k)) := by
  unfold delE
  induction E with
  | nil => rfl
  | cons e r ih =>
    simp only [List.filter_cons, List.map_cons]
    split <;> simp_all
theorem RefOk.del {E : List ((Nat × Nat) × α)} (h : RefOk E M) (k : Nat × Nat) : RefOk (delE k E) (upd M k.1 k.2 none) := by
  refine ⟨by rw [del_keys]; exact h.sorted.filter _, fun e he => h.key e (List.mem_filter.1 he).1, fun x d u => ?_⟩
  unfold delE
  rw [List.mem_filter]
  by_cases hq : (x, d) = k
  · subst hq; simp [upd_same]
  · rw [upd_other _ _ (fun e => hq (Prod.ext e.1 e.2)), h.is]
    simp [hq]
theorem ins_length (k : Nat × Nat) (v : α) : ∀ (E : List ((Nat × Nat) × α)), (E.map (·.1)).Pairwise ltK → (insE k v E).length = if k ∈ E.map (·.1) then E.length else E.length + 1
  | [], _ => by simp [insE]
  | e :: r, hs => by
    obtain ⟨h1, h2⟩ := List.pairwise_cons.1 (show (e.1 :: r.map (·.1)).Pairwise ltK from hs)
    unfold insE
    split
    · rename_i hl
      have hne : k ≠ e.1 := fun h => ltK_irrefl _ (h ▸ hl)
      rw [List.length_cons, ins_length k v r h2, List.map_cons]
      have : (k ∈ e.1 :: r.map (·.1)) ↔ k ∈ r.map (·.1) := by simp [hne]
      simp only [this]
      split <;> simp
    · rename_i hl
      split
      · rename_i he; rw [if_pos (by simp [he])]; rfl
      · rename_i he
        have hk := ltK_or hl he
        rw [if_neg]
        · rfl
        · rw [List.map_cons, List.mem_cons]
          rintro (h | h)
          · exact he h.symm
          · exact ltK_irrefl _ (ltK_trans hk (h1 _ h))
theorem del_length (k : Nat × Nat) : ∀ (E : List ((Nat × Nat) × α)), (E.map (·.1)).Pairwise ltK → (delE k E).length + (if k ∈ E.map (·.1) then 1 else 0) = E.length
  | [], _ => by simp [delE]
  | e :: r, hs => by
    obtain ⟨h1, h2⟩ := List.pairwise_cons.1 (show (e.1 :: r.map (·.1)).Pairwise ltK from hs)
    have ih := del_length k r h2
    unfold delE at *
    rw [List.filter_cons, List.map_cons]
    by_cases he : e.1 = k
    · have hn : k ∉ r.map (·.1) := fun h => ltK_irrefl _ (h1 k h |> fun x => he ▸ x)
      rw [if_neg hn] at ih
      simp [he] at ih ⊢
      exact ih
    · have : (k ∈ e.1 :: r.map (·.1)) ↔ k ∈ r.map (·.1) := by simp [Ne.symm he]
      simp only [this]
      simp only [ne_eq] at ih
      simp only [he, ne_eq, not_false_eq_true, decide_true, if_true, List.length_cons]
      omega
theorem RefOk.in00 {E : List ((Nat × Nat) × α)} (h : RefOk E M) : (E.map (·.1)).filter (fun p => inP 0 0 p.1 p.2) = E.map (·.1) := by
  refine List.filter_eq_self.2 fun p hp => ?_
  obtain ⟨e, he, rfl⟩ := List.mem_map.1 hp
  have hk := h.key e he
  unfold inP
  rw [key_ok hk, show okP 0 0 = true by decide]
  simp [cut_0 hk.lt]
end
end Go.Proofs.YtadoflcomienoaaGreat.Tm
