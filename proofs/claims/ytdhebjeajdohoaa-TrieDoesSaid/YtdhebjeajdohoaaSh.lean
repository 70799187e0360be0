/- Within, Prefixes. -/
import Derived.Test.YtdhebjeajdohoaaSg
namespace Go.Proofs.Ytdhebjeajdohoaa
open Go.RowKit Go.Shelf
attribute [local go_sem] Oper.semAt_some

set_option maxRecDepth 100000 in
set_option maxHeartbeats 4000000 in
theorem withinS_gen (p : Option Addr) (a : Nat) (m : Int) (L : List (Nat × Nat)) (hL : L.length ≤ 4294967296) (w : World)
    (hS : ∀ W0, W0 = ((((w.alloc (.cells #[.int .u32 a, .int .i64 m] 32)).alloc (.cells #[.slice none 0 0] 41)).alloc (.cells #[.pointer p] 63)).alloc (.cells #[.int .u32 a, .int .i64 m] 32)) → ∀ k, SeqStopsK Fence.wide k Try.prog 61 #[.pointer (some ⟨w.heap.size + 1 + 1, 0, none⟩), .pointer (some ⟨w.heap.size + 1 + 1 + 1, 0, none⟩)] (fun x : Nat × Nat => #[pfx x.1 x.2]) (Kp (w.heap.size + 1)) (fun ys => ys = L) (fun pre => pre <+: L) L.length W0) :
    CallsIn Fence.wide 5 Try.prog 31 #[.pointer p, pfx a m] w fun e w' => ∃ v, e = .returned v ∧ RP.Own w' w.heap.size v L ∧ Below w.heap.size w w' := by
  have h1 : 1 ≤ 5 := by omega
  have HA := Lib.hid (allS_any p a m)
  unfold pfx at HA ⊢
  obtain ⟨i0, hi, hz0, hz1, hz2⟩ := info_parts info32
  refine callsIn_of_wp_marks Try.func31 rfl trivial ?_ rfl
  simp only [Try.ntmps31, List.size_toArray, List.length_cons, List.length_nil, Nat.reduceAdd, Nat.reduceSub, Array.replicate_succ, Array.replicate_zero, List.push_toArray, List.append_toArray, List.nil_append, List.cons_append]
  gi_wp2_with (refine ⟨trivial, ?_⟩; gi_at_call 50; refine (callsIn_wide.2 (HA.out _)).mono ?_; rintro e w' ⟨rfl, rfl⟩)
  have hB0 : Below w.heap.size w ((((w.alloc (.cells #[.int .u32 a, .int .i64 m] 32)).alloc (.cells #[.slice none 0 0] 41)).alloc (.cells #[.pointer p] 63)).alloc (.cells #[.int .u32 a, .int .i64 m] 32)) := ((((Below.refl _ w).alloc (Nat.le_refl _) _).alloc (by simp) _).alloc (by simp; omega) _).alloc (by simp; omega) _
  have bO : Boxed ((((w.alloc (.cells #[.int .u32 a, .int .i64 m] 32)).alloc (.cells #[.slice none 0 0] 41)).alloc (.cells #[.pointer p] 63)).alloc (.cells #[.int .u32 a, .int .i64 m] 32)) (w.heap.size + 1) 41 (.slice none 0 0) := hold (hold (hnewAt (by simp)))
  have hsz : ((((w.alloc (.cells #[.int .u32 a, .int .i64 m] 32)).alloc (.cells #[.slice none 0 0] 41)).alloc (.cells #[.pointer p] 63)).alloc (.cells #[.int .u32 a, .int .i64 m] 32)).heap.size = w.heap.size + 4 := by simp
  have hS1 := hS _ rfl
  generalize (((w.alloc (.cells #[.int .u32 a, .int .i64 m] 32)).alloc (.cells #[.slice none 0 0] 41)).alloc (.cells #[.pointer p] 63)).alloc (.cells #[.int .u32 a, .int .i64 m] 32) = W0 at hB0 bO hsz hS1 ⊢
  clear hS HA
  refine wpIn_rangeFunc_ownH rfl h1 (gf := 61) (lb := #[.pointer (some ⟨w.heap.size + 1 + 1, 0, none⟩), .pointer (some ⟨w.heap.size + 1 + 1 + 1, 0, none⟩)]) rfl trivial (enters_of Try.func61 (by kernel_rfl) rfl)
    (hS1 4) Kp.trans (fun W l o o' hl h hc _ => Kp.putObj o' (by omega) h hc) (Below.refl _ _) (fun _ => rfl)
    (fun pre W => (∃ v, Boxed W (w.heap.size + 1) 41 v ∧ W.ownsRow w.heap.size 32 2 v pre.length (RP.flat pre)) ∧ Below w.heap.size w W)
    (fun _ _ _ => False)
    (OwnFrom.and (Own.from (fun s X Y row hs hg hr => by
      obtain ⟨v, h1, h2, -⟩ := holdsRow_own w.heap.size (w.heap.size + 1) 41 32 2 (fun pre : List (Nat × Nat) => pre.length) (fun pre => RP.flat pre) (fun _ _ => True) s X Y row (by obtain ⟨v, h1, h2⟩ := hs; exact ⟨v, h1, h2, trivial⟩) hg hr
      exact ⟨v, h1, h2⟩) _) (ownFrom_below (Nat.le_refl _) (by omega)))
    (fun _ _ _ _ _ hs _ _ => hs)
    ⟨⟨_, bO, World.ownsRow_nil _ _ _ _⟩, hB0⟩
    (fun x a' W => ∃ Bx, W.heap[Bx]? = some (.cells #[.int .u32 x.1, .int .i64 x.2] 32) ∧ a' = { tmps := #[.pointer p, .agg #[.int .u32 a, .int .i64 m], undef, .pointer (some ⟨w.heap.size, 0, none⟩), .slice none 0 0, .pointer (some ⟨w.heap.size + 1, 0, none⟩), .pointer (some ⟨Bx, 0, none⟩), .pointer p, .agg #[.int .u32 a, .int .i64 m], .func (.func 61) #[] #[.pointer (some ⟨w.heap.size + 1 + 1, 0, none⟩), .pointer (some ⟨w.heap.size + 1 + 1 + 1, 0, none⟩)], .agg #[.int .u32 x.1, .int .i64 x.2], undef, undef, undef, undef, undef], defers := [] })
    (fun x a' _ X Y row hs hg hr => by
      obtain ⟨Bx, h1, h2⟩ := hs
      refine ⟨Bx, (hg.block Bx (lt_of_blk h1) (fun e => ?_)).trans h1, h2⟩
      obtain ⟨_, o, ho, hc⟩ := hr Bx e.symm
      rw [h1] at ho; cases ho; cases hc)
    ?assign ?body ?done ?stop
  case assign =>
    rintro l pre x W K ⟨⟨v, hv, hrow⟩, hB1⟩ hK
    dsimp only [pfx]
    gi_wp2
    exact hK _ _ ((KeepsOthers.alloc _ _).from _) (Kp.of_below hv.lt ((Below.refl _ W).alloc (Nat.le_refl _) _)) ⟨⟨v, hv.alloc _, hrow.alloc _⟩, hB1.alloc hB1.size _⟩ ⟨W.heap.size, hnew _ _, rfl⟩
  case body =>
    rintro l pre x a' W hl _ ⟨⟨v, hv, hrow⟩, hB1⟩ ⟨Bx, hbx, rfl⟩ hlt
    have hc := hv.cell
    have d0 : W.cell? ⟨Bx, 0, none⟩ = some (.int .u32 x.1) := cell_of hbx rfl
    have d1 : W.cell? ⟨Bx, 1, none⟩ = some (.int .i64 x.2) := cell_of hbx rfl
    have hsW := hB1.size
    clear hS1 hbx hB0 bO
    gi_wp2_with (gi_at_builtin; refine wpListIn_append_blk _ rfl _ _ 41 rfl w.heap.size 32 i0 (.agg #[.int .u32 0, .int .i64 0]) 2 16 Try.underlying41 hi hz0 hz1 hz2 rfl (by decide) _ _ _ rfl (hrow.alloc _) ⟨W.heap.size, 0, none⟩ 1 1 [.int .u32 x.1, .int .i64 x.2] rfl rfl (cell_two_new _ _ _ _) (by simp [Value.oneCell']) (by omega) (by unfold maxLen; omega) (by omega) (by simp; omega) ?_; intro v' w1 hown' hgrow hblk; obtain ⟨g', cap', rfl⟩ := ownsRow_succ hown'; obtain ⟨hv1, hv2, hr2, hk2, hb2⟩ := hv.appended (by decide) hrow hsW (by omega) hown' hgrow; have hkp := Kp.appended hv (by decide) hrow hown' hgrow hblk; have hc1 := hv1.cell; have hf1 := hv1.frozen)
    exact ⟨hk2.from _, hkp, ⟨⟨_, hv2, by rw [RP.flat_append, RP.flat_one, List.length_append]; exact hr2⟩, hB1.trans hb2⟩⟩
  case done =>
    rintro D zs W hD rfl ⟨⟨v, hv, hrow⟩, hB1⟩ hK
    have hc := hv.cell
    gi_wp2
    refine ⟨by simp, .inl ⟨_, _, rfl, run_takeDeferred hK, ?_⟩⟩
    exact ⟨_, results_tmp rfl _ _ _, v, rfl, ownsRow_putObj hrow _ hK rfl, hB1.trans (belowK_b (w := w) (Nat.le_refl _) W D _ _ (by omega) hK rfl rfl)⟩
  case stop =>
    rintro D c pre W _ _ h _
    exact h.elim
theorem withinS_any {w : World} {b n : Nat} {N : Nat → Nat → Option Nat} {M : Nat → Nat → Option ByteArray} (h : TrieS w b N n M) (a : Nat) (m : Int) (ha : a < 4294967296) (hL : (heldS M a m).length ≤ 4294967296) :
    Calls Try.prog 31 #[.pointer (some ⟨b, 0, none⟩), pfx a m] w fun e w' => ∃ v, e = .returned v ∧ RP.Own w' w.heap.size v (heldS M a m) ∧ Below w.heap.size w w' := by
  refine callsIn_wide.1 (withinS_gen (some ⟨b, 0, none⟩) a m _ hL w fun W0 hW0 k => ?_)
  have hbl : Below w.heap.size w W0 := by rw [hW0]; exact ((((Below.refl _ w).alloc (Nat.le_refl _) _).alloc (by simp) _).alloc (by simp; omega) _).alloc (by simp; omega) _
  have hO : Boxed W0 (w.heap.size + 1) 41 (.slice none 0 0) := by rw [hW0]; exact hold (hold (hnewAt (by simp)))
  refine allS_stops (w.heap.size + 1) a m ha b n N M W0 (w.heap.size + 1 + 1) (w.heap.size + 1 + 1 + 1) (by rw [hW0]; exact hold (hnewAt (by simp))) (by rw [hW0]; exact hnewAt (by simp)) ⟨h.below hbl, fun q hq => ⟨by have := h.lt hq; omega, ownAt_nil hO⟩, hO.lt, fun q hq => absurd hq (ownAt_nil hO)⟩ k
theorem withinS_nil (a : Nat) (m : Int) (w : World) :
    Calls Try.prog 31 #[.pointer none, pfx a m] w fun e w' => ∃ v, e = .returned v ∧ RP.Own w' w.heap.size v [] ∧ Below w.heap.size w w' := by
  refine callsIn_wide.1 (withinS_gen none a m [] (by simp) w fun W0 hW0 k => ?_)
  refine allS_stops_nil (w.heap.size + 1) a m W0 (by rw [hW0]; simp) (w.heap.size + 1 + 1) (w.heap.size + 1 + 1 + 1) (by rw [hW0]; exact hold (hnewAt (by simp))) (by rw [hW0]; exact hnewAt (by simp)) k
theorem prefixesS_any {w : World} {b n : Nat} {N : Nat → Nat → Option Nat} {M : Nat → Nat → Option ByteArray} (h : TrieS w b N n M) (hL : (heldS M 0 0).length ≤ 4294967296) :
    Calls Try.prog 35 #[.pointer (some ⟨b, 0, none⟩)] w fun e w' => ∃ v, e = .returned v ∧ RP.Own w' w.heap.size v (heldS M 0 0) ∧ Below w.heap.size w w' := by
  have HW := Lib.hid (withinS_any h 0 0 (by decide) hL)
  unfold pfx at HW
  clear h hL
  go_enter Try.func35, Try.ntmps35
  go_wp2_with (go_at_call 31; refine (HW.out).mono ?_; rintro e w1 ⟨v, rfl, hown, hb⟩)
  go_ret
  exact ⟨v, rfl, hown, hb⟩
theorem prefixesS_nil (w : World) :
    Calls Try.prog 35 #[.pointer none] w fun e w' => ∃ v, e = .returned v ∧ RP.Own w' w.heap.size v [] ∧ Below w.heap.size w w' := by
  have HW := Lib.hid (withinS_nil 0 0 w)
  unfold pfx at HW
  go_enter Try.func35, Try.ntmps35
  go_wp2_with (go_at_call 31; refine (HW.out).mono ?_; rintro e w1 ⟨v, rfl, hown, hb⟩)
  go_ret
  exact ⟨v, rfl, hown, hb⟩
end Go.Proofs.Ytdhebjeajdohoaa
