/- all: the iterator's contract. -/
import Derived.Test.YtdhebjeajdohoaaIf
import Derived.Test.YtdhebjeajdohoaaTp
namespace Go.Proofs.Ytdhebjeajdohoaa
open Go.RowKit Go.Shelf
attribute [local go_sem] Oper.semAt_some

theorem allI_any (p : Option Addr) (a : Nat) (m : Int) (w : World) : Calls Try.prog 45 #[.pointer p, pfx a m] w fun e w' => e = .returned (.func (.func 56) #[] #[.pointer (some ⟨w.heap.size, 0, none⟩), .pointer (some ⟨w.heap.size + 1, 0, none⟩)]) ∧ w' = (w.alloc (.cells #[.pointer p] 24)).alloc (.cells #[.int .u32 a, .int .i64 m] 32) := by
  unfold pfx
  go_enter Try.func45, Try.ntmps45
  go_wp2_with fail
  go_ret
  exact ⟨rfl, rfl⟩
/-- what a prefix holds, of a trie -/
def heldI (M : Nat → Nat → Option Int) (a : Nat) (m : Int) : List (Nat × Nat) := if okP a m then trav M 33 a m.toNat else []
set_option maxRecDepth 100000 in
set_option maxHeartbeats 4000000 in
theorem all1I_gen (l B : Nat) (J Jx : List (Nat × Nat) → World → Prop) (a : Nat) (m : Int) (p : Option Addr) (o : Option Nat) (L : List (Nat × Nat)) (W : World) (t1 t2 : Nat) (ht1 : W.heap[t1]? = some (.cells #[.pointer p] 24)) (ht2 : W.heap[t2]? = some (.cells #[.int .u32 a, .int .i64 m] 32))
    (hF : ∀ W', Below W.heap.size W W' → Calls Try.prog 41 #[.pointer p, pfx a m] W' fun e W2 => e = .returned (ptr o) ∧ Below W'.heap.size W' W2)
    (hW : ∀ W', Below W.heap.size W W' → CallsIn Fence.wide 0 Try.prog 57 #[ptr o, .agg #[.int .u32 a, .int .i64 m], .func (.yield l) #[] #[]] W' fun e W2 => WalkRI B J Jx [] L W' e W2) :
    Calls Try.prog 56 #[.func (.yield l) #[] #[], .pointer (some ⟨t1, 0, none⟩), .pointer (some ⟨t2, 0, none⟩)] W fun e W' => (∃ v, e = .returned v) ∧ ((∃ ys, ys = L ∧ J ys W') ∨ (∃ pre, pre <+: L ∧ Jx pre W')) := by
  have HF := Lib.hid hF
  have HW := Lib.hid hW
  have l1 := lt_of_blk ht1
  have l2 := lt_of_blk ht2
  have H1 := Lib.hid (And.intro ht1 ht2)
  clear hF hW ht1 ht2
  unfold pfx at HF
  unfold ptr at HF HW
  go_enter Try.func56, Try.ntmps56
  go_wp2_with fail
  refine wp_region_quiet_tail (fun w' => Below W.heap.size W w') 5 (by kernel_rfl) (by kernel_rfl) (Below.drew (Below.refl _ _)) ?_
  simp only [List.take_succ_cons, List.take_zero, List.drop_succ_cons, List.drop_zero]
  iterate 5 ((with_reducible refine wpQuiet_step (fun K hK => ?_)); go_simp; first | ((with_reducible refine hK _ ?_); clear hK K) | (apply Exists.intro; (with_reducible refine ⟨fun w' hw' => ?_, hK _ ?_⟩); first | (go_at_call 41; (with_reducible refine (HF.out w' hw').mono ?_); rintro e w2 ⟨rfl, hb⟩; exact ⟨rfl, hw'.trans (hb.mono hw'.size)⟩) | (have b1 := (hw'.block t1 l1).trans H1.out.1; have b2 := (hw'.block t2 l2).trans H1.out.2; have d0 : w'.cell? ⟨t1, 0, none⟩ = some (.pointer p) := cell_of b1 rfl; have d1 : w'.cell? ⟨t2, 0, none⟩ = some (.int .u32 a) := cell_of b2 rfl; have d2 : w'.cell? ⟨t2, 1, none⟩ = some (.int .i64 m) := cell_of b2 rfl; clear b1 b2; go_simp; first | exact rfl | exact ⟨rfl, rfl⟩); clear hK K))
  refine wpQuiet_nil ?_
  intro wq hq
  have HQ := Lib.hid hq
  clear hq
  go_wp2_with (go_at_call 57; refine (callsIn_wide.1 (HW.out wq HQ.out)).mono ?_; rintro e4 w4 (⟨rfl, hJ4, hk4⟩ | ⟨rfl, q, hq, hx4⟩))
  · go_end0
    exact ⟨⟨_, rfl⟩, .inl ⟨_, rfl, by simpa using hJ4⟩⟩
  · go_end0
    exact ⟨⟨_, rfl⟩, .inr ⟨q, hq, by simpa using hx4⟩⟩
/-- all HANDS BACK what yields what a prefix holds -/
theorem allI_stops (B : Nat) (a : Nat) (m : Int) (ha : a < 4294967296) (b n : Nat) (N : Nat → Nat → Option Nat) (M : Nat → Nat → Option Int) (w : World) (t1 t2 : Nat) (ht1 : w.heap[t1]? = some (.cells #[.pointer (some ⟨b, 0, none⟩)] 24)) (ht2 : w.heap[t2]? = some (.cells #[.int .u32 a, .int .i64 m] 32)) (hr : RdyI B w b N n M) (k : Nat) :
    SeqStopsK Fence.wide k Try.prog 56 #[.pointer (some ⟨t1, 0, none⟩), .pointer (some ⟨t2, 0, none⟩)] (fun x : Nat × Nat => #[pfx x.1 x.2]) (Kp B) (fun ys => ys = heldI M a m) (fun pre => pre <+: heldI M a m) (heldI M a m).length w := fun l J Jx W hW hJ _ hY h0 => by
  have hrW := hr.kp (Kp.of_below hr.box hW)
  refine callsIn_wide.2 (all1I_gen l B J Jx a m _ (if okP a m then N a m.toNat else none) (heldI M a m) W t1 t2 ((hW.block _ (lt_of_blk ht1)).trans ht1) ((hW.block _ (lt_of_blk ht2)).trans ht2) (fun W' hb => findI_any (hrW.kp (Kp.of_below hrW.box hb)).trie a m ha) (fun W' hb => ?_))
  have hr' := hrW.kp (Kp.of_below hrW.box hb)
  unfold heldI at hY ⊢
  cases hok : okP a m with
  | false => exact walkI_nil l _ B J Jx _ hJ a m rfl [] W' hr'.box (abides_below hJ h0 hb) 0
  | true =>
    obtain ⟨h1, h2, h3⟩ := okP_iff.1 hok
    rw [hok] at hY
    simp only [if_true] at hY ⊢
    refine walkI_in l B J Jx _ hJ (trav M 33 a m.toNat).length b n N M (fun k' pre x W1 hj hl => YieldAt.anyDepth rfl k' (hY pre x W1 hj hl)) 33 a m.toNat a m [] W' 0 (by omega) hr' (.inl ⟨by omega, h3, ha⟩) (fun _ => ⟨rfl, by omega⟩) (abides_below hJ h0 hb) (by simp)
theorem allI_stops_nil (B : Nat) (a : Nat) (m : Int) (w : World) (hB : B < w.heap.size) (t1 t2 : Nat) (ht1 : w.heap[t1]? = some (.cells #[.pointer none] 24)) (ht2 : w.heap[t2]? = some (.cells #[.int .u32 a, .int .i64 m] 32)) (k : Nat) :
    SeqStopsK Fence.wide k Try.prog 56 #[.pointer (some ⟨t1, 0, none⟩), .pointer (some ⟨t2, 0, none⟩)] (fun x : Nat × Nat => #[pfx x.1 x.2]) (Kp B) (fun ys => ys = []) (fun pre => pre <+: []) 0 w := fun l J Jx W hW hJ _ _ h0 => by
  refine callsIn_wide.2 (all1I_gen l B J Jx a m _ none [] W t1 t2 ((hW.block _ (lt_of_blk ht1)).trans ht1) ((hW.block _ (lt_of_blk ht2)).trans ht2) (fun W' hb => findI_nil a m W') (fun W' hb => ?_))
  exact walkI_nil l _ B J Jx _ hJ a m rfl [] W' (Nat.lt_of_lt_of_le hB (Nat.le_trans hW.size hb.size)) (abides_below hJ h0 hb) 0
end Go.Proofs.Ytdhebjeajdohoaa
