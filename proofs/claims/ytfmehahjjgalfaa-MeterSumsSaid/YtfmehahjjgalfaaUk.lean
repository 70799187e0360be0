/- One, Same of chapter 17; meters of one prefix. -/
import Derived.Test.YtfmehahjjgalfaaUj
import Derived.Test.YtfmehahjjgalfaaDk
namespace Go.Proofs.Ytfmehahjjgalfaa.Me
open Go.RowKit

theorem ten0 (w : World) : Calls Try.prog 60 #[.int .i64 0] w fun e w' => e = .returned (.agg #[.int .u32 167772160, .int .i64 16]) ∧ Below w.heap.size w w' := by
  have hb : bits .and .i64 0 255 = 0 := by decide
  have HB := Lib.hid ((Below.refl w.heap.size w).alloc (Nat.le_refl _) (.cells #[.int .u32 167772160, .int .i64 16] 58))
  go_enter Try.func60, Try.ntmps60
  go_wp2_with fail
  refine ret_cell (b := w.heap.size) rfl rfl rfl (hnew _ _) Try.underlying58 rfl (by kernel_rfl) ?_
  exact ⟨rfl, HB.out⟩
theorem RCt.one {w : World} {b : Nat} {k : PK} {n : Int} {T : TypeId} (h : w.heap[b]? = some (.cells #[.int .u32 (k.1 : Int), .int .i64 k.2, .int .i64 n] T)) : RCt.Sl w (some ⟨b, 0, none⟩) 1 1 [⟨k, n⟩] := Rep.sl_one (R := RCt) (y := ⟨k, n⟩) h
set_option maxRecDepth 100000 in
set_option maxHeartbeats 1000000 in
theorem one_any (s q : Int) (k : PK) (n : Int) (w : World) : Calls Try.prog 59 #[.int .i64 s, .int .i64 q, .agg #[.int .u32 (k.1 : Int), .int .i64 k.2], .int .i64 n] w fun e w' => ∃ b, e = .returned (.agg #[.int .i64 s, .int .i64 q, .slice (some ⟨b, 0, none⟩) 1 1]) ∧ RCt.Sl w' (some ⟨b, 0, none⟩) 1 1 [⟨k, n⟩] ∧ Below w.heap.size w w' := by
  have hal := ((Below.refl w.heap.size w).alloc (Nat.le_refl _) (.cells #[.int .u32 (k.1 : Int), .int .i64 k.2] 58)).alloc (by simp) (.cells #[.int .i64 0, .int .i64 0, .slice none 0 0] 82)
  have h1 : BxP w.heap.size k ((w.alloc (.cells #[.int .u32 (k.1 : Int), .int .i64 k.2] 58)).alloc (.cells #[.int .i64 0, .int .i64 0, .slice none 0 0] 82)) := hold (hnew _ _)
  have h2 : ((w.alloc (.cells #[.int .u32 (k.1 : Int), .int .i64 k.2] 58)).alloc (.cells #[.int .i64 0, .int .i64 0, .slice none 0 0] 82)).heap[w.heap.size + 1]? = some (.cells #[.int .i64 0, .int .i64 0, .slice none 0 0] 82) := hnewAt (by simp)
  obtain ⟨x0, x1⟩ := h1.cells
  have F := Lib.hid (And.intro hal h2)
  clear hal h1 h2
  go_enter Try.func59, Try.ntmps59
  go_wp2_with (with_reducible refine halt_store 82 (x := .tmp 8) rfl ?_)
  refine Halted.go ?_
  obtain ⟨W1, hW1⟩ : ∃ W, (w.alloc (.cells #[.int .u32 (k.1 : Int), .int .i64 k.2] 58)).alloc (.cells #[.int .i64 0, .int .i64 0, .slice none 0 0] 82) = W := ⟨_, rfl⟩
  obtain ⟨qr, hqr⟩ : ∃ q, w.heap.size + 1 = q := ⟨_, rfl⟩
  have F1 := Lib.hid (show Below w.heap.size w W1 ∧ W1.heap[qr]? = some (.cells #[.int .i64 0, .int .i64 0, .slice none 0 0] 82) from hqr ▸ hW1 ▸ F.out)
  have hs1 : W1.heap.size = qr + 1 := by rw [← hW1, ← hqr]; simp
  simp only [hW1, hqr]
  clear F x0 x1
  have hal := (Below.refl W1.heap.size W1).alloc (Nat.le_refl _) (.cells #[.int .u32 (k.1 : Int), .int .i64 k.2, .int .i64 n] 128)
  have hc : (W1.alloc (.cells #[.int .u32 (k.1 : Int), .int .i64 k.2, .int .i64 n] 128)).heap[qr + 1]? = some (.cells #[.int .u32 (k.1 : Int), .int .i64 k.2, .int .i64 n] 128) := hnewAt hs1.symm
  refine store_whole rfl 82 _ _ rfl qr #[.int .i64 s, .int .i64 q, .slice (some ⟨qr + 1, 0, none⟩) 1 1] rfl rfl ((hal.block _ (lt_of_blk F1.out.2)).trans F1.out.2) rfl (by kernel_rfl) (by simp [Value.oneCell']) ?_
  intro Wz hwz hsz
  have hne : qr + 1 ≠ qr := by omega
  have HZ := Lib.hid (And.intro hwz (And.intro ((hsz.other hne).trans hc) ((bcall F1.out.1 (Nat.le_refl _) hal).trans (hsz.below (show w.heap.size ≤ qr from by omega)))))
  clear hwz hsz hal hc hne
  go_wp2_with fail
  refine ret_cell rfl rfl rfl HZ.out.1 Try.underlying82 rfl (by kernel_rfl) ?_
  exact ⟨_, rfl, RCt.one HZ.out.2.1, HZ.out.2.2⟩
set_option maxRecDepth 100000 in
theorem same17 {w : World} {oa ob : Option Addr} {n ca cb : Nat} {l : List Ct} (h1 : RCt.Sl w oa n ca l) (h2 : RCt.Sl w ob n cb l) : Calls Try.prog 54 #[.slice oa n ca, .slice ob n cb] w fun e w' => e = .returned (.bool true) ∧ Below w.heap.size w w' := by
  have hmax := h1.max
  have F := Lib.hid (And.intro h1 h2)
  clear h1 h2
  go_enter Try.func54, Try.ntmps54
  go_wp2_with fail
  go_loopw [5] (fun iv wr => ∃ i : Nat, i ≤ n ∧ iv = .int .i64 i ∧ Below w.heap.size w wr) (fun iv _ => n - (intOf iv).toNat)
  case atStart => exact ⟨0, Nat.zero_le _, rfl, Below.refl _ _⟩
  case round =>
    obtain ⟨i, hi, rfl, hb⟩ := hrel
    obtain ⟨w2, rfl⟩ : ∃ w2 : World, w2 = wr := ⟨_, rfl⟩
    by_cases hlt : i < n
    · have hil : ((i : Int) < (n : Int)) = True := by simp; omega
      have hi0 : ((0 : Int) ≤ (i : Int)) = True := by simp
      have hw3 := wrapS hlt hmax
      obtain ⟨b0, o0, rfl, hbb, hat⟩ := (F.out.1.keep hb).at hlt
      obtain ⟨b1, o1, rfl, hbb1, hat1⟩ := (F.out.2.keep hb).at hlt
      generalize l.getD i default = x at *
      have c0 := hat 0 (by decide)
      have c1 := hat 1 (by decide)
      have c2 := hat 2 (by decide)
      have d0 := hat1 0 (by decide)
      have d1 := hat1 1 (by decide)
      have d2 := hat1 2 (by decide)
      simp only [RCt, Nat.add_zero, List.getElem?_cons_zero, List.getElem?_cons_succ] at c0 c1 c2 d0 d1 d2
      have HB := Lib.hid hb.drew
      clear hb hat hat1 hbb hbb1
      go_wp2_with fail
      refine wp_region_quiet_tail (fun w' => w' = w2.drew) 8 (by kernel_rfl) (by kernel_rfl) rfl ?_
      simp only [List.take_succ_cons, List.take_zero, List.drop_succ_cons, List.drop_zero]
      iterate 8 ((with_reducible refine wpQuiet_step (fun K hK => ?_)); go_simp; first | (rw [if_neg (by decide)]; (with_reducible refine hK _ ?_); clear hK K) | ((with_reducible refine hK _ ?_); clear hK K) | (apply Exists.intro; (with_reducible refine ⟨fun w' hw' => ?_, hK _ ?_⟩); (subst hw'; first | (go_simp; first | exact rfl | exact ⟨rfl, rfl⟩) | exact rfl | exact ⟨rfl, rfl⟩); clear hK K))
      refine wpQuiet_nil ?_
      rintro _ rfl
      go_wp2_with fail
      exact ⟨⟨i + 1, hlt, by first | rw [hw3] | rw [Int.natCast_succ], HB.out⟩, by first | (rw [hw3]; exact mSucc hlt) | (rw [← Int.natCast_succ]; exact mSucc hlt)⟩
    · obtain rfl : n = i := by omega
      have hil : ((n : Int) < (n : Int)) = False := by simp
      have HB := Lib.hid hb
      clear hb
      go_wp2_with fail
      go_ret
      exact ⟨rfl, HB.out⟩
/-- all reports tell of one prefix -/
def Lone (X : Nat → Src) (k : PK) : Prop := ∀ i, i < 16 → ∀ r, (X i).last = some r → ∀ j ∈ r.cs.map Ct.p, j = k
def demL (X : Nat → Src) (k : PK) : List Ct := if 0 < demI X k 16 then [⟨k, demI X k 16⟩] else []
theorem addI_left {n : Int} (h : 0 ≤ n ∧ n ≤ 9007199254740991) : addI 0 n = n := by
  unfold addI
  rw [nearI_id h, nearI_id (n := 0) (by omega), Int.zero_add, nearI_id h]
set_option maxRecDepth 10000 in
theorem dem_lone {X : Nat → Src} (hok : ∀ i, i < 16 → (X i).ok) {k : PK} (h : Lone X k) : Dem X (demL X k) := by
  unfold demL
  have h0 : ∀ x : Ct, 0 < x.n → x.n = demI X x.p 16 → x.p = k := fun x h1 h2 => Classical.byContradiction fun hne => by
    have h3 : ¬ InL X 16 x.p := fun ⟨j, hj, r, hr, hm⟩ => hne (h j hj r hr _ hm)
    have h4 := demI_no hok (Nat.le_refl 16) h3
    rw [h4] at h2
    exact absurd h1 (by rw [h2]; decide)
  split
  · rename_i hp
    refine ⟨List.pairwise_singleton _ _, fun x => ?_⟩
    rw [List.mem_singleton]
    constructor
    · rintro rfl; exact ⟨hp, rfl⟩
    · rintro ⟨h1, h2⟩
      have h3 := h0 x h1 h2
      subst h3
      cases x; simp_all
  · rename_i hp
    refine ⟨List.Pairwise.nil, fun x => ⟨fun hx => (by cases hx), fun ⟨h1, h2⟩ => ?_⟩⟩
    have h3 := h0 x h1 h2
    rw [h2, h3] at h1
    exact absurd h1 hp
theorem sum_lone {X : Nat → Src} {k : PK} : sumC (demL X k) = demI X k 16 := by
  have h := demI_in X k 16
  unfold demL
  generalize demI X k 16 = d at *
  split
  · exact addI_left h
  · show 0 = _
    omega
end Go.Proofs.Ytfmehahjjgalfaa.Me
