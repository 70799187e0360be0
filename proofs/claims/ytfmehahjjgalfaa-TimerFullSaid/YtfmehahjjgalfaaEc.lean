/- Timers: Stop. -/
import Derived.Test.YtfmehahjjgalfaaEb
namespace Go.Proofs.Ytfmehahjjgalfaa.Tim
open Go.RowKit
open Go.ChangeMaps (setBlock)

theorem del_noneT {L : List Tm} {k : TK} (h : hasT L k = false) : (L.filter fun x => decide (x.k ≠ k)) = L := by
  rw [List.filter_eq_self]
  intro x hx
  unfold hasT look at h
  cases hl : Kl.look Tm.k L k with
  | some y => rw [hl] at h; cases h
  | none => simpa using Kl.look_none hl hx
structure MDel (w w' : World) (t bm : Nat) (L : List Tm) (k : TK) : Prop where
  tab : TimAt w' t bm (L.filter fun x => decide (x.k ≠ k))
  but : But w w' [bm]
theorem stop_nil (k : TK) (w : World) : Calls Try.prog 20 #[.pointer none, kv k] w fun e w' => e = .returned (.bool false) ∧ Below w.heap.size w w' := by
  have hal := (Below.refl w.heap.size w).alloc (Nat.le_refl _) (.cells #[.int .i64 k.1, .int .i64 k.2] 31)
  have hks : KS w.heap.size k (w.alloc (.cells #[.int .i64 k.1, .int .i64 k.2] 31)) := hnew _ _
  have HB := Lib.hid hal
  obtain ⟨z0, z1⟩ := hks.cells
  have HG := Lib.hid (at_nil k)
  clear hal hks
  unfold kv at HG ⊢
  go_enter Try.func20, Try.ntmps20
  go_wp2_with fail
  refine (HG.out _).mono ?_
  rintro e W1 ⟨rfl, hb⟩
  have HB2 := Lib.hid (bcall HB.out (Nat.le_refl _) hb)
  clear hb z0 z1
  go_wp2_with fail
  go_ret
  exact ⟨rfl, HB2.out⟩
set_option maxRecDepth 100000 in
theorem stop_any {w : World} {t bm : Nat} {L : List Tm} (H : TimAt w t bm L) {k : TK} (hk : TN.ok k) : Calls Try.prog 20 #[.pointer (some ⟨t, 0, none⟩), kv k] w fun e w' => e = .returned (.bool (hasT L k)) ∧ MDel w w' t bm L k := by
  have hal := (Below.refl w.heap.size w).alloc (Nat.le_refl _) (.cells #[.int .i64 k.1, .int .i64 k.2] 31)
  have hks : KS w.heap.size k (w.alloc (.cells #[.int .i64 k.1, .int .i64 k.2] 31)) := hnew _ _
  have F := Lib.hid (And.intro hal (And.intro hks (H.keep hal)))
  obtain ⟨z0, z1⟩ := hks.cells
  have HG := Lib.hid (at_any (H.keep hal) hk)
  have HK := Lib.hid hk
  clear hal hks H
  unfold kv at HG
  unfold kv
  generalize atO L k = a0 at *
  obtain ⟨hs, hhs⟩ : ∃ hs, hasT L k = hs := ⟨_, rfl⟩
  rw [hhs] at HG ⊢
  have HS := Lib.hid hhs
  clear hhs
  go_enter Try.func20, Try.ntmps20
  go_wp2_with fail
  refine HG.out.mono ?_
  rintro e W1 ⟨rfl, hb⟩
  have F2 := Lib.hid (And.intro (bcall F.out.1 (Nat.le_refl _) hb) (And.intro (F.out.2.1.on (hb.block _ (lt_of_blk F.out.2.1))) (F.out.2.2.keep hb)))
  clear hb HG F z0 z1
  cases hs with
  | false =>
    go_wp2_with fail
    go_ret
    refine ⟨rfl, ?_, But.of_below F2.out.1 _⟩
    rw [del_noneT HS.out]
    exact F2.out.2.2
  | true =>
    go_wp2_with fail
    obtain ⟨q, hq⟩ : ∃ q, w.heap.size = q := ⟨_, rfl⟩
    have F3 := Lib.hid (show Below w.heap.size w W1 ∧ KS q k W1 ∧ TimAt W1 t bm L from hq ▸ F2.out)
    rw [hq]
    clear hq F2
    have c0 := F3.out.2.2.c0
    obtain ⟨z0, z1⟩ := F3.out.2.1.cells
    obtain ⟨O, hup, htab⟩ := (F3.out.2.2.on (w' := W1.drew) rfl rfl).delete HK.out 31 0
    have F4 := Lib.hid (And.intro htab ((But.of_below F3.out.1 [bm]).drew.setBlock (b := bm) (.inr (by simp)) O))
    clear htab
    refine wp_region_pieces (by kernel_rfl) ?_
    refine wpAny_seg (fun w' => w' = W1.drew) [0, 1, 2, 3, 4] (g := 1) rfl (by kernel_rfl) rfl ?_
    simp only [pick, List.getD_cons_zero, List.getD_cons_succ]
    iterate 5 ((with_reducible refine wpQuiet_step (fun K hK => ?_)); go_simp; first | ((with_reducible refine hK _ ?_); clear hK K) | (apply Exists.intro; (with_reducible refine ⟨fun w' hw' => ?_, hK _ ?_⟩); (subst hw'; go_simp; first | exact rfl | exact ⟨rfl, rfl⟩); clear hK K))
    refine wpQuiet_nil ?_
    rintro _ rfl
    refine wpAny_one 5 (by kernel_rfl) ?_
    simp only [pick, List.getD_cons_zero, List.getD_cons_succ]
    go_wp2_with fail
    refine wpAny_done (by kernel_rfl) ?_ _
    go_wp2_with fail
    go_ret
    exact ⟨rfl, F4.out.1, F4.out.2⟩
end Go.Proofs.Ytfmehahjjgalfaa.Tim
