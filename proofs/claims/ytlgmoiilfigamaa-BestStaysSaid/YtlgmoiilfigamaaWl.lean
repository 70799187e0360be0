/- Best of an empty slice; Clone, Delete, Rank. -/
import Derived.Test.YtlgmoiilfigamaaWk
namespace Go.Proofs.Ytlgmoiilfigamaa
open Go.RowKit

theorem best_nil (oa : Option Addr) (c : Nat) (w : World) : Calls Try.prog 9 #[.slice oa 0 c] w fun e w' => e = .returned (.tuple #[.int .i64 0, .bool false]) ∧ Below w.heap.size w w' := by
  have HL := Lib.hid (left_nil oa c w)
  have H1 := Lib.hid (fun w => least22_nil none 0 w)
  have H2 := Lib.hid (fun w => least23_nil none 0 w)
  go_enter Try.func9, Try.ntmps9
  go_wp2_with fail
  refine (HL.out).mono ?_
  rintro e w1 ⟨rfl, h1⟩
  go_wp2_with fail
  refine (H1.out _).mono ?_
  rintro e w2 ⟨rfl, h2⟩
  go_wp2_with fail
  refine (H2.out _).mono ?_
  rintro e w3 ⟨rfl, h3⟩
  go_wp2_with fail
  go_ret2
  exact ⟨rfl, (h1.trans (h2.mono h1.size)).trans (h3.mono (Nat.le_trans h1.size h2.size))⟩
/-- what is asked of routes that came in -/
structure Ins (w : World) (B : Nat) (L : List Rt) : Prop where
  hB : B ≤ w.heap.size
  ok : ∀ x ∈ L, RtOk w B x ∧ Small x
  h60 : L.length ≤ 60
theorem Ins.below {w w' : World} {B : Nat} {L : List Rt} (h : Ins w B L) (hb : Below B w w') : Ins w' B L := ⟨Nat.le_trans h.hB hb.size, fun x hx => ⟨(h.ok x hx).1.below hb, (h.ok x hx).2⟩, h.h60⟩
theorem Ins.sub {w : World} {B : Nat} {L M : List Rt} (h : Ins w B L) (hs : ∀ x ∈ M, x ∈ L) (hl : M.length ≤ 60) : Ins w B M := ⟨h.hB, fun x hx => h.ok x (hs x hx), hl⟩
theorem sl_nil {w : World} {oa : Option Addr} {n c : Nat} (h : R40.Sl w oa n c []) : n = 0 := h.len
theorem sl_some {w : World} {oa : Option Addr} {n c : Nat} {L : List Rt} (h : R40.Sl w oa n c L) (hL : L ≠ []) : ∃ b off, oa = some ⟨b, off, none⟩ ∧ R40.Row w b off L :=
  h.row (by rw [h.len]; exact List.length_pos_iff.2 hL)
theorem best_any (oa : Option Addr) (n c : Nat) (L : List Rt) (w : World) (B : Nat) (hs : R40.Sl w oa n c L) (hi : Ins w B L) :
    Calls Try.prog 9 #[.slice oa n c] w fun e w' => e = .returned (.tuple #[.int .i64 (bestN L), .bool (!L.isEmpty)]) ∧ Below w.heap.size w w' := by
  cases L with
  | nil => rw [sl_nil hs]; exact best_nil oa c w
  | cons x r =>
    obtain ⟨b, off, rfl, hr⟩ := sl_some hs (by simp)
    exact best_some b off c n (x :: r) w B (by simp) hs.len.symm hi.hB hr hi.ok (by rw [hs.len]; exact hi.h60)
theorem lleft_nil (oa : Option Addr) (c : Nat) (w : World) : Calls Try.prog 12 #[.slice oa 0 c] w fun e w' => e = .returned (.slice none 0 0) ∧ Below w.heap.size w w' := by
  have HL := Lib.hid (left_nil oa c w)
  go_enter Try.func12, Try.ntmps12
  go_wp2_with fail
  refine (HL.out).mono ?_
  rintro e w1 ⟨rfl, h1⟩
  go_wp2_with fail
  refine wp_loop_once ?_
  go_wp2_with fail
  go_ret
  exact ⟨rfl, h1⟩
def leftR (L : List Rt) : List Rt := (leftOf L).map Prod.fst
theorem lleft_any (oa : Option Addr) (n c : Nat) (L : List Rt) (w : World) (B : Nat) (hs : R40.Sl w oa n c L) (hi : Ins w B L) :
    Calls Try.prog 12 #[.slice oa n c] w fun e w' => ∃ v, e = .returned v ∧ R40.Own w' w.heap.size v (leftR L) ∧ Below w.heap.size w w' := by
  cases L with
  | nil => rw [sl_nil hs]; exact (lleft_nil oa c w).mono fun e w' ⟨h1, h2⟩ => ⟨_, h1, Rep.Own.nil _ _, h2⟩
  | cons x r =>
    obtain ⟨b, off, rfl, hr⟩ := sl_some hs (by simp)
    exact lleft_some b off c n (x :: r) w B (by simp) hs.len.symm hi.hB hr hi.ok (by rw [hs.len]; exact hi.h60)

theorem clone_nil (w : World) : Calls Try.prog 26 #[.slice none 0 0] w fun e w' => e = .returned (.slice none 0 0) ∧ w' = w := by
  have hq := fun w oa n c => Lib.run_eql_slice_nil (P := Try.prog) w 22 40 oa n c 0 0 Try.underlying22
  go_enter Try.func26, Try.ntmps26
  go_wp2_with fail
  go_ret
  exact ⟨rfl, rfl⟩
theorem clone_some (ad : Addr) (n c : Nat) (L : List Rt) (w : World) (hs : R40.Sl w (some ad) n c L) (hm : n ≤ 1000) :
    Calls Try.prog 26 #[.slice (some ad) n c] w fun e w' => ∃ v, e = .returned v ∧ R40.Own w' w.heap.size v L ∧ Below w.heap.size w w' := by
  have HS := Lib.hid hs
  clear hs
  have hq := fun w oa n c => Lib.run_eql_slice_nil (P := Try.prog) w 22 40 oa n c 0 0 Try.underlying22
  go_enter Try.func26, Try.ntmps26
  go_wp2_with (at_builtin; refine halt ?_)
  refine Halted.go ?_
  refine Rep.append_list T22 rfl _ _ rfl (base := w.heap.size) (L := []) (M := L) rfl ?_ rfl (HS.out.keep ((Below.refl _ _).alloc (Nat.le_refl _) _)) (by simp) (by unfold maxLen; simp; omega) (by simp; omega) (by simp) ?_
  · exact ⟨rfl, .inr ⟨w.heap.size, 0, #[], rfl, Nat.le_refl _, hnew _ _, Nat.le_refl _, by unfold maxLen; omega, rfl, rfl⟩⟩
  intro v' w1 hown hb _
  have HO := Lib.hid (And.intro hown hb)
  clear hown hb
  go_wp2_with fail
  go_ret
  exact ⟨_, rfl, HO.out.1, ((Below.refl _ _).alloc (Nat.le_refl _) _).trans HO.out.2⟩
theorem clone_any (oa : Option Addr) (n c : Nat) (L : List Rt) (w : World) (hs : R40.Sl w oa n c L) (hc : oa = none → c = 0) (hm : n ≤ 1000) :
    Calls Try.prog 26 #[.slice oa n c] w fun e w' => ∃ v, e = .returned v ∧ R40.Own w' w.heap.size v L ∧ Below w.heap.size w w' := by
  cases oa with
  | none =>
    obtain rfl := hc rfl
    cases L with
    | nil => rw [sl_nil hs]; exact (clone_nil w).mono fun e w' ⟨h1, h2⟩ => ⟨_, h1, Rep.Own.nil _ _, h2 ▸ Below.refl _ _⟩
    | cons x r => obtain ⟨b, off, e, _⟩ := sl_some hs (by simp); cases e
  | some ad => exact clone_some ad n c L w hs hm

theorem zero40 (w : World) : (zeroValue 40).run Try.prog w = .ok (.agg #[.int .i64 0, .int .u32 0, .int .i64 0, .int .i64 0, .int .i64 0, .slice none 0 0, .int .u32 0, .int .i64 0, .int .i64 0, .slice none 0 0]) w := by kernel_rfl
/-- a block of the call's own that holds a list -/
structure Hold (w : World) (g cap : Nat) (L : List Rt) : Prop where
  blk : ∃ cur, w.heap[g]? = some (.cells cur 40 (0, 0)) ∧ cur.size = cap * 10
  row : R40.Row w g 0 L
  le : L.length ≤ cap
  max : cap ≤ maxLen
theorem Hold.keep {w w' : World} {g cap : Nat} {L : List Rt} (h : Hold w g cap L) (e : w'.heap[g]? = w.heap[g]?) : Hold w' g cap L := ⟨by rw [e]; exact h.blk, h.row.keep e, h.le, h.max⟩
set_option maxHeartbeats 1000000 in
theorem delete_any (g cap m i : Nat) (L : List Rt) (w : World) (hn : L.length = m + 1) (hi : i < m + 1) (h : Hold w g cap L) (h60 : m + 1 ≤ 1000) :
    Calls Try.prog 27 #[.slice (some ⟨g, 0, none⟩) (m + 1) cap, .int .i64 i, .int .i64 (i + 1)] w fun e w' => e = .returned (.slice (some ⟨g, 0, none⟩) m cap) ∧ Hold w' g cap (L.eraseIdx i) ∧ But w w' [g] := by
  have hcap : cap ≤ 9223372036854775807 := by have h2 := h.max; unfold maxLen at h2; omega
  have hnc : m + 1 ≤ cap := by have := h.le; omega
  by_cases hic : i + 1 = cap
  · subst hic
    have hmi : i = m := by omega
    subst hmi
    obtain ⟨w1, cur1, e1, hb1, hs1, hr1, hbut1⟩ := Rep.run_append_within (ty := 22) T22 hn h.blk (w := w.drew) ⟨h.row.lt, h.row.get⟩ (cap := (i + 1)) (i := i) (j := i + 1) (by omega) (by omega) (by omega) 0 0 (by omega) ⟨g, 0, none⟩ (by intro h0; omega)
    rw [show i + 0 = i by omega] at e1
    obtain ⟨w2, cur2, e2, hb2, hs2, hg2, hset⟩ := Rep.run_clear_in (P := Try.prog) (k := 10) (ty := 0) Try.underlying22 zero40 rfl (by simp [Value.oneCell', Value.cells]) w1 g i 1 1 (i + 1) cur1 hb1 hs1 (by omega)
    have hb : ((i : Int) == (i : Int) + 1) = false := by rw [beq_eq_false_iff_ne]; omega
    have hF : Hold w2 g (i + 1) (L.eraseIdx i) ∧ But w w2 [g] := by
      have hbw : But w w1 [g] := ⟨hbut1.os, hbut1.tape, hbut1.output, hbut1.size, hbut1.block⟩
      refine ⟨⟨⟨cur2, hb2, by rw [hs2, hs1]; rfl⟩, ?_, by rw [List.length_eraseIdx]; split <;> omega, h.max⟩, hbw.thenSet hset (.inr (by simp))⟩
      rw [List.eraseIdx_eq_take_drop_succ]
      refine ⟨lt_of_blk hb2, fun a ha j hj => ?_⟩
      rw [← hr1.get a ha j hj]
      have hlen : (L.take i ++ L.drop (i + 1)).length = i := by simp; omega
      rw [hlen] at ha
      have hlt : a * 10 + j < i * 10 := by have hj' : j < 10 := hj; omega
      simp only [World.cell?, hb1, hb2, Nat.zero_add]
      exact hg2 _ hlt
    have HF := Lib.hid hF
    have H1 := Lib.hid e1
    have H2 := Lib.hid e2
    have hi1 : i ≤ (i + 1) := by omega
    have hi2 : i ≤ i := by omega
    have hi3 : ((i : Int) + 1).toNat = i + 1 := by omega
    have hi4 : (0 : Int) ≤ (i : Int) + 1 := by omega
    have hi5 : (i : Int) ≤ (i : Nat) := by omega
    have hi6 : (i : Int) ≤ (i : Int) + 1 := by omega
    have hi7 : ((i : Nat) : Int) ≤ ((i : Nat) : Int) + 1 := by omega
    have hi8 : i + 1 ≤ (i + 1) := by omega
    have hi9 : ¬ (i + 1) = i := by omega
    clear hF e1 e2 h hb1 hs1 hr1 hbut1 hb2 hs2 hg2 hset hn
    go_enter Try.func27, Try.ntmps27
    go_wp2_with fail
    refine wp_region_quiet_tail (fun w' => w' = w.drew) 6 (by kernel_rfl) (by kernel_rfl) rfl ?_
    simp only [List.take_succ_cons, List.take_zero, List.drop_succ_cons, List.drop_zero]
    iterate 6 (refine wpQuiet_step (fun K hK => ?_); go_simp; refine hK _ ?_; clear hK K)
    refine wpQuiet_nil ?_
    rintro _ rfl
    refine Rep.step_append rfl _ _ rfl rfl rfl H1.out ?_
    have h2 := H2.out
    go_wp2_with fail
    go_ret
    exact ⟨rfl, HF.out⟩
  · obtain ⟨w1, cur1, e1, hb1, hs1, hr1, hbut1⟩ := Rep.run_append_within (ty := 22) T22 hn h.blk (w := w.drew) ⟨h.row.lt, h.row.get⟩ (cap := cap) (i := i) (j := i + 1) (by omega) (by omega) (by omega) (m - i) (cap - (i + 1)) (by omega) ⟨g, (i + 1) * 10, none⟩ (fun _ => rfl)
    rw [show i + (m - i) = m by omega] at e1
    obtain ⟨w2, cur2, e2, hb2, hs2, hg2, hset⟩ := Rep.run_clear_in (P := Try.prog) (k := 10) (ty := 0) Try.underlying22 zero40 rfl (by simp [Value.oneCell', Value.cells]) w1 g m 1 (cap - m) cap cur1 hb1 hs1 (by omega)
    have hb : ((i : Int) == (i : Int) + 1) = false := by rw [beq_eq_false_iff_ne]; omega
    have hF : Hold w2 g cap (L.eraseIdx i) ∧ But w w2 [g] := by
      have hbw : But w w1 [g] := ⟨hbut1.os, hbut1.tape, hbut1.output, hbut1.size, hbut1.block⟩
      refine ⟨⟨⟨cur2, hb2, by rw [hs2, hs1]; rfl⟩, ?_, by rw [List.length_eraseIdx]; split <;> omega, h.max⟩, hbw.thenSet hset (.inr (by simp))⟩
      rw [List.eraseIdx_eq_take_drop_succ]
      refine ⟨lt_of_blk hb2, fun a ha j hj => ?_⟩
      rw [← hr1.get a ha j hj]
      have hlen : (L.take i ++ L.drop (i + 1)).length = m := by simp; omega
      rw [hlen] at ha
      have hlt : a * 10 + j < m * 10 := by have hj' : j < 10 := hj; omega
      simp only [World.cell?, hb1, hb2, Nat.zero_add]
      exact hg2 _ hlt
    have HF := Lib.hid hF
    have H1 := Lib.hid e1
    have H2 := Lib.hid e2
    have hi1 : i ≤ cap := by omega
    have hi2 : i ≤ m := by omega
    have hi3 : ((i : Int) + 1).toNat = i + 1 := by omega
    have hi4 : (0 : Int) ≤ (i : Int) + 1 := by omega
    have hi5 : (i : Int) ≤ (m : Nat) := by omega
    have hi6 : (i : Int) ≤ (i : Int) + 1 := by omega
    have hi7 : ((m : Nat) : Int) ≤ ((m : Nat) : Int) + 1 := by omega
    have hi8 : m + 1 ≤ cap := by omega
    have hi9 : ¬ cap = m := by omega
    have hi10 : ¬ cap = i + 1 := by omega
    clear hF e1 e2 h hb1 hs1 hr1 hbut1 hb2 hs2 hg2 hset hn
    go_enter Try.func27, Try.ntmps27
    go_wp2_with fail
    refine wp_region_quiet_tail (fun w' => w' = w.drew) 6 (by kernel_rfl) (by kernel_rfl) rfl ?_
    simp only [List.take_succ_cons, List.take_zero, List.drop_succ_cons, List.drop_zero]
    iterate 6 (refine wpQuiet_step (fun K hK => ?_); go_simp; refine hK _ ?_; clear hK K)
    refine wpQuiet_nil ?_
    rintro _ rfl
    refine Rep.step_append rfl _ _ rfl rfl rfl H1.out ?_
    have h2 := H2.out
    go_wp2_with fail
    go_ret
    exact ⟨rfl, HF.out⟩
end Go.Proofs.Ytlgmoiilfigamaa
