/-
  Proved: 'bypathlaw13.TrieNobody' returns true for every input and leaves its arguments as they were. No conditions.
-/
import Derived.Test.YtdhebjeajdohoaaOq
namespace Go.Proofs.Ytdhebjeajdohoaa
open Go.ChangeShapes Go.WideShapes Go.ChangeAt Go.RowKit Go.Deep

set_option maxRecDepth 100000 in
set_option maxHeartbeats 4000000 in
theorem nobody_any (p : Nat) (l : Int) (a : Nat) (w : World) : Calls Try.prog 6 #[pfx p l, .int .u32 a] w fun e w' => e = .returned (.bool true) ∧ Below w.heap.size w w' := by
  have HG := Lib.hid (fun w' => getI_nil p l w')
  have HL := Lib.hid (fun w' => longI_nil a w')
  have HS := Lib.hid (fun w' => setI_nil p l 1 w')
  have HD := Lib.hid (fun w' => delI_nil p l w')
  have HW := Lib.hid (fun w' => withinI_nil p l w')
  unfold pfx at *
  go_enter Try.func6, Try.ntmps6
  have hq : Below (w.heap.size + 1) (w.alloc (.cells #[.int .u32 p, .int .i64 l] 32)) (w.alloc (.cells #[.int .u32 p, .int .i64 l] 32)) := Below.refl _ _
  have hsz : w.heap.size + 1 ≤ (w.alloc (.cells #[.int .u32 p, .int .i64 l] 32)).heap.size := by simp
  go_wp2_with (first | (go_at_call 21; (with_reducible refine (HG.out _).mono ?_); rintro e w1 ⟨rfl, hb⟩; have hq := hq.trans (hb.mono (Nat.le_trans hsz hq.size)); obtain ⟨c0, c1⟩ : w1.cell? ⟨w.heap.size, 0, none⟩ = some (.int .u32 p) ∧ w1.cell? ⟨w.heap.size, 1, none⟩ = some (.int .i64 l) := ⟨cell_of ((hq.block w.heap.size (by omega)).trans (hnew _ _)) rfl, cell_of ((hq.block w.heap.size (by omega)).trans (hnew _ _)) rfl⟩; clear hb))
  refine (HL.out _).mono ?_
  rintro e w2 ⟨rfl, hb⟩
  have hq := hq.trans (hb.mono (Nat.le_trans hsz hq.size))
  have hbox := (hq.block w.heap.size (by omega)).trans (hnew _ _)
  have hsz2 := Nat.le_trans hsz hq.size
  clear hb HG HL
  have two : ∀ {w1 : World}, Below (w2.heap.size + 1) (w2.alloc (.cells #[.int .u32 0, .int .i64 0] 32)) w1 → w1.cell? ⟨w.heap.size, 0, none⟩ = some (.int .u32 p) ∧ w1.cell? ⟨w.heap.size, 1, none⟩ = some (.int .i64 l) ∧ w1.cell? ⟨w2.heap.size, 0, none⟩ = some (.int .u32 0) ∧ w1.cell? ⟨w2.heap.size, 1, none⟩ = some (.int .i64 0) := fun {w1} h => by
    have h1 := (h.block w.heap.size (by omega)).trans (hold hbox)
    have h2 := (h.block w2.heap.size (by omega)).trans (hnew _ _)
    exact ⟨cell_of h1 rfl, cell_of h1 rfl, cell_of h2 rfl, cell_of h2 rfl⟩
  have hr : Below (w2.heap.size + 1) (w2.alloc (.cells #[.int .u32 0, .int .i64 0] 32)) (w2.alloc (.cells #[.int .u32 0, .int .i64 0] 32)) := Below.refl _ _
  have hsr : w2.heap.size + 1 ≤ (w2.alloc (.cells #[.int .u32 0, .int .i64 0] 32)).heap.size := by simp
  go_wp2_with (first | (go_at_call 9; (with_reducible refine (lives_any _).mono ?_); rintro e w1 ⟨rfl, hb⟩; have hr := hr.trans (hb.mono (Nat.le_trans hsr hr.size)); obtain ⟨c0, c1, c2, c3⟩ := two hr; clear hb) | (go_at_call 10; (with_reducible refine (HS.out _).mono ?_); rintro e w1 ⟨rfl, hb⟩; have hr := hr.trans (hb.mono (Nat.le_trans hsr hr.size)); obtain ⟨c0, c1, c2, c3⟩ := two hr; clear hb) | (go_at_call 12; (with_reducible refine (HD.out _).mono ?_); rintro e w1 ⟨rfl, hb⟩; have hr := hr.trans (hb.mono (Nat.le_trans hsr hr.size)); obtain ⟨c0, c1, c2, c3⟩ := two hr; clear hb) | (go_at_call 16; (with_reducible refine (prefixesI_nil _).mono ?_); rintro e w1 ⟨v, rfl, hown, hb⟩; have hr := hr.trans (hb.mono (Nat.le_trans hsr hr.size)); obtain ⟨c0, c1, c2, c3⟩ := two hr; clear hb; obtain ⟨pa, pc, rfl, -, -, -, -⟩ := hown.sl; clear hown) | (go_at_call 22; (with_reducible refine (HW.out _).mono ?_); rintro e w1 ⟨v, rfl, hown, hb⟩; have hr := hr.trans (hb.mono (Nat.le_trans hsr hr.size)); obtain ⟨c0, c1, c2, c3⟩ := two hr; clear hb; obtain ⟨pa, pc, rfl, -, -, -, -⟩ := hown.sl; clear hown) | (go_at_call 19; refine (lenI_nil _).mono ?_; rintro e w1 ⟨rfl, rfl⟩))
  go_ret
  exact ⟨rfl, (((Below.refl w.heap.size w).alloc (Nat.le_refl _) _).trans (hq.mono (by omega))).trans ((((Below.refl w2.heap.size w2).alloc (Nat.le_refl _) _).trans (hr.mono (by omega))).mono (by omega))⟩
theorem nobody_int (p : Nat) (l a : Int) (h : (Lit.int .u32 a).wf = true) (w : World) : Calls Try.prog 6 #[pfx p l, .int .u32 a] w fun e w' => e = .returned (.bool true) ∧ Below w.heap.size w w' := by
  obtain ⟨k, rfl, _⟩ := u32_nat h
  exact nobody_any p l k w
set_option maxRecDepth 100000 in
theorem nobody_lifted (os : Os) (started : os.Started) (H : Type) (enc : TypeId × Value → H) :
    ReturnsInHanded {} Try.checked os 6 .any (Rows.trieNobodySpec.pre6 enc Try.prog Try.f6 Rows.trieNobodyRow.domain false) (Rows.trieNobodySpec.post enc Try.prog Try.f6 false true false false) := by
  refine returnsInHanded_of_change (C := Try.checked) own started (by kernel_rfl) Try.func6
    (ChangeSpec.witness6 (enc := enc) (C := Try.checked) false ⟨#[], #[.agg #[.int .u32 0, .int .i64 0], .int .u32 0], []⟩ 8 (by kernel_rfl) (by kernel_rfl) (by kernel_rfl) (by kernel_rfl)) ?_
  intro W base args ds gs before hval0 hW hcnd _
  have hval : ∀ (j : Nat) t v, Try.f6.params[j]? = some t → args[j]? = some v → Value.okWide Try.prog W .any base t v := hval0
  have hW' := hW
  obtain ⟨p, q, hA0, hV, rfl, hfz, hnd⟩ := hW
  have hA : DataW.TrodAll enc Try.prog W 0 (fun _ => true) true Try.f6.params.toList args.toList ds p := hA0
  rw [Try.params6] at hA hval
  obtain ⟨v0, vs0, d0, ds0, p0, q0, hargs, rfl, rfl, h0, r0⟩ := trodAll_cons hA
  obtain ⟨v1, vs1, d1, ds1, p1, q1, rfl, rfl, rfl, h1, r1⟩ := trodAll_cons r0
  obtain ⟨rfl, rfl, rfl⟩ := trodAll_nil r1
  obtain rfl : args = #[v0, v1] := by cases args; simp_all
  obtain ⟨rfl, rfl⟩ := trodVars_none hV
  have lt0 : ∀ x ∈ p0, x.block < W.heap.size := by obtain ⟨m, hm⟩ := h0; exact DataW.trod_lt m _ _ _ hm
  obtain ⟨x0, rfl, _⟩ := okWide_struct Try.underlying32 (hval 0 32 v0 rfl rfl)
  obtain ⟨s0, e0, ok0⟩ := (reads32).arg h0
  obtain rfl : x0 = (RQ.cells s0).toArray := by simpa [Value.cells] using congrArg List.toArray e0
  obtain ⟨a1, rfl, rfl, rfl, w1⟩ := open_int Try.underlying23 (hval 1 23 v1 rfl rfl) h1
  clear hA0 hval0
  refine (nobody_int s0.1 s0.2 a1 w1 W).mono fun e W' ⟨he, bel⟩ => ?_
  subst he
  exact ⟨_, rfl, _, _, _, [], _, [], hW', trodAll_mk1 (shut_bool Try.underlying4 _), (trodAll_cons_mk (Below.trod laidOut (by kernel_rfl) (of_decide_eq_true (by kernel_rfl)) h0 bel lt0) (trodAll_cons_mk (shut_int Try.underlying23 w1) trodAll_mk0)), rfl, bel.frame _, fun h => by cases h⟩

theorem nobody_over : Rows.trieNobodyRow.holds Try.pinned (OpenSpec.ofChange Rows.trieNobodySpec) :=
  OpenClaim.holds_of_wide 6 Try.f6 rfl rfl rfl rfl rfl rfl rfl ⟨rfl, rfl, rfl, rfl, rfl⟩ rfl rfl rfl rfl rfl (by kernel_rfl) Try.func6 (by kernel_rfl)
    (of_decide_eq_true (by kernel_rfl)) (by unfold Func.isWrapper; rw [if_neg (of_decide_eq_false (by kernel_rfl))]; exact ⟨rfl, rfl⟩)
    (fun os started H enc _ => nobody_lifted os started H enc)

theorem trieNobody_holds : Rows.TrieNobodySaid := nobody_over
#print axioms trieNobody_holds

end Go.Proofs.Ytdhebjeajdohoaa
