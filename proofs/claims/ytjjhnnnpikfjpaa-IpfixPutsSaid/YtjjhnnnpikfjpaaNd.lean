/- Slices of bytes: Clone, Grow. -/
import Derived.Test.YtjjhnnnpikfjpaaNc
import Derived.Lib.AppendZerosOnto
import Derived.Lib.SliceRun
namespace Go.Proofs.Ytjjhnnnpikfjpaa
open Go.RowKit

/-- a slice that reads as bytes -/
structure BS (w : World) (oa : Option Addr) (n c : Nat) (l : List Nat) : Prop where
  sl : RB.Sl w oa n c l
  nil : oa = none → c = 0
  le : n ≤ c
  cap : c ≤ maxLen
  ad : oa = none ∨ ∃ b o, oa = some ⟨b, o, none⟩
theorem BS.below {w w' : World} {oa : Option Addr} {n c : Nat} {l : List Nat} (h : BS w oa n c l) (hb : Below w.heap.size w w') : BS w' oa n c l := ⟨h.sl.keep hb, h.nil, h.le, h.cap, h.ad⟩
theorem bs_own {w : World} {base : Nat} {v : Value} {l : List Nat} (h : RB.Own w base v l) : ∃ oa c, v = .slice oa l.length c ∧ BS w oa l.length c l := by
  obtain ⟨oa, c, rfl, hlc, hcm, hsl, -⟩ := h.sl
  refine ⟨oa, c, rfl, hsl, ?_, hlc, hcm, ?_⟩
  · rintro rfl
    rcases h.cases with ⟨hv, _⟩ | ⟨g, cap, hv, _⟩
    · injection hv
    · cases hv
  · rcases h.cases with ⟨hv, _⟩ | ⟨g, cap, hv, _⟩
    · injection hv; exact .inl ‹_›
    · injection hv; exact .inr ⟨g, 0, ‹_›⟩
theorem rb_empty (w : World) : RB.Own (w.alloc (.cells #[] 5)) w.heap.size (.slice (some ⟨w.heap.size, 0, none⟩) 0 0) [] :=
  ⟨rfl, .inr ⟨w.heap.size, 0, #[], rfl, Nat.le_refl _, hnew _ _, Nat.le_refl _, by unfold maxLen; omega, rfl, rfl⟩⟩
theorem step_append2 {P : Program} {ops : Array Oper} {Q : Exit → Act → World → Prop} {rest : List Oper} {o : Oper} {a : Act} {w : World} {t t2 : TypeId} {v u v' : Value} {w' : World} (hgd : o.guard = none) (s x : Operand) (ho : o.op = .call { callee := .builtin .append, args := #[s, x], argTypes := #[t, t2] }) (hs : a.eval s = v) (hx : a.eval x = u)
    (hrun : (Builtin.append_ #[t, t2] o.type #[v, u]).run P w = .ok v' w') (h : wpList P ops Q rest (a.put o.dst v') w') : wpList P ops Q (o :: rest) a w :=
  wpList_plain hgd fun K hK => by
    have hk := hK _ _ h
    unfold Oper.wp execOp
    simp only [ho, resolve, invoke, builtin, Sem.run_bind, Sem.run_pure, Result.andThen_ok, List.map_toArray, List.map_cons, List.map_nil, hs, hx, hrun]
    exact hk
set_option maxRecDepth 100000 in
set_option maxHeartbeats 400000 in
theorem clone_any {w : World} {oa : Option Addr} {n c : Nat} {l : List Nat} (h : RB.Sl w oa n c l) (hnil : oa = none → c = 0) (hn : n ≤ 1000000000) : Calls Try.prog 42 #[.slice oa n c] w fun e w' => ∃ v, e = .returned v ∧ RB.Own w' w.heap.size v l ∧ Below w.heap.size w w' := by
  cases oa with
  | none =>
    have hc := hnil rfl
    subst hc
    have hl : l = [] := by
      rcases Nat.eq_zero_or_pos n with h0 | h0
      · have := h.len; rw [h0] at this; exact List.length_eq_zero_iff.1 this.symm
      · obtain ⟨b, o, h1, _⟩ := h.row h0; cases h1
    subst hl
    obtain rfl : n = 0 := h.len
    have heq : ∀ w, (binOp .eql 27 (.slice none 0 0) (.slice none 0 0)).run Try.prog w = .ok (.bool true) w := fun w => by kernel_rfl
    go_enter Try.func42, Try.ntmps42
    go_wp2_with fail
    go_ret
    exact ⟨_, rfl, Rep.Own.nil _ _, Below.refl _ _⟩
  | some ad =>
    have H := Lib.hid (And.intro h hnil)
    clear h hnil
    have heq : ∀ w, (binOp .eql 27 (.slice (some ad) n c) (.slice none 0 0)).run Try.prog w = .ok (.bool false) w := fun w => by kernel_rfl
    go_enter Try.func42, Try.ntmps42
    go_wp2_with (at_builtin; refine halt ?_)
    refine Halted.go ?_
    have hal := (Below.refl w.heap.size w).alloc (Nat.le_refl _) (.cells #[] 5)
    refine Rep.append_list T27 rfl _ _ rfl (base := w.heap.size) (L := []) (M := l) rfl (rb_empty w) rfl (H.out.1.keep hal) (fun h => (by cases h)) (by unfold maxLen; simp; omega) (by simp; omega) (by simp) ?_
    intro v3 w3 hown3 hb3 _
    have HF := Lib.hid (And.intro hown3 (hal.trans hb3))
    clear hown3 hb3 hal
    go_wp2_with fail
    go_ret
    exact ⟨_, rfl, HF.out.1, HF.out.2⟩
theorem info5 : (Try.prog.info? 5).map (fun i => (i.zero, i.size, i.bytes)) = some (some (.int .u8 0), 1, 1) := by kernel_rfl
set_option maxRecDepth 100000 in
set_option maxHeartbeats 400000 in
theorem grow_nil (n : Nat) (hn : n ≤ 1000000000) (w : World) : Calls Try.prog 46 #[.slice none 0 0, .int .i64 n] w fun e w' => ∃ v, e = .returned v ∧ RB.Own w' w.heap.size v [] ∧ Below w.heap.size w w' := by
  have h0 : ((n : Int) < 0) = False := by simp only [eq_iff_iff, iff_false]; omega
  by_cases hz : n = 0
  · subst hz
    go_enter Try.func46, Try.ntmps46
    go_wp2_with fail
    go_ret
    exact ⟨_, rfl, Rep.Own.nil _ _, Below.refl _ _⟩
  · have h1 : (0 < n) = True := by simp only [eq_iff_iff, iff_true]; omega
    have h3 : ((0 : Int) < n) = True := by simp only [eq_iff_iff, iff_true]; omega
    have h2 : wrap64 (n : Int) = n := by unfold wrap64; omega
    obtain ⟨i, hi, hiz, his, hib⟩ := info_parts info5
    have hrun : ∀ ty, (Builtin.append_ #[27, 3] ty #[.slice none 0 0, .int .i64 n]).run Try.prog w = _ := fun ty => Lib.run_append_grow_zeros w 27 3 ty 5 i (.int .u8 0) .i64 .i64 Try.underlying27 Try.underlying3 hi hiz none 0 0 [] (by rw [his]; simp [Builtin.firstCells]) n (by omega) (by omega) (by omega) (by omega) (by rw [hib]; omega) (growslice_fits (by omega) (by rw [hib]; omega))
    have H := Lib.hid hrun
    clear hrun hz
    go_enter Try.func46, Try.ntmps46
    go_wp2_with (refine step_append2 rfl (.tmp 20) (.tmp 21) rfl rfl rfl (H.out _) ?_)
    have hcap := grownCap_le_maxLen w n 0 5 (by unfold maxLen; omega)
    have hge := grownCap_ge w n 0 5
    go_ret
    refine ⟨_, rfl, ⟨rfl, .inr ⟨w.heap.size, _, _, rfl, Nat.le_refl _, hnew _ _, Nat.zero_le _, hcap, ?_, rfl⟩⟩, ((Below.refl w.heap.size w).alloc (Nat.le_refl _) _).drew⟩
    rw [Array.size_append, size_zeroCells, size_zeroCells]
    show n * 1 + (grownCap w n 0 5 - n) * 1 = grownCap w n 0 5 * 1
    omega
end Go.Proofs.Ytjjhnnnpikfjpaa
