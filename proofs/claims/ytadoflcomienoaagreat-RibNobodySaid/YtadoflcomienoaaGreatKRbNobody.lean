/-
  Proved: 'bypathlaw14.RibNobody' returns true for every input and leaves its arguments as they were. No conditions.
-/
import Derived.Test.YtadoflcomienoaaGreatKas
import Derived.Test.YtadoflcomienoaaGreatKat
namespace Go.Proofs.YtadoflcomienoaaGreat
open Go.ChangeShapes Go.WideShapes Go.ChangeAt Go.RowKit Go.Deep

set_option maxRecDepth 100000 in
theorem rbnobody_lifted (os : Os) (started : os.Started) (H : Type) (enc : TypeId × Value → H) :
    ReturnsInHanded {} Tryz.checked os 8 .any (Rows.ribNobodySpec.pre6 enc Tryz.prog Tryz.f8 Rows.ribNobodyRow.domain false) (Rows.ribNobodySpec.post enc Tryz.prog Tryz.f8 false true false false) := by
  refine returnsInHanded_of_change (C := Tryz.checked) own started (by kernel_rfl) Tryz.func8
    (ChangeSpec.witness6 (enc := enc) (C := Tryz.checked) false ⟨#[], #[.agg #[.int .i64 0, .int .i64 0, .slice none 0 0, .slice none 0 0, .int .i64 0, .slice none 0 0, .int .u32 0, .int .i64 0, .int .i64 0, .slice none 0 0, .bool false], .agg #[.int .i64 0, .int .u32 0, .int .i64 0, .int .i64 0]], []⟩ 8 (by kernel_rfl) (by kernel_rfl) (by kernel_rfl) (by kernel_rfl)) ?_
  intro W base args ds gs before hval0 hW hcnd _
  have hval : ∀ (j : Nat) t v, Tryz.f8.params[j]? = some t → args[j]? = some v → Value.okWide Tryz.prog W .any base t v := hval0
  have hW' := hW
  obtain ⟨p, q, hA0, hV, rfl, hfz, hnd⟩ := hW
  have hA : DataW.TrodAll enc Tryz.prog W 0 (fun _ => true) true Tryz.f8.params.toList args.toList ds p := hA0
  rw [Tryz.params8] at hA hval
  obtain ⟨v0, vs0, d0, ds0, p0, q0, hargs, rfl, rfl, h0, r0⟩ := trodAll_cons hA
  obtain ⟨v1, vs1, d1, ds1, p1, q1, rfl, rfl, rfl, h1, r1⟩ := trodAll_cons r0
  obtain ⟨rfl, rfl, rfl⟩ := trodAll_nil r1
  obtain rfl : args = #[v0, v1] := by cases args; simp_all
  obtain ⟨rfl, rfl⟩ := trodVars_none hV
  have lt0 : ∀ x ∈ p0, x.block < W.heap.size := by obtain ⟨m, hm⟩ := h0; exact DataW.trod_lt m _ _ _ hm
  obtain ⟨x0, rfl, _⟩ := okWide_struct Tryz.underlying53 (hval 0 53 v0 rfl rfl)
  obtain ⟨s0, e0, ok0⟩ := (readsOp).arg h0
  obtain rfl : x0 = ([.int .i64 s0.k, .int .i64 s0.r, .slice s0.u.g.a s0.u.g.n s0.u.g.c, .slice s0.u.r.a s0.u.r.n s0.u.r.c, .int .i64 s0.u.a.o, .slice s0.u.a.p.a s0.u.a.p.n s0.u.a.p.c, .int .u32 s0.u.a.nx, .int .i64 s0.u.a.md, .int .i64 s0.u.a.pf, .slice s0.u.a.c.a s0.u.a.c.n s0.u.a.c.c, .bool s0.u.soft]).toArray := by simpa [Value.cells] using congrArg List.toArray e0
  have lt1 : ∀ x ∈ p1, x.block < W.heap.size := by obtain ⟨m, hm⟩ := h1; exact DataW.trod_lt m _ _ _ hm
  obtain ⟨x1, rfl, _⟩ := okWide_struct Tryz.underlying62 (hval 1 62 v1 rfl rfl)
  obtain ⟨s1, e1, ok1⟩ := (readsKy).arg h1
  obtain rfl : x1 = ([.int .i64 s1.1, .int .u32 (s1.2.1.1 : Int), .int .i64 s1.2.1.2, .int .i64 s1.2.2]).toArray := by simpa [Value.cells] using congrArg List.toArray e1
  clear hA0 hval0
  refine (nobody_law ok0.2.2).mono fun e W' ⟨he, bel⟩ => ?_
  subst he
  exact ⟨_, rfl, _, _, _, [], _, [], hW', trodAll_mk1 (shut_bool Tryz.underlying4 _), (trodAll_cons_mk (Below.trod laidOut (by kernel_rfl) (of_decide_eq_true (by kernel_rfl)) h0 bel lt0) (trodAll_cons_mk (Below.trod laidOut (by kernel_rfl) (of_decide_eq_true (by kernel_rfl)) h1 bel lt1) trodAll_mk0)), rfl, bel.frame _, fun h => by cases h⟩

theorem rbnobody_over : Rows.ribNobodyRow.holds Tryz.pinned (OpenSpec.ofChange Rows.ribNobodySpec) :=
  OpenClaim.holds_of_wide 8 Tryz.f8 rfl rfl rfl rfl rfl rfl rfl ⟨rfl, rfl, rfl, rfl, rfl⟩ rfl rfl rfl rfl rfl (by kernel_rfl) Tryz.func8 (by kernel_rfl)
    (of_decide_eq_true (by kernel_rfl)) (by unfold Func.isWrapper; rw [if_neg (of_decide_eq_false (by kernel_rfl))]; exact ⟨rfl, rfl⟩)
    (fun os started H enc _ => rbnobody_lifted os started H enc)

theorem ribNobody_holds : Rows.RibNobodySaid := rbnobody_over
#print axioms ribNobody_holds
end Go.Proofs.YtadoflcomienoaaGreat
