/- HopOrders: the law's walk. -/
import Derived.Test.YtlkbaplfffbmkaaBl
namespace Go.Proofs.Ytlkbaplfffbmkaa
open Go.RowKit

theorem Good.perm {l M : List If} (h : Good l) (hp : M.Perm l) : Good M := by
  have h1 := good_iff.2 h
  unfold goodB at h1
  simp only [Bool.and_eq_true, decide_eq_true_eq] at h1
  refine good_iff.1 ?_
  unfold goodB
  simp only [Bool.and_eq_true, decide_eq_true_eq]
  refine ⟨⟨⟨by rw [hp.length_eq]; exact h1.1.1.1, ((hp.map If.id).nodup_iff).2 h1.1.1.2⟩, ((hp.map If.net).nodup_iff).2 h1.1.2⟩, ?_⟩
  rw [List.all_eq_true]
  exact fun x hx => h.ok x (hp.mem_iff.1 hx)
theorem sortI_perm {l M : List If} (h : Good l) (hp : M.Perm l) : sortI M = sortI l :=
  sorted_eq (sortI_sorted (h.perm hp).ndid) (sortI_sorted h.ndid) fun x => by rw [sortI_mem, sortI_mem]; exact hp.mem_iff
theorem opt_one {r r' : If} {is is' : Bool} (h : (if is then some r else none) = (if is' then some r' else none)) (z : is = false → r = ⟨0, 0, 0, 0, 0⟩) (z' : is' = false → r' = ⟨0, 0, 0, 0, 0⟩) : r = r' ∧ is = is' := by
  cases is <;> cases is'
  · exact ⟨(z rfl).trans (z' rfl).symm, rfl⟩
  · simp at h
  · simp at h
  · simp at h; exact ⟨h, rfl⟩
def FindsSo (D : HD) (ρ : Int) (a : Nat) (r : If) (is : Bool) : Prop := ∀ w h, HopsAt w h D → Calls Try.prog 14 #[.pointer (some ⟨h, 0, none⟩), .int .i64 ρ, .int .u32 a] w fun e w' => e = .returned (.tuple #[.agg #[.int .i64 r.id, .int .i64 r.r, .int .u32 (r.ad : Int), .int .i64 r.ln, .int .i64 r.cp], .bool is]) ∧ Below w.heap.size w w'
theorem find_pair {l M : List If} (hg : Good l) (hp : M.Perm l) (ρ : Int) {a : Nat} (ha : a < 4294967296) : ∃ r is, FindsSo (hdOf l) ρ a r is ∧ FindsSo (hdOf M) ρ a r is := by
  obtain ⟨r, is, e, z, c⟩ := find_both hg ρ ha
  obtain ⟨r', is', e', z', c'⟩ := find_both (hg.perm hp) ρ ha
  have he : (refFind l ρ a).map (fun j => l.getD j default) = (refFind M ρ a).map (fun j => M.getD j default) := by
    by_cases hρ : ρ < 0 ∨ 15 < ρ
    · rw [refFind_out hg a hρ, refFind_out (hg.perm hp) a hρ]; rfl
    · obtain ⟨k, rfl⟩ : ∃ k : Nat, ρ = (k : Int) := ⟨ρ.toNat, by omega⟩
      rw [find_ref hg, find_ref (hg.perm hp)]
      exact find_perm hg (hg.perm hp) (fun x => hp.mem_iff.symm) k a
  rw [e, e'] at he
  obtain ⟨rfl, rfl⟩ := opt_one he z z'
  exact ⟨r, is, c, c'⟩
theorem rotI (l : List If) (q : Nat) : (l.drop q ++ l.take q).Perm l := by
  have : (l.take q ++ l.drop q).Perm (l.drop q ++ l.take q) := List.perm_append_comm
  rw [List.take_append_drop] at this
  exact this.symm
set_option maxRecDepth 100000 in
set_option maxHeartbeats 4000000 in
theorem hord_law {w : World} {oa : Option Addr} {n c : Nat} {l : List If} (hl : IfsW w oa n c l) (hnc : n ≤ c) (hcm : c ≤ maxLen) {turn : Int} (_ht : I3 turn) (ρ : Int) {a : Nat} (ha : a < 4294967296) : Calls Try.prog 4 #[.slice oa n c, .int .i64 turn, .int .i64 ρ, .int .u32 a] w fun e w' => e = .returned (.bool true) ∧ Below w.heap.size w w' := by
  have HL := Lib.hid hl.ifs.sl.len
  have HI := Lib.hid hl
  clear hl
  by_cases h100 : 100 < n
  · have h1 : ((100 : Int) < (n : Int)) = True := by simp; omega
    clear h100
    go_enter Try.func4, Try.ntmps4
    go_wp2_with fail
    refine (lives16 w).mono ?_
    rintro e W1 ⟨rfl, hb⟩
    have HB := Lib.hid hb
    clear hb
    go_wp2_with fail
    go_ret
    exact ⟨rfl, HB.out⟩
  have h1 : ((100 : Int) < (n : Int)) = False := by simp; omega
  by_cases hn0 : n = 0
  · subst hn0
    go_enter Try.func4, Try.ntmps4
    go_wp2_with fail
    refine (lives16 w).mono ?_
    rintro e W1 ⟨rfl, hb⟩
    have HB := Lib.hid hb
    clear hb
    go_wp2_with fail
    go_ret
    exact ⟨rfl, HB.out⟩
  have hnz : ((n : Int) == 0) = false := by rw [beq_eq_false_iff_ne]; omega
  by_cases htn : turn < 0
  · have ht1 : (turn < 0) = True := eq_true htn
    go_enter Try.func4, Try.ntmps4
    go_wp2_with fail
    refine (lives16 w).mono ?_
    rintro e W1 ⟨rfl, hb⟩
    have HB := Lib.hid hb
    clear hb
    go_wp2_with fail
    go_ret
    exact ⟨rfl, HB.out⟩
  have ht1 : (turn < 0) = False := eq_false htn
  obtain ⟨bg, hbg⟩ : ∃ bg, goodB l = bg := ⟨_, rfl⟩
  have HG := Lib.hid hbg
  clear hbg
  cases bg with
  | false =>
    go_enter Try.func4, Try.ntmps4
    go_wp2_with fail
    have hch := rchk_is HI.out.ifs
    rw [HG.out] at hch
    refine hch.mono ?_
    rintro e W1 ⟨rfl, hb⟩
    have F0 := Lib.hid (And.intro hb (HI.out.keep hb))
    clear hb hch
    go_wp2_with fail
    refine (lives16 W1).mono ?_
    rintro e W2 ⟨rfl, hb⟩
    have F1 := Lib.hid (And.intro (bcall F0.out.1 (Nat.le_refl _) hb) ((F0.out.2.keep hb)))
    clear F0
    clear hb
    go_wp2_with fail
    go_ret
    exact ⟨rfl, F1.out.1⟩
  | true =>
    have hgl := good_iff.1 HG.out
    obtain ⟨q, hq⟩ : ∃ q : Nat, turn % (n : Int) = (q : Int) := ⟨(turn % (n : Int)).toNat, by have := Int.emod_nonneg turn (show (n : Int) ≠ 0 by omega); omega⟩
    have hqn : q < n := by have := Int.emod_lt_of_pos turn (show (0 : Int) < (n : Int) by omega); omega
    obtain ⟨r, is, p1, p2⟩ := find_pair hgl (rotI l q) ρ ha
    have HP := Lib.hid (And.intro p1 p2)
    have HGL := Lib.hid hgl
    have hcm2 : c ≤ 9223372036854775807 := hcm
    obtain ⟨b, off, rfl, hrow⟩ := HI.out.ifs.sl.row (show 0 < n by omega)
    have HRW := Lib.hid hrow
    clear hgl p1 p2 hrow hcm
    go_enter Try.func4, Try.ntmps4
    go_wp2_with fail
    have hch := rchk_is HI.out.ifs
    rw [HG.out] at hch
    refine hch.mono ?_
    rintro e W1 ⟨rfl, hb⟩
    have F0 := Lib.hid (And.intro hb (HI.out.keep hb))
    clear hb hch
    go_wp2_with fail
    refine (hnew_ok F0.out.2.ifs HGL.out).mono ?_
    rintro e W2 ⟨g0, rfl, hH, hb⟩
    have F2 := Lib.hid (And.intro (bcall F0.out.1 (Nat.le_refl _) hb) (And.intro (F0.out.2.keep hb) (hH)))
    clear F0
    clear hb hH
    go_wp2_with fail
    have hq1 : q ≤ c := by omega
    have hq2 : ¬ c = q := by omega
    have hq3 : (q : Int) ≤ n := by omega
    have hq4 : q ≤ n := by omega
    refine wp_region_pieces (by kernel_rfl) ?_
    refine wpAny_pure [1, 2, 3, 5, 6, 7] (g := 9) rfl (by kernel_rfl) (fun _ _ d _ _ h => by cases d <;> exact h) ?_
    simp only [pick, List.getD_cons_zero, List.getD_cons_succ]
    iterate 6 ((with_reducible refine wpPure_step (fun K hK => ?_)); go_simp; with_reducible refine hK _ ?_; clear hK K)
    with_reducible refine wpPure_nil ?_
    have hd := (Below.refl W2.heap.size W2).drew
    have hrw : RIf.Row W2.drew b off l := HRW.out.below (F2.out.1.trans (hd.mono F2.out.1.size))
    have hlen := HL.out
    have hs1 : RIf.Sl W2.drew (some ⟨b, off + q * 5, none⟩) (n - q) (c - q) (l.drop q) := ⟨by rw [List.length_drop, ← hlen], by unfold maxLen; omega, fun _ => ⟨b, _, rfl, hrw.drop q⟩⟩
    have hs2 : RIf.Sl W2.drew (some ⟨b, off, none⟩) q c (l.take q) := ⟨by rw [List.length_take]; omega, by unfold maxLen; omega, fun _ => ⟨b, _, rfl, hrw.take q⟩⟩
    have F3 := Lib.hid (And.intro (bcall F2.out.1 (Nat.le_refl _) hd) (And.intro (F2.out.2.1.keep hd) (And.intro (F2.out.2.2.keep hd) (And.intro (hs1) ((hs2))))))
    clear F2
    clear hs1 hs2 hrw hlen hd
    generalize W2.drew = W3 at *
    refine wpAny_one 0 (by kernel_rfl) ?_
    simp only [pick, List.getD_cons_zero]
    go_wp2_with fail
    have hal := (Below.refl W3.heap.size W3).alloc (Nat.le_refl _) (.cells #[] 34)
    refine wpAny_one 4 (by kernel_rfl) ?_
    simp only [pick, List.getD_cons_zero, List.getD_cons_succ]
    go_wp2_with (at_builtin; refine halt ?_)
    refine Halted.go ?_
    refine Rep.append_list T23 rfl _ _ rfl (base := W3.heap.size) (L := []) (M := l.drop q) rfl ownE rfl (F3.out.2.2.2.1.keep hal) (fun e => by cases e) (by unfold maxLen; rw [List.length_nil]; omega) (by show (0 + (n - q)) * 40 ≤ _; omega) hal.size ?_
    intro v4 W4 hown4 hb4 _
    rw [List.nil_append] at hown4
    have H4 := Lib.hid (And.intro hown4 (hal.trans hb4))
    clear hown4 hb4 hal
    go_wp2_with fail
    refine wpAny_one 8 (by kernel_rfl) ?_
    simp only [pick, List.getD_cons_zero, List.getD_cons_succ]
    go_wp2_with (at_builtin; refine halt ?_)
    refine Halted.go ?_
    have hdl : (l.drop q).length = n - q := by rw [List.length_drop, ← HL.out]
    refine Rep.append_list T23 rfl _ _ rfl (base := W3.heap.size) (L := l.drop q) (M := l.take q) rfl H4.out.1 rfl (F3.out.2.2.2.2.keep H4.out.2) (fun e => by cases e) (by unfold maxLen; rw [hdl]; omega) (by show ((l.drop q).length + q) * 40 ≤ _; rw [hdl]; omega) H4.out.2.size ?_
    intro v5 W5 hown5 hb5 _
    have hbb := H4.out.2.trans hb5
    obtain ⟨a5, c5, rfl, hsl5, -⟩ := hown5.sl0
    rw [show (l.drop q ++ l.take q).length = n from by rw [(rotI l q).length_eq]; exact HL.out.symm] at hsl5 ⊢
    have hj : IfsW W5 a5 n c5 (l.drop q ++ l.take q) := ⟨⟨hsl5, fun x hx => HI.out.ifs.ad x ((rotI l q).mem_iff.1 hx)⟩, fun x hx => HI.out.ok x ((rotI l q).mem_iff.1 hx)⟩
    have F4 := Lib.hid (And.intro (bcall F3.out.1 (Nat.le_refl _) hbb) (And.intro (F3.out.2.1.keep hbb) (And.intro (F3.out.2.2.1.keep hbb) (hj))))
    clear F3
    clear hown5 hb5 hbb hsl5 hj hdl H4
    go_wp2_with fail
    refine wpAny_one 9 (by kernel_rfl) ?_
    simp only [pick, List.getD_cons_zero, List.getD_cons_succ]
    go_wp2_with fail
    refine (hnew_ok F4.out.2.2.2.ifs (HGL.out.perm (rotI l q))).mono ?_
    rintro e W6 ⟨h0, rfl, hH, hb⟩
    have F5 := Lib.hid (And.intro (bcall F4.out.1 (Nat.le_refl _) hb) (And.intro (F4.out.2.1.keep hb) (And.intro (F4.out.2.2.1.keep hb) (And.intro (F4.out.2.2.2.keep hb) (hH)))))
    clear F4
    clear hb hH
    go_wp2_with fail
    refine wpAny_pure [10, 11, 12] (g := 2) rfl (by kernel_rfl) (fun _ _ d _ _ h => by cases d <;> exact h) ?_
    simp only [pick, List.getD_cons_zero, List.getD_cons_succ]
    iterate 3 ((with_reducible refine wpPure_step (fun K hK => ?_)); go_simp; with_reducible refine hK _ ?_; clear hK K)
    with_reducible refine wpPure_nil ?_
    refine wpAny_one 13 (by kernel_rfl) ?_
    simp only [pick, List.getD_cons_zero, List.getD_cons_succ]
    go_wp2_with fail
    refine wpAny_one 14 (by kernel_rfl) ?_
    simp only [pick, List.getD_cons_zero, List.getD_cons_succ]
    go_wp2_with fail
    refine wpAny_done (by kernel_rfl) ?_ _
    go_wp2_with fail
    refine (HP.out.1 _ _ F5.out.2.2.1).mono ?_
    rintro e W7 ⟨rfl, hb⟩
    have hal := (Below.refl W7.heap.size W7).alloc (Nat.le_refl _) (.cells #[.int .i64 r.id, .int .i64 r.r, .int .u32 (r.ad : Int), .int .i64 r.ln, .int .i64 r.cp] 34)
    have hlb : (W7.alloc (.cells #[.int .i64 r.id, .int .i64 r.r, .int .u32 (r.ad : Int), .int .i64 r.ln, .int .i64 r.cp] 34)).heap[W7.heap.size]? = some (.cells #[.int .i64 r.id, .int .i64 r.r, .int .u32 (r.ad : Int), .int .i64 r.ln, .int .i64 r.cp] 34) := hnew _ _
    have hbb := bcall hb (Nat.le_refl _) hal
    have F6 := Lib.hid (And.intro (bcall F5.out.1 (Nat.le_refl _) hbb) (And.intro (F5.out.2.1.keep hbb) (And.intro (F5.out.2.2.1.keep hbb) (And.intro (F5.out.2.2.2.1.keep hbb) (And.intro (F5.out.2.2.2.2.keep hbb) (hlb))))))
    clear F5
    clear hal hlb hbb hb
    go_wp2_with fail
    generalize W7.alloc (.cells #[.int .i64 r.id, .int .i64 r.r, .int .u32 (r.ad : Int), .int .i64 r.ln, .int .i64 r.cp] 34) = W8 at *
    generalize W7.heap.size = q6 at *
    refine (HP.out.2 _ _ F6.out.2.2.2.2.1).mono ?_
    rintro e W9 ⟨rfl, hb⟩
    have hal := (Below.refl W9.heap.size W9).alloc (Nat.le_refl _) (.cells #[.int .i64 r.id, .int .i64 r.r, .int .u32 (r.ad : Int), .int .i64 r.ln, .int .i64 r.cp] 34)
    have hlb : (W9.alloc (.cells #[.int .i64 r.id, .int .i64 r.r, .int .u32 (r.ad : Int), .int .i64 r.ln, .int .i64 r.cp] 34)).heap[W9.heap.size]? = some (.cells #[.int .i64 r.id, .int .i64 r.r, .int .u32 (r.ad : Int), .int .i64 r.ln, .int .i64 r.cp] 34) := hnew _ _
    have hbb := bcall hb (Nat.le_refl _) hal
    have F7 := Lib.hid (And.intro (bcall F6.out.1 (Nat.le_refl _) hbb) (And.intro (F6.out.2.1.keep hbb) (And.intro (F6.out.2.2.1.keep hbb) (And.intro (F6.out.2.2.2.1.keep hbb) (And.intro (F6.out.2.2.2.2.1.keep hbb) (And.intro ((hbb.block _ (lt_of_blk F6.out.2.2.2.2.2)).trans F6.out.2.2.2.2.2) (hlb)))))))
    clear F6
    clear hal hlb hbb hb
    go_wp2_with fail
    generalize W9.alloc (.cells #[.int .i64 r.id, .int .i64 r.r, .int .u32 (r.ad : Int), .int .i64 r.ln, .int .i64 r.cp] 34) = W10 at *
    generalize W9.heap.size = q8 at *
    refine (lives16 W10).mono ?_
    rintro e W11 ⟨rfl, hb⟩
    have F8 := Lib.hid (And.intro (bcall F7.out.1 (Nat.le_refl _) hb) (And.intro (F7.out.2.1.keep hb) (And.intro (F7.out.2.2.1.keep hb) (And.intro (F7.out.2.2.2.1.keep hb) (And.intro (F7.out.2.2.2.2.1.keep hb) (And.intro ((hb.block _ (lt_of_blk F7.out.2.2.2.2.2.1)).trans F7.out.2.2.2.2.2.1) (((hb.block _ (lt_of_blk F7.out.2.2.2.2.2.2)).trans F7.out.2.2.2.2.2.2))))))))
    clear F7
    clear hb
    obtain ⟨x0, x1, x2, x3, x4⟩ := IfS.cells (x := r) F8.out.2.2.2.2.2.1
    obtain ⟨y0, y1, y2, y3, y4⟩ := IfS.cells (x := r) F8.out.2.2.2.2.2.2
    go_wp2_with fail
    have hsn : (sortI l).length = n := by rw [sortI_length]; exact HL.out.symm
    refine (all_any F8.out.2.2.1 HGL.out).mono ?_
    rintro e W12 ⟨v, rfl, hown, hb⟩
    obtain ⟨a6, c6, rfl, hsl, -⟩ := hown.sl0
    rw [hsn] at hsl ⊢
    have F9 := Lib.hid (And.intro (bcall F8.out.1 (Nat.le_refl _) hb) (And.intro (F8.out.2.1.keep hb) (And.intro (F8.out.2.2.1.keep hb) (And.intro (F8.out.2.2.2.1.keep hb) (And.intro (F8.out.2.2.2.2.1.keep hb) (hsl))))))
    clear F8
    clear hb hown hsl x0 x1 x2 x3 x4 y0 y1 y2 y3 y4
    go_wp2_with fail
    refine (all_any F9.out.2.2.2.2.1 (HGL.out.perm (rotI l q))).mono ?_
    rintro e W13 ⟨v, rfl, hown, hb⟩
    rw [sortI_perm HGL.out (rotI l q)] at hown
    obtain ⟨a7, c7, rfl, hsl, -⟩ := hown.sl0
    rw [hsn] at hsl ⊢
    have F10 := Lib.hid (And.intro (bcall F9.out.1 (Nat.le_refl _) hb) (And.intro (F9.out.2.1.keep hb) (And.intro (F9.out.2.2.1.keep hb) (And.intro (F9.out.2.2.2.1.keep hb) (And.intro (F9.out.2.2.2.2.1.keep hb) (And.intro (F9.out.2.2.2.2.2.keep hb) (hsl)))))))
    clear F9
    clear hb hown hsl
    go_wp2_with fail
    refine (rsameI F10.out.2.2.2.2.2.1 F10.out.2.2.2.2.2.2).mono ?_
    rintro e W14 ⟨rfl, hb⟩
    have F11 := Lib.hid (And.intro (bcall F10.out.1 (Nat.le_refl _) hb) (And.intro (F10.out.2.1.keep hb) (And.intro (F10.out.2.2.1.keep hb) (And.intro (F10.out.2.2.2.1.keep hb) (And.intro (F10.out.2.2.2.2.1.keep hb) (And.intro (F10.out.2.2.2.2.2.1.keep hb) ((F10.out.2.2.2.2.2.2.keep hb))))))))
    clear F10
    clear hb
    go_wp2_with fail
    go_ret
    exact ⟨rfl, F11.out.1⟩
end Go.Proofs.Ytlkbaplfffbmkaa
