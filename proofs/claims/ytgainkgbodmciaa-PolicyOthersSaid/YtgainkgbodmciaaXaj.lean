/- Rank. -/
import Derived.Test.YtgainkgbodmciaaXai
import Derived.Test.YtgainkgbodmciaaXaa
import Derived.Laws.StructEq
namespace Go.Proofs.Ytgainkgbodmciaa
open Go.RowKit

def rank : Nat → List Rt → List Rt
  | 0, _ => []
  | n + 1, L => L.getD (bestN L) default :: rank n (L.eraseIdx (bestN L))
theorem rank_length (n : Nat) : ∀ L, (rank n L).length = n := by
  induction n with
  | zero => intro L; rfl
  | succ n ih => intro L; simp [rank, ih]
def rankOf (L : List Rt) : List Rt := rank L.length L

set_option maxHeartbeats 2000000 in
theorem rank_any (oa : Option Addr) (n c : Nat) (L : List Rt) (w : World) (B : Nat) (hs : R40.Sl w oa n c L) (hc : oa = none → c = 0) (hi : Ins w B L) :
    Calls Try.prog 28 #[.slice oa n c] w fun e w' => ∃ v, e = .returned v ∧ R40.Own w' w.heap.size v (rankOf L) ∧ Below w.heap.size w w' := by
  have h60 : n ≤ 60 := by rw [hs.len]; exact hi.h60
  have HC := Lib.hid (clone_any oa n c L w hs hc (by omega))
  have HI := Lib.hid (And.intro hi hs.len)
  clear hs hi hc
  go_enter Try.func28, Try.ntmps28
  go_wp2_with fail
  refine (HC.out).mono ?_
  rintro e w1 ⟨v1, rfl, hown, hb⟩
  have hsz := hb.size
  rcases hown.cases with ⟨rfl, he⟩ | ⟨g, cap, rfl, hg, hgl, h1, h2, hrow, -, cur, hblk, hcs⟩
  · have HB := Lib.hid (And.intro hb he)
    clear hown hb he
    go_wp2_with fail
    refine wp_loop_once ?_
    go_wp2_with fail
    go_ret
    obtain ⟨hb, rfl⟩ := HB.out
    exact ⟨_, rfl, Rep.Own.nil _ _, hb⟩
  · have hln : L.length = n := HI.out.2.symm
    rw [hln]
    have HB := Lib.hid (And.intro hb (And.intro (show Hold w1 g cap L from ⟨⟨cur, hblk, hcs⟩, hrow, h1, h2⟩) hln))
    clear hown hb hrow hblk hcs h1 h2 hln
    go_wp2_with fail
    go_loopw [3, 4, 5, 6] (fun rv ov _ _ wr => ∃ (k : Nat) (M O : List Rt), rv = .slice (some ⟨g, 0, none⟩) k cap ∧ M.length = k ∧ k ≤ n ∧ O.length = n - k ∧ O ++ rank k M = rankOf L ∧ (∀ x ∈ M, x ∈ L) ∧ Hold wr g cap M ∧ R40.Own wr w1.heap.size ov O ∧ But w1 wr [g]) (fun rv _ _ _ _ => match rv with | .slice _ n _ => n | _ => 0)
    case atStart =>
      obtain ⟨hb, hh, hln⟩ := HB.out
      exact ⟨n, L, [], rfl, hln, Nat.le_refl _, by simp, by unfold rankOf; rw [hln]; rfl, fun _ h => h, hh, Rep.Own.nil _ _, But.refl _ _⟩
    case round =>
      obtain ⟨k, M, O, rfl, hMk, hkn, hOl, hrk, hsub, hhold, hown, hbut⟩ := hrel
      cases k with
      | zero =>
        have HF := Lib.hid (And.intro hrk (And.intro hown hbut))
        clear hrk hown hbut hhold hsub hMk hOl
        go_wp2_with fail
        go_ret
        obtain ⟨hrk, hown, hbut⟩ := HF.out
        simp only [rank, List.append_nil] at hrk
        rw [← hrk]
        exact ⟨_, rfl, hown.mono hsz, HB.out.1.trans (hbut.below hsz (by simpa using hg))⟩
      | succ m =>
        have hne : M ≠ [] := by intro h; rw [h] at hMk; simp at hMk
        obtain ⟨hbl, -⟩ := best_head M hne
        obtain ⟨i, hi⟩ : ∃ i, i = bestN M := ⟨_, rfl⟩
        have hbw : Below B w wr := (HB.out.1.mono HI.out.1.hB).trans (hbut.below (Nat.le_trans HI.out.1.hB hsz) (by simpa using Nat.le_trans HI.out.1.hB hg))
        have hbest := best_any (some ⟨g, 0, none⟩) (m + 1) cap M wr B ⟨hMk.symm, by unfold maxLen; omega, fun _ => ⟨g, 0, rfl, hhold.row⟩⟩ ((HI.out.1.below hbw).sub hsub (by omega))
        rw [← hi] at hbest hbl
        rw [show (!M.isEmpty) = true by cases M; exact absurd rfl hne; rfl] at hbest
        have hrk' : (O ++ [M.getD i default]) ++ rank m (M.eraseIdx i) = rankOf L := by rw [← hrk, hi]; simp [rank]
        have hatx : R40.At wr g (i * 10) (M.getD i default) := by have := hhold.row.get i hbl; rwa [Nat.zero_add] at this
        have hil : i < m + 1 := by omega
        have hgl2 : g < wr.heap.size := hhold.row.lt
        have hgf := hg
        generalize hx : M.getD i default = x at *
        have HB1 := Lib.hid hbest
        have HS := Lib.hid (And.intro hMk (And.intro hOl (And.intro hrk' (And.intro hsub (And.intro hhold (And.intro hown (And.intro hbut hatx)))))))
        clear hbest hMk hOl hrk' hsub hhold hown hbut hatx hrk hne hbl hi hx hbw
        have hf : (0 : Int) < ((m + 1 : Nat) : Int) := by omega
        go_wp2_with fail
        refine (HB1.out).mono ?_
        rintro e w2 ⟨rfl, hb2⟩
        have hat := (HS.out.2.2.2.2.2.2.2).keep (hb2.block g hgl2)
        have c0 := hat 0 (by decide)
        have c1 := hat 1 (by decide)
        have c2 := hat 2 (by decide)
        have c3 := hat 3 (by decide)
        have c4 := hat 4 (by decide)
        have c5 := hat 5 (by decide)
        have c6 := hat 6 (by decide)
        have c7 := hat 7 (by decide)
        have c8 := hat 8 (by decide)
        have c9 := hat 9 (by decide)
        simp only [R40, Rt.cells, Nat.add_zero, List.getElem?_cons_zero, List.getElem?_cons_succ] at c0 c1 c2 c3 c4 c5 c6 c7 c8 c9
        have hil' : (i : Int) < (m : Int) + 1 := by omega
        have HB2 := Lib.hid hb2
        have hsz2 := hb2.size
        have hsz3 := HS.out.2.2.2.2.2.2.1.size
        clear hb2 hat
        go_wp2_with (at_builtin; refine halt ?_)
        refine Halted.go ?_
        refine Rep.append_one T22 rfl _ _ rfl rfl ((HS.out.2.2.2.2.2.1.below HB2.out).alloc _) x w2.heap.size 1 rfl (hnew _ _) HS.out.2.1 (by unfold maxLen; omega) (by omega) (by simp; omega) ?_
        intro v' w3 hown' hb3 _
        have HO := Lib.hid (And.intro hown' hb3)
        have hg3 : w3.heap[g]? = wr.heap[g]? := (hb3.block g hgl).trans ((Below.heap_alloc w2 _ g (by omega)).trans (HB2.out.block g hgl2))
        have HD := Lib.hid (delete_any g cap m i _ w3 HS.out.1 hil (HS.out.2.2.2.2.1.keep hg3) (by omega))
        clear hown' hb3 hg3 c0 c1 c2 c3 c4 c5 c6 c7 c8 c9
        go_wp2_with fail
        refine (HD.out).mono ?_
        rintro e w4 ⟨rfl, hh4, hb4⟩
        have H4 := Lib.hid (And.intro hh4 hb4)
        clear hh4 hb4
        go_wp2_with fail
        go_roundw
        case rel =>
          obtain ⟨hMk, hOl, hrk', hsub, hhold, hown, hbut, -⟩ := HS.out
          obtain ⟨hh4, hb4⟩ := H4.out
          refine ⟨m, _, O ++ [x], rfl, ?_, by omega, ?_, hrk', ?_, hh4, ?_, ?_⟩
          · rw [List.length_eraseIdx]; split <;> omega
          · simp; omega
          · exact fun y hy => hsub y (List.mem_of_mem_eraseIdx hy)
          · exact HO.out.1.but hb4 (by simpa using hgl)
          · exact (Rep.But.step (Rep.But.step hbut (HB2.out.alloc hsz2 _) hsz3) HO.out.2 (Nat.le_refl _)).trans (hb4.mono (by simp))
        case measure => simp
end Go.Proofs.Ytgainkgbodmciaa
/- worse: the reference's criteria. -/
namespace Go.Proofs.Ytgainkgbodmciaa
open Go.RowKit

def Rt.val (x : Rt) : Value := .agg #[.int .i64 x.r, .int .u32 x.a, .int .i64 x.l, .int .i64 x.i, .int .i64 x.o, .slice x.pa x.pn x.pc, .int .u32 x.nx, .int .i64 x.md, .int .i64 x.pf, .slice x.ca x.cn x.cc]
set_option maxHeartbeats 2000000 in
theorem worse0 (x y : Rt) (w : World) (B : Nat) (_hB : B ≤ w.heap.size) (_hx : RtOk w B x) (_hsx : Small x) (_hy : RtOk w B y) (_hsy : Small y) :
    Calls Try.prog 57 #[.int .i64 0, x.val, y.val] w fun e w' => e = .returned (.bool (worse 0 (lookOf x) (lookOf y))) ∧ Below w.heap.size w w' := by
  have HX := Lib.hid (fun w' => rpref_any x w')
  have HY := Lib.hid (fun w' => rpref_any y w')
  clear _hx _hsx _hy _hsy
  unfold Rt.val
  unfold Rt.attrs at HX HY
  go_enter Try.func57, Try.ntmps57
  go_wp2_with fail
  refine wp_region_quiet_tail (fun w' => Below (w.heap.size + 2) ((w.alloc (.cells #[.int .i64 x.r, .int .u32 x.a, .int .i64 x.l, .int .i64 x.i, .int .i64 x.o, .slice x.pa x.pn x.pc, .int .u32 x.nx, .int .i64 x.md, .int .i64 x.pf, .slice x.ca x.cn x.cc] 44)).alloc (.cells #[.int .i64 y.r, .int .u32 y.a, .int .i64 y.l, .int .i64 y.i, .int .i64 y.o, .slice y.pa y.pn y.pc, .int .u32 y.nx, .int .i64 y.md, .int .i64 y.pf, .slice y.ca y.cn y.cc] 44)) w') 7 (by kernel_rfl) (by kernel_rfl) (Below.drew (Below.refl _ _)) ?_
  simp only [List.take_succ_cons, List.take_zero, List.drop_succ_cons, List.drop_zero]
  iterate 7 (refine wpQuiet_step (fun K hK => ?_); go_simp; first | (refine hK _ ?_; clear hK K) | (apply Exists.intro; refine ⟨fun w' hw' => ?_, hK _ ?_⟩; first | (go_at_call 80; (with_reducible refine (HX.out w').mono ?_); rintro e w2 ⟨rfl, hb⟩; exact ⟨rfl, hw'.trans (hb.mono (by have := hw'.size; simp at this; omega))⟩) | (go_at_call 80; (with_reducible refine (HY.out w').mono ?_); rintro e w2 ⟨rfl, hb⟩; exact ⟨rfl, hw'.trans (hb.mono (by have := hw'.size; simp at this; omega))⟩) | (have hc0 := fun j => Below.cell hw' (p := ⟨w.heap.size, j, none⟩) (by simp); have hc1 := fun j => Below.cell hw' (p := ⟨w.heap.size + 1, j, none⟩) (by simp); go_simp; first | exact rfl | exact ⟨rfl, rfl⟩); clear hK K))
  refine wpQuiet_nil ?_
  intro wq hq
  go_wp2_with fail
  go_ret
  exact ⟨ret_bool (by unfold worse lookOf; simp), (((Below.refl _ _).alloc (Nat.le_refl _) _).alloc (by simp) _).trans (hq.mono (by omega))⟩
set_option maxHeartbeats 2000000 in
theorem worse1 (x y : Rt) (w : World) (B : Nat) (hB : B ≤ w.heap.size) (hx : RtOk w B x) (hsx : Small x) (hy : RtOk w B y) (hsy : Small y) :
    Calls Try.prog 57 #[.int .i64 1, x.val, y.val] w fun e w' => e = .returned (.bool (worse 1 (lookOf x) (lookOf y))) ∧ Below w.heap.size w w' := by
  have HX := Lib.hid (fun w' (h : Below w.heap.size w w') => rlength_any x w' B (Nat.le_trans hB h.size) (hx.below (h.mono hB)) hsx)
  have HY := Lib.hid (fun w' (h : Below w.heap.size w w') => rlength_any y w' B (Nat.le_trans hB h.size) (hy.below (h.mono hB)) hsy)
  clear hx hsx hy hsy
  unfold Rt.val
  unfold Rt.attrs at HX HY
  go_enter Try.func57, Try.ntmps57
  go_wp2_with fail
  refine wp_region_quiet_tail (fun w' => Below (w.heap.size + 2) ((w.alloc (.cells #[.int .i64 x.r, .int .u32 x.a, .int .i64 x.l, .int .i64 x.i, .int .i64 x.o, .slice x.pa x.pn x.pc, .int .u32 x.nx, .int .i64 x.md, .int .i64 x.pf, .slice x.ca x.cn x.cc] 44)).alloc (.cells #[.int .i64 y.r, .int .u32 y.a, .int .i64 y.l, .int .i64 y.i, .int .i64 y.o, .slice y.pa y.pn y.pc, .int .u32 y.nx, .int .i64 y.md, .int .i64 y.pf, .slice y.ca y.cn y.cc] 44)) w') 7 (by kernel_rfl) (by kernel_rfl) (Below.drew (Below.refl _ _)) ?_
  simp only [List.take_succ_cons, List.take_zero, List.drop_succ_cons, List.drop_zero]
  iterate 7 (refine wpQuiet_step (fun K hK => ?_); go_simp; first | (refine hK _ ?_; clear hK K) | (apply Exists.intro; refine ⟨fun w' hw' => ?_, hK _ ?_⟩; first | (go_at_call 81; (with_reducible refine (HX.out w' ((((Below.refl _ _).alloc (Nat.le_refl _) _).alloc (by simp) _).trans (hw'.mono (by omega)))).mono ?_); rintro e w2 ⟨rfl, hb⟩; exact ⟨rfl, hw'.trans (hb.mono (by have := hw'.size; simp at this; omega))⟩) | (go_at_call 81; (with_reducible refine (HY.out w' ((((Below.refl _ _).alloc (Nat.le_refl _) _).alloc (by simp) _).trans (hw'.mono (by omega)))).mono ?_); rintro e w2 ⟨rfl, hb⟩; exact ⟨rfl, hw'.trans (hb.mono (by have := hw'.size; simp at this; omega))⟩) | (have hc0 := fun j => Below.cell hw' (p := ⟨w.heap.size, j, none⟩) (by simp); have hc1 := fun j => Below.cell hw' (p := ⟨w.heap.size + 1, j, none⟩) (by simp); go_simp; first | exact rfl | exact ⟨rfl, rfl⟩); clear hK K))
  refine wpQuiet_nil ?_
  intro wq hq
  go_wp2_with fail
  go_ret
  exact ⟨ret_bool (by unfold worse lookOf; simp), (((Below.refl _ _).alloc (Nat.le_refl _) _).alloc (by simp) _).trans (hq.mono (by omega))⟩
set_option maxHeartbeats 2000000 in
theorem worse2 (x y : Rt) (w : World) (B : Nat) (_hB : B ≤ w.heap.size) (_hx : RtOk w B x) (_hsx : Small x) (_hy : RtOk w B y) (_hsy : Small y) :
    Calls Try.prog 57 #[.int .i64 2, x.val, y.val] w fun e w' => e = .returned (.bool (worse 2 (lookOf x) (lookOf y))) ∧ Below w.heap.size w w' := by
  clear _hx _hsx _hy _hsy
  unfold Rt.val
  go_enter Try.func57, Try.ntmps57
  go_wp2_with fail
  go_ret
  exact ⟨ret_bool (by unfold worse lookOf; simp), ((Below.refl _ _).alloc (Nat.le_refl _) _).alloc (by simp) _⟩
set_option maxHeartbeats 2000000 in
theorem worse3 (x y : Rt) (w : World) (B : Nat) (hB : B ≤ w.heap.size) (hx : RtOk w B x) (_hsx : Small x) (hy : RtOk w B y) (_hsy : Small y) :
    Calls Try.prog 57 #[.int .i64 3, x.val, y.val] w fun e w' => e = .returned (.bool (worse 3 (lookOf x) (lookOf y))) ∧ Below w.heap.size w w' := by
  have HX := Lib.hid (fun w' (h : Below w.heap.size w w') => rfirst_any x w' B (Nat.le_trans hB h.size) (hx.below (h.mono hB)))
  have HY := Lib.hid (fun w' (h : Below w.heap.size w w') => rfirst_any y w' B (Nat.le_trans hB h.size) (hy.below (h.mono hB)))
  have MX := Lib.hid (fun w' => rmed_any x w')
  have MY := Lib.hid (fun w' => rmed_any y w')
  clear hx _hsx hy _hsy
  unfold Rt.val
  unfold Rt.attrs at HX HY MX MY
  rcases Bool.eq_false_or_eq_true (pfirst x.path == pfirst y.path) with hfe | hfe
  all_goals
    have HE := Lib.hid hfe
    go_enter Try.func57, Try.ntmps57
    go_wp2_with fail
    refine wp_region_quiet_tail (fun w' => Below (w.heap.size + 2) ((w.alloc (.cells #[.int .i64 x.r, .int .u32 x.a, .int .i64 x.l, .int .i64 x.i, .int .i64 x.o, .slice x.pa x.pn x.pc, .int .u32 x.nx, .int .i64 x.md, .int .i64 x.pf, .slice x.ca x.cn x.cc] 44)).alloc (.cells #[.int .i64 y.r, .int .u32 y.a, .int .i64 y.l, .int .i64 y.i, .int .i64 y.o, .slice y.pa y.pn y.pc, .int .u32 y.nx, .int .i64 y.md, .int .i64 y.pf, .slice y.ca y.cn y.cc] 44)) w') 16 (by kernel_rfl) (by kernel_rfl) (Below.drew (Below.refl _ _)) ?_
    simp only [List.take_succ_cons, List.take_zero, List.drop_succ_cons, List.drop_zero]
    iterate 16 (refine wpQuiet_step (fun K hK => ?_); go_simp; first | (refine hK _ ?_; clear hK K) | (apply Exists.intro; refine ⟨fun w' hw' => ?_, hK _ ?_⟩; first | (go_at_call 82; (with_reducible refine (HX.out w' ((((Below.refl _ _).alloc (Nat.le_refl _) _).alloc (by simp) _).trans (hw'.mono (by omega)))).mono ?_); rintro e w2 ⟨rfl, hb⟩; exact ⟨rfl, hw'.trans (hb.mono (by have := hw'.size; simp at this; omega))⟩) | (go_at_call 82; (with_reducible refine (HY.out w' ((((Below.refl _ _).alloc (Nat.le_refl _) _).alloc (by simp) _).trans (hw'.mono (by omega)))).mono ?_); rintro e w2 ⟨rfl, hb⟩; exact ⟨rfl, hw'.trans (hb.mono (by have := hw'.size; simp at this; omega))⟩) | (go_at_call 83; (with_reducible refine (MX.out w').mono ?_); rintro e w2 ⟨rfl, hb⟩; exact ⟨rfl, hw'.trans (hb.mono (by have := hw'.size; simp at this; omega))⟩) | (go_at_call 83; (with_reducible refine (MY.out w').mono ?_); rintro e w2 ⟨rfl, hb⟩; exact ⟨rfl, hw'.trans (hb.mono (by have := hw'.size; simp at this; omega))⟩) | (have hc0 := fun j => Below.cell hw' (p := ⟨w.heap.size, j, none⟩) (by simp); have hc1 := fun j => Below.cell hw' (p := ⟨w.heap.size + 1, j, none⟩) (by simp); go_simp; first | exact rfl | exact ⟨rfl, rfl⟩); clear hK K))
    refine wpQuiet_nil ?_
    intro wq hq
    clear hfe
    go_wp2_with fail
    go_ret
    have hfe := HE.out
    exact ⟨ret_bool (by unfold worse lookOf; simp at hfe ⊢; simp [hfe]), (((Below.refl _ _).alloc (Nat.le_refl _) _).alloc (by simp) _).trans (hq.mono (by omega))⟩
set_option maxHeartbeats 2000000 in
theorem worse4 (x y : Rt) (w : World) (B : Nat) (_hB : B ≤ w.heap.size) (_hx : RtOk w B x) (_hsx : Small x) (_hy : RtOk w B y) (_hsy : Small y) :
    Calls Try.prog 57 #[.int .i64 4, x.val, y.val] w fun e w' => e = .returned (.bool (worse 4 (lookOf x) (lookOf y))) ∧ Below w.heap.size w w' := by
  clear _hx _hsx _hy _hsy
  unfold Rt.val
  go_enter Try.func57, Try.ntmps57
  go_wp2_with fail
  go_ret
  exact ⟨ret_bool (by unfold worse lookOf; simp), ((Below.refl _ _).alloc (Nat.le_refl _) _).alloc (by simp) _⟩
set_option maxHeartbeats 2000000 in
theorem worse5 (x y : Rt) (w : World) (B : Nat) (_hB : B ≤ w.heap.size) (_hx : RtOk w B x) (_hsx : Small x) (_hy : RtOk w B y) (_hsy : Small y) :
    Calls Try.prog 57 #[.int .i64 5, x.val, y.val] w fun e w' => e = .returned (.bool (worse 5 (lookOf x) (lookOf y))) ∧ Below w.heap.size w w' := by
  clear _hx _hsx _hy _hsy
  unfold Rt.val
  go_enter Try.func57, Try.ntmps57
  go_wp2_with fail
  go_ret
  exact ⟨ret_bool (by unfold worse lookOf; simp), ((Below.refl _ _).alloc (Nat.le_refl _) _).alloc (by simp) _⟩
end Go.Proofs.Ytgainkgbodmciaa
/- cut: the reference's places of those that are left. -/
namespace Go.Proofs.Ytgainkgbodmciaa
open Go.RowKit

theorem worse_any (s : Nat) (hs : s < 6) (x y : Rt) (w : World) (B : Nat) (hB : B ≤ w.heap.size) (hx : RtOk w B x) (hsx : Small x) (hy : RtOk w B y) (hsy : Small y) :
    Calls Try.prog 57 #[.int .i64 (s : Int), x.val, y.val] w fun e w' => e = .returned (.bool (worse s (lookOf x) (lookOf y))) ∧ Below w.heap.size w w' := by
  match s, hs with
  | 0, _ => exact worse0 x y w B hB hx hsx hy hsy
  | 1, _ => exact worse1 x y w B hB hx hsx hy hsy
  | 2, _ => exact worse2 x y w B hB hx hsx hy hsy
  | 3, _ => exact worse3 x y w B hB hx hsx hy hsy
  | 4, _ => exact worse4 x y w B hB hx hsx hy hsy
  | 5, _ => exact worse5 x y w B hB hx hsx hy hsy
def R36 : Rep Nat := ⟨3, 1, by decide, fun n => [.int .i64 (n : Int)], fun _ => rfl, fun _ => rfl⟩
theorem T36 : Rep.Ty Try.prog 24 R36 8 := Rep.Ty.mk' Try.underlying24 (z := .int .i64 0) (by kernel_rfl) rfl
def lookI (L : List Rt) (i : Nat) : Look := lookOf (L.getD i default)
def cutI (L : List Rt) (s : Nat) : List Nat := cut (lookI L) s (List.range L.length)
theorem cutI_lt {L : List Rt} {s i : Nat} (h : i ∈ cutI L s) : i < L.length := by simpa using (cut_sub (f := lookI L) (List.range L.length) s).subset h
theorem cutI_length (L : List Rt) (s : Nat) : (cutI L s).length ≤ L.length := by unfold cutI; simpa using (cut_sub (f := lookI L) (List.range L.length) s).length_le
theorem getD_mem {α : Type} [Inhabited α] {M : List α} {i : Nat} (h : i < M.length) : M.getD i default ∈ M := by
  rw [List.getD_eq_getElem?_getD, List.getElem?_eq_getElem h]; exact List.getElem_mem _
theorem all_take_succ {α : Type} [Inhabited α] (M : List α) (p : α → Bool) (k : Nat) (h : k < M.length) : (M.take (k + 1)).all p = ((M.take k).all p && p (M.getD k default)) := by
  rw [List.take_succ_eq_append_getElem h, List.all_append]
  simp [List.getD_eq_getElem?_getD, h]
theorem filter_take_succ {α : Type} [Inhabited α] (M : List α) (p : α → Bool) (k : Nat) (h : k < M.length) : (M.take (k + 1)).filter p = (M.take k).filter p ++ (if p (M.getD k default) then [M.getD k default] else []) := by
  rw [List.take_succ_eq_append_getElem h, List.filter_append]
  have : M.getD k default = M[k] := by simp [List.getD_eq_getElem?_getD, h]
  rw [this]
  by_cases hp : p M[k] = true <;> simp [hp]

set_option maxHeartbeats 4000000 in
theorem cut_some (b off c n steps : Nat) (L : List Rt) (w : World) (B : Nat) (hL : L ≠ []) (hn : L.length = n) (hr : R40.Row w b off L) (hi : Ins w B L) (h6 : steps ≤ 6) :
    Calls Try.prog 32 #[.slice (some ⟨b, off, none⟩) n c, .int .i64 (steps : Int)] w fun e w' => ∃ v, e = .returned v ∧ R36.Own w' w.heap.size v (cutI L steps) ∧ Below w.heap.size w w' := by
  have HD := Lib.hid (And.intro hr (And.intro hi (And.intro hn hL)))
  have h60 : n ≤ 60 := by rw [← hn]; exact hi.h60
  have lb := hr.lt
  clear hr hi hn hL
  go_enter Try.func32, Try.ntmps32
  go_wp2_with fail
  go_loopw [5, 6] (fun v i wr => ∃ k : Nat, k ≤ n ∧ i = .int .i64 k ∧ R36.Own wr w.heap.size v (List.range k) ∧ Below w.heap.size w wr) (fun _ i _ => n - (intOf i).toNat)
  case atStart => exact ⟨0, Nat.zero_le _, rfl, Rep.Own.nil _ _, Below.refl _ _⟩
  case round =>
    obtain ⟨k, hk, rfl, hown, hb⟩ := hrel
    have hsz := hb.size
    by_cases hlt : k < n
    · have HK := Lib.hid (And.intro hown hb)
      clear hown hb
      go_wp2_with (at_builtin; refine halt ?_)
      refine Halted.go ?_
      refine Rep.append_one T36 rfl _ _ rfl rfl (HK.out.1.alloc _) k wr.heap.size 1 rfl (hnew _ _) (List.length_range) (by unfold maxLen; omega) (by omega) (by simp; omega) ?_
      intro v' w1 hown' hb1 _
      have HO := Lib.hid (And.intro hown' hb1)
      clear hown' hb1
      go_wp2_with fail
      go_roundw
      case rel => exact ⟨k + 1, by omega, by go_num, by rw [List.range_succ]; exact HO.out.1, (HK.out.2.alloc hsz _).trans HO.out.2⟩
      case measure => simp [intOf]; omega
    · have hf : ¬ ((k : Int) < n) := by omega
      have hkn : k = n := by omega
      subst hkn
      have HK := Lib.hid (And.intro hown hb)
      clear hown hb hlt
      go_wp2_with fail
      obtain ⟨wx, hwx⟩ : ∃ wx, wx = wr := ⟨_, rfl⟩
      go_loopw [5, 7] (fun v i wr => ∃ s : Nat, s ≤ steps ∧ i = .int .i64 s ∧ R36.Own wr w.heap.size v (cutI L s) ∧ Below w.heap.size w wr) (fun _ i _ => steps - (intOf i).toNat)
      case atStart =>
        refine ⟨0, Nat.zero_le _, rfl, ?_, HK.out.2⟩
        have := HK.out.1
        unfold cutI
        rw [cut_zero, HD.out.2.2.1]
        exact this
      case round =>
        obtain ⟨s, hs, rfl, hown, hb⟩ := hrel
        have hsz := hb.size
        by_cases hlt : s < steps
        · obtain ⟨hr, hi, hn, hL⟩ := HD.out
          have hne : cutI L s ≠ [] := cut_ne (f := lookI L) (by intro h; exact hL (List.length_eq_zero_iff.1 (by rw [← List.length_range (n := L.length), h]; rfl))) s
          rcases hown.cases with ⟨_, he⟩ | ⟨g, cap, rfl, hg, hgl, h1, h2, hrow, -⟩
          · exact absurd he hne
          have hml := cutI_length L s
          obtain ⟨m, hm⟩ : ∃ m, m = (cutI L s).length := ⟨_, rfl⟩
          rw [← hm] at hml h1 ⊢
          obtain ⟨M, hM⟩ : ∃ M, M = cutI L s := ⟨_, rfl⟩
          rw [← hM] at hm hrow
          have hMlt : ∀ i ∈ M, i < k := fun i h => by rw [hM] at h; have := cutI_lt h; omega
          have hnext : keep (lookI L) s M = cutI L (s + 1) := by rw [hM]; unfold cutI; rw [cut_succ]
          have HS := Lib.hid (And.intro hown (And.intro hb (And.intro hrow (And.intro hm (And.intro hMlt hnext)))))
          have HL := Lib.hid (And.intro hr (And.intro hi hn))
          have hm60 : m ≤ 60 := by omega
          clear hown hb hrow hm hM hMlt hnext hr hi hn hL hne
          go_wp2_with fail
          obtain ⟨w2, rfl⟩ : ∃ w2 : World, w2 = wr := ⟨_, rfl⟩
          go_loopw [8, 9, 10, 11] (fun nv iv _ _ wr3 => ∃ i : Nat, i ≤ m ∧ iv = .int .i64 i ∧ R36.Own wr3 w2.heap.size nv ((M.take i).filter fun p => M.all fun q => !worse s (lookI L p) (lookI L q)) ∧ Below w2.heap.size w2 wr3) (fun _ iv _ _ _ => m - (intOf iv).toNat)
          case atStart => exact ⟨0, Nat.zero_le _, rfl, Rep.Own.nil _ _, Below.refl _ _⟩
          case round =>
            obtain ⟨i, him, rfl, hown, hb⟩ := hrel
            have hsz3 := hb.size
            by_cases hlt3 : i < m
            · have HK3 := Lib.hid (And.intro hown hb)
              clear hown hb
              go_wp2_with fail
              obtain ⟨w3, rfl⟩ : ∃ w3 : World, w3 = wr := ⟨_, rfl⟩
              obtain ⟨p, hp⟩ : ∃ p, p = M.getD i default := ⟨_, rfl⟩
              have hpm : p ∈ M := by rw [hp]; exact getD_mem (by rw [← HS.out.2.2.2.1]; exact hlt3)
              have hpk : p < k := HS.out.2.2.2.2.1 p hpm
              obtain ⟨x, hx⟩ : ∃ x, x = L.getD p default := ⟨_, rfl⟩
              have HP := Lib.hid (And.intro hp hx)
              clear hp hpm hx
              go_loopw [10, 11] (fun okv qv wr4 => ∃ q : Nat, q ≤ m ∧ qv = .int .i64 q ∧ okv = .bool ((M.take q).all fun q => !worse s (lookI L p) (lookI L q)) ∧ Below w3.heap.size w3 wr4) (fun _ qv _ => m - (intOf qv).toNat)
              case atStart => exact ⟨0, Nat.zero_le _, rfl, rfl, Below.refl _ _⟩
              case round =>
                obtain ⟨q, hqm, rfl, rfl, hb4⟩ := hrel
                have hsz4 := hb4.size
                by_cases hlt4 : q < m
                · obtain ⟨r, hrq⟩ : ∃ r, r = M.getD q default := ⟨_, rfl⟩
                  have hrm : r ∈ M := by rw [hrq]; exact getD_mem (by rw [← HS.out.2.2.2.1]; exact hlt4)
                  have hrk : r < k := HS.out.2.2.2.2.1 r hrm
                  obtain ⟨y, hy⟩ : ∃ y, y = L.getD r default := ⟨_, rfl⟩
                  have hb24 : Below w2.heap.size w2 wr := HK3.out.2.trans (hb4.mono hsz3)
                  have hbw : Below w.heap.size w wr := HS.out.2.1.trans (hb24.mono hsz)
                  have hrow4 := HS.out.2.2.1.below hb24
                  have hLr := HL.out.1.below hbw
                  have e0 := hrow4.get i (by rw [← HS.out.2.2.2.1]; exact hlt3) 0 (by decide)
                  have f0 := hrow4.get q (by rw [← HS.out.2.2.2.1]; exact hlt4) 0 (by decide)
                  rw [← HP.out.1] at e0
                  rw [← hrq] at f0
                  simp only [R36, Nat.mul_one, Nat.zero_add, Nat.add_zero, List.getElem?_cons_zero] at e0 f0
                  have hatx := hLr.get p (by rw [HL.out.2.2]; exact hpk)
                  have haty := hLr.get r (by rw [HL.out.2.2]; exact hrk)
                  rw [← HP.out.2] at hatx
                  rw [← hy] at haty
                  have c0 := hatx 0 (by decide)
                  have c1 := hatx 1 (by decide)
                  have c2 := hatx 2 (by decide)
                  have c3 := hatx 3 (by decide)
                  have c4 := hatx 4 (by decide)
                  have c5 := hatx 5 (by decide)
                  have c6 := hatx 6 (by decide)
                  have c7 := hatx 7 (by decide)
                  have c8 := hatx 8 (by decide)
                  have c9 := hatx 9 (by decide)
                  simp only [R40, Rt.cells, Nat.add_zero, List.getElem?_cons_zero, List.getElem?_cons_succ] at c0 c1 c2 c3 c4 c5 c6 c7 c8 c9
                  have d0 := haty 0 (by decide)
                  have d1 := haty 1 (by decide)
                  have d2 := haty 2 (by decide)
                  have d3 := haty 3 (by decide)
                  have d4 := haty 4 (by decide)
                  have d5 := haty 5 (by decide)
                  have d6 := haty 6 (by decide)
                  have d7 := haty 7 (by decide)
                  have d8 := haty 8 (by decide)
                  have d9 := haty 9 (by decide)
                  simp only [R40, Rt.cells, Nat.add_zero, List.getElem?_cons_zero, List.getElem?_cons_succ] at d0 d1 d2 d3 d4 d5 d6 d7 d8 d9
                  have hxm : x ∈ L := by rw [HP.out.2]; exact getD_mem (by rw [HL.out.2.2]; exact hpk)
                  have hym : y ∈ L := by rw [hy]; exact getD_mem (by rw [HL.out.2.2]; exact hrk)
                  have hin := HL.out.2.1.below (hbw.drew.mono HL.out.2.1.hB)
                  have HW := Lib.hid (worse_any s (by omega) x y wr.drew B hin.hB (hin.ok x hxm).1 (hin.ok x hxm).2 (hin.ok y hym).1 (hin.ok y hym).2)
                  unfold Rt.val at HW
                  have hts := all_take_succ M (fun q => !worse s (lookI L p) (lookI L q)) q (by rw [← HS.out.2.2.2.1]; exact hlt4)
                  have HQ := Lib.hid (And.intro hb4 (And.intro hts (And.intro hrq hy)))
                  clear hb4 hts hrq hy hin hxm hym hatx haty hLr hrow4 hbw hb24 hrm
                  go_wp2_with fail
                  refine wp_region_quiet_tail (fun w' => w' = wr.drew) 15 (by kernel_rfl) (by kernel_rfl) rfl ?_
                  simp only [List.take_succ_cons, List.take_zero, List.drop_succ_cons, List.drop_zero]
                  iterate 15 (refine wpQuiet_step (fun K hK => ?_); go_simp; refine hK _ ?_; clear hK K)
                  refine wpQuiet_nil ?_
                  rintro _ rfl
                  clear e0 f0 c0 c1 c2 c3 c4 c5 c6 c7 c8 c9 d0 d1 d2 d3 d4 d5 d6 d7 d8 d9
                  go_wp2_with fail
                  refine (HW.out).mono ?_
                  rintro e w5 ⟨rfl, hb5⟩
                  cases hwv : worse s (lookOf x) (lookOf y)
                  all_goals
                    have HV := Lib.hid (And.intro hwv hb5)
                    clear hwv hb5
                    go_wp2_with fail
                    go_roundw
                    case rel =>
                      refine ⟨q + 1, by omega, by go_num, ?_, HQ.out.1.trans ((show Below wr.heap.size wr w5 from undrew HV.out.2).mono hsz4)⟩
                      rw [HQ.out.2.1]
                      unfold lookI at *
                      rw [← HP.out.2, ← HQ.out.2.2.1, ← HQ.out.2.2.2, HV.out.1]
                      simp
                    case measure => simp [intOf]; omega
                · have hf : ¬ ((q : Int) < m) := by omega
                  have hqm' : M.take q = M := List.take_of_length_le (by rw [← HS.out.2.2.2.1]; omega)
                  rw [hqm']
                  have hb24 : Below w2.heap.size w2 wr := HK3.out.2.trans (hb4.mono hsz3)
                  have hrow4 := HS.out.2.2.1.below hb24
                  have e0 := hrow4.get i (by rw [← HS.out.2.2.2.1]; exact hlt3) 0 (by decide)
                  rw [← HP.out.1] at e0
                  simp only [R36, Nat.mul_one, Nat.zero_add, Nat.add_zero, List.getElem?_cons_zero] at e0
                  have hfs := filter_take_succ M (fun p => M.all fun q => !worse s (lookI L p) (lookI L q)) i (by rw [← HS.out.2.2.2.1]; exact hlt3)
                  rw [← HP.out.1] at hfs
                  have hfl : ((M.take i).filter fun p => M.all fun q => !worse s (lookI L p) (lookI L q)).length ≤ 60 := by
                    refine Nat.le_trans (List.length_filter_le _ _) ?_
                    rw [List.length_take]; omega
                  cases hall : M.all fun q => !worse s (lookI L p) (lookI L q) with
                  | true =>
                    rw [hall, if_pos rfl] at hfs
                    have HB4 := Lib.hid (And.intro hb4 (And.intro hb24 (And.intro hfs hfl)))
                    have hsz24 := hb24.size
                    clear hb4 hqm' hrow4 hb24 hfs hfl hall
                    go_wp2_with (at_builtin; refine halt ?_)
                    refine Halted.go ?_
                    refine Rep.append_one T36 rfl _ _ rfl rfl ((HK3.out.1.below HB4.out.1).alloc _) p wr.heap.size 1 rfl (hnew _ _) rfl (by have := HB4.out.2.2.2; unfold maxLen; omega) (by have := HB4.out.2.2.2; omega) (by simp; omega) ?_
                    intro v' w6 hown' hb6 _
                    have HO := Lib.hid (And.intro hown' hb6)
                    clear hown' hb6 e0
                    go_wp2_with fail
                    go_roundw
                    case rel =>
                      refine ⟨i + 1, by omega, by go_num, ?_, (HB4.out.2.1.alloc hsz24 _).trans HO.out.2⟩
                      rw [HB4.out.2.2.1]; exact HO.out.1
                    case measure => simp [intOf]; omega
                  | false =>
                    rw [hall, if_neg (by simp), List.append_nil] at hfs
                    have HB4 := Lib.hid (And.intro hb4 (And.intro hb24 hfs))
                    clear hb4 hqm' hrow4 hb24 hfs hfl hall e0
                    go_wp2_with fail
                    go_roundw
                    case rel =>
                      refine ⟨i + 1, by omega, by go_num, ?_, HB4.out.2.1⟩
                      rw [HB4.out.2.2]; exact HK3.out.1.below HB4.out.1
                    case measure => simp [intOf]; omega
            · have hf : ¬ ((i : Int) < m) := by omega
              have hmi : M.take i = M := List.take_of_length_le (by rw [← HS.out.2.2.2.1]; omega)
              rw [hmi] at hown
              have HF := Lib.hid (And.intro hown hb)
              clear hown hb hmi
              go_wp2_with fail
              go_roundw
              case rel =>
                refine ⟨s + 1, by omega, by go_num, ?_, HS.out.2.1.trans (HF.out.2.mono hsz)⟩
                rw [← HS.out.2.2.2.2.2]
                exact HF.out.1.mono hsz
              case measure => simp [intOf]; omega
        · have hf : ¬ ((s : Int) < steps) := by omega
          obtain rfl : s = steps := by omega
          have HF := Lib.hid (And.intro hown hb)
          clear hown hb hlt
          go_wp2_with fail
          go_ret
          exact ⟨_, rfl, HF.out.1, HF.out.2⟩
end Go.Proofs.Ytgainkgbodmciaa
/- The reference's Best and Left. -/
namespace Go.Proofs.Ytgainkgbodmciaa
open Go.RowKit

theorem withAt_eq (L : List Rt) : withAt L = (List.range L.length).map fun i => (L.getD i default, (i : Int)) := by
  unfold withAt
  apply List.ext_getElem
  · simp
  · intro i h1 h2
    simp at h1 h2
    simp [List.getD_eq_getElem?_getD, h1]
theorem cut_withAt (L : List Rt) (n : Nat) : cut lookC n (withAt L) = (cutI L n).map fun i => (L.getD i default, (i : Int)) := by
  rw [withAt_eq, cut_map]; rfl
theorem cutI_ne {L : List Rt} (hL : L ≠ []) (s : Nat) : cutI L s ≠ [] := cut_ne (f := lookI L) (by intro h; exact hL (List.length_eq_zero_iff.1 (by rw [← List.length_range (n := L.length), h]; rfl))) s
theorem cutI_head (L : List Rt) (hL : L ≠ []) : (cutI L 6).getD 0 default = bestN L := by
  unfold bestN
  rw [cut_withAt]
  have := cutI_ne hL 6
  cases hm : cutI L 6 with
  | nil => exact absurd hm this
  | cons i r => simp
theorem leftR_eq (L : List Rt) : leftR L = (cutI L 4).map fun i => L.getD i default := by
  unfold leftR leftOf
  rw [cut_withAt, List.map_map]; rfl
theorem cutI_nil (s : Nat) : cutI [] s = [] := by
  have := cutI_length [] s
  exact List.length_eq_zero_iff.1 (by simpa using this)

set_option maxHeartbeats 1000000 in
theorem cut_nil (oa : Option Addr) (c steps : Nat) (w : World) (h6 : steps ≤ 6) : Calls Try.prog 32 #[.slice oa 0 c, .int .i64 (steps : Int)] w fun e w' => e = .returned (.slice none 0 0) ∧ w' = w := by
  go_enter Try.func32, Try.ntmps32
  go_wp2_with fail
  refine wp_loop_once ?_
  go_wp2_with fail
  go_loopw [5, 7, 8, 9, 10, 11] (fun lv iv _ _ _ _ wr => ∃ s : Nat, s ≤ steps ∧ iv = .int .i64 s ∧ lv = .slice none 0 0 ∧ wr = w) (fun _ iv _ _ _ _ _ => steps - (intOf iv).toNat)
  case atStart => exact ⟨0, Nat.zero_le _, rfl, rfl, rfl⟩
  case round =>
    obtain ⟨s, hs, rfl, rfl, hw⟩ := hrel
    have HW := Lib.hid hw
    clear hw
    by_cases hlt : s < steps
    · go_wp2_with fail
      refine wp_loop_once ?_
      go_wp2_with fail
      go_roundw
      case rel => exact ⟨s + 1, by omega, by go_num, rfl, HW.out⟩
      case measure => simp [intOf]; omega
    · have hf : ¬ ((s : Int) < steps) := by omega
      go_wp2_with fail
      go_ret
      exact ⟨rfl, HW.out⟩
theorem cut_any (oa : Option Addr) (n c steps : Nat) (L : List Rt) (w : World) (B : Nat) (hs : R40.Sl w oa n c L) (hi : Ins w B L) (h6 : steps ≤ 6) :
    Calls Try.prog 32 #[.slice oa n c, .int .i64 (steps : Int)] w fun e w' => ∃ v, e = .returned v ∧ R36.Own w' w.heap.size v (cutI L steps) ∧ Below w.heap.size w w' := by
  cases L with
  | nil => rw [sl_nil hs, cutI_nil]; exact (cut_nil oa c steps w h6).mono fun e w' ⟨h1, h2⟩ => ⟨_, h1, Rep.Own.nil _ _, h2 ▸ Below.refl _ _⟩
  | cons x r =>
    obtain ⟨b, off, rfl, hr⟩ := sl_some hs (by simp)
    exact cut_some b off c n steps (x :: r) w B (by simp) hs.len.symm hr hi h6

theorem rbest_any (oa : Option Addr) (n c : Nat) (L : List Rt) (w : World) (B : Nat) (hs : R40.Sl w oa n c L) (hi : Ins w B L) :
    Calls Try.prog 12 #[.slice oa n c] w fun e w' => e = .returned (.tuple #[.int .i64 (bestN L), .bool (!L.isEmpty)]) ∧ Below w.heap.size w w' := by
  have HC := Lib.hid (cut_any oa n c 6 L w B hs hi (by omega))
  have h60 := hi.h60
  have HL := Lib.hid h60
  clear hs hi h60
  go_enter Try.func12, Try.ntmps12
  go_wp2_with fail
  refine (HC.out).mono ?_
  rintro e w1 ⟨v, rfl, hown, hb⟩
  by_cases hL : L = []
  · subst hL
    rw [cutI_nil] at hown
    obtain ⟨a, c', rfl, -⟩ := hown.sl
    have HB := Lib.hid hb
    clear hown hb
    go_wp2_with fail
    go_ret2
    exact ⟨rfl, HB.out⟩
  · have hne := cutI_ne hL 6
    rcases hown.cases with ⟨_, he⟩ | ⟨g, cap, rfl, hg, hgl, h1, h2, hrow, -⟩
    · exact absurd he hne
    have hc := hrow.get 0 (List.length_pos_iff.2 hne) 0 (by decide)
    rw [cutI_head L hL] at hc
    simp only [R36, Nat.mul_one, Nat.add_zero, List.getElem?_cons_zero] at hc
    obtain ⟨m, hm⟩ : ∃ m, m = (cutI L 6).length := ⟨_, rfl⟩
    have hm0 : 0 < m := by rw [hm]; exact List.length_pos_iff.2 hne
    have hle := cutI_length L 6
    rw [← hm] at h1 hle ⊢
    have hLe : (!L.isEmpty) = true := by cases L; exact absurd rfl hL; rfl
    have HB := Lib.hid (And.intro hb (And.intro hLe hm))
    have hl60 := HL.out
    have hm60 : m ≤ 60 := by omega
    clear hown hb hrow hm hne hL hLe hle hl60
    go_wp2_with fail
    go_ret2
    exact ⟨by rw [HB.out.2.1]; rfl, HB.out.1⟩

end Go.Proofs.Ytgainkgbodmciaa
/- The reference's Rank. -/
namespace Go.Proofs.Ytgainkgbodmciaa
open Go.RowKit

theorem own_empty {w : World} {T : TypeId} (hT : T = 44) : R40.Own (w.alloc (.cells #[] T)) w.heap.size (.slice (some ⟨w.heap.size, 0, none⟩) 0 0) [] := by
  subst hT
  exact ⟨rfl, .inr ⟨w.heap.size, 0, #[], rfl, Nat.le_refl _, hnew _ _, Nat.le_refl _, by unfold maxLen; omega, rfl, rfl⟩⟩

end Go.Proofs.Ytgainkgbodmciaa
/- Large; routes are the same as themselves. -/
namespace Go.Proofs.Ytgainkgbodmciaa
open Go.RowKit

def largeA (x : Rt) : Bool := decide (20 < x.path.length) || decide (100 < x.comms.length) || x.path.any fun s => decide (200 < s.ns.length)
theorem small_of {x : Rt} (h : largeA x = false) : Small x := by
  unfold largeA at h
  simp only [Bool.or_eq_false_iff, decide_eq_false_iff_not, List.any_eq_false, decide_eq_true_eq] at h
  exact ⟨by omega, by omega, fun s hs => by have := h.2 s hs; omega⟩
theorem any_take_succ {α : Type} [Inhabited α] (M : List α) (p : α → Bool) (k : Nat) (h : k < M.length) : (M.take (k + 1)).any p = ((M.take k).any p || p (M.getD k default)) := by
  rw [List.take_succ_eq_append_getElem h, List.any_append]
  simp [List.getD_eq_getElem?_getD, h]

set_option maxHeartbeats 1000000 in
theorem large18 (x : Rt) (w : World) (B : Nat) (_hB : B ≤ w.heap.size) (hx : RtOk w B x) : Calls Try.prog 36 #[x.attrs] w fun e w' => e = .returned (.bool (largeA x)) ∧ Below w.heap.size w w' := by
  obtain ⟨⟨hp1, hp2, hp3, hp4⟩, ⟨hc1, hc2, hc3⟩, -, -⟩ := hx
  have hpm : x.pn ≤ 9223372036854775807 := by unfold maxLen at hp2; omega
  have hcm : x.cn ≤ 9223372036854775807 := by unfold maxLen at hc2; omega
  have HX := Lib.hid (And.intro hp1 (And.intro hp3 (And.intro hp4 hc1)))
  unfold Rt.attrs
  by_cases h20 : 20 < x.pn
  · clear hp1 hp2 hp3 hp4 hc1 hc2 hc3
    go_enter Try.func36, Try.ntmps36
    go_wp2_with fail
    go_ret
    exact ⟨ret_bool (by unfold largeA; rw [← HX.out.1]; simp [h20]), (Below.refl _ _).alloc (Nat.le_refl _) _⟩
  · by_cases h100 : 100 < x.cn
    · clear hp1 hp2 hp3 hp4 hc1 hc2 hc3
      go_enter Try.func36, Try.ntmps36
      go_wp2_with fail
      go_ret
      exact ⟨ret_bool (by unfold largeA; rw [← HX.out.1, ← HX.out.2.2.2]; simp [h100]), (Below.refl _ _).alloc (Nat.le_refl _) _⟩
    · clear hp1 hp2 hp3 hp4 hc1 hc2 hc3
      go_enter Try.func36, Try.ntmps36
      go_wp2_with fail
      go_loop [3] (fun iv => ∃ k : Nat, k ≤ x.pn ∧ iv = .int .i64 k ∧ ((x.path.take k).any fun s => decide (200 < s.ns.length)) = false) (fun iv => x.pn - (intOf iv).toNat)
      case atStart => exact ⟨0, Nat.zero_le _, rfl, rfl⟩
      case round =>
        obtain ⟨k, hk, rfl, hno⟩ := hrel
        by_cases hlt : k < x.pn
        · have hseg : x.path.getD k default ∈ x.path := getD_mem (by rw [← HX.out.1]; exact hlt)
          obtain ⟨b, off, hpa, hbB, hcell⟩ := HX.out.2.1 (by omega)
          have hc := (hcell k hlt).2
          obtain ⟨hs1, hs2, -⟩ := HX.out.2.2.1 _ hseg
          have hts := any_take_succ x.path (fun s => decide (200 < s.ns.length)) k (by rw [← HX.out.1]; exact hlt)
          rw [hno] at hts
          generalize hs : x.path.getD k default = s at *
          have hcb : ∀ o : Obj, (w.alloc o).cell? ⟨b, off + k * 2 + 1, none⟩ = some (.slice s.sa s.sn s.sc) := fun o => cell_hold hc o
          have hsm : s.sn ≤ 9223372036854775807 := by unfold maxLen at hs2; omega
          have HS := Lib.hid (And.intro hts (And.intro hs1 (And.intro hs hseg)))
          clear hts hs1 hs hseg hno hs2 hcell hc
          rw [hpa]
          by_cases h200 : 200 < s.sn
          · go_wp2_with fail
            go_ret
            refine ⟨ret_bool ?_, (Below.refl _ _).alloc (Nat.le_refl _) _⟩
            unfold largeA
            have : (x.path.any fun s => decide (200 < s.ns.length)) = true := List.any_eq_true.2 ⟨s, HS.out.2.2.2, by rw [← HS.out.2.1]; simp [h200]⟩
            rw [this]; simp
          · go_wp2_with fail
            go_round
            case rel => exact ⟨k + 1, by omega, by go_num, by rw [HS.out.1, ← HS.out.2.1]; simp [h200]⟩
            case measure => simp [intOf]; omega
        · have hf : ¬ ((k : Int) < x.pn) := by omega
          have hkn : x.path.take k = x.path := List.take_of_length_le (by rw [← HX.out.1]; omega)
          rw [hkn] at hno
          have HN := Lib.hid hno
          clear hno hkn
          go_wp2_with fail
          go_ret
          refine ⟨ret_bool ?_, (Below.refl _ _).alloc (Nat.le_refl _) _⟩
          unfold largeA
          rw [HN.out, ← HX.out.1, ← HX.out.2.2.2]
          simp [h20, h100]
end Go.Proofs.Ytgainkgbodmciaa
/- Large of routes; what is the same as itself. -/
namespace Go.Proofs.Ytgainkgbodmciaa
open Go.RowKit

def largeB (L : List Rt) : Bool := decide (60 < L.length) || L.any largeA
theorem ins_of {w : World} {B : Nat} {L : List Rt} (hB : B ≤ w.heap.size) (hx : ∀ x ∈ L, RtOk w B x) (h : largeB L = false) : Ins w B L := by
  unfold largeB at h
  simp only [Bool.or_eq_false_iff, decide_eq_false_iff_not, List.any_eq_false] at h
  exact ⟨hB, fun x hm => ⟨hx x hm, small_of (by simpa using h.2 x hm)⟩, by omega⟩

set_option maxHeartbeats 1000000 in
theorem large_any (oa : Option Addr) (n c : Nat) (L : List Rt) (w : World) (B : Nat) (hB : B ≤ w.heap.size) (hs : R40.Sl w oa n c L) (hx : ∀ x ∈ L, RtOk w B x) :
    Calls Try.prog 17 #[.slice oa n c] w fun e w' => e = .returned (.bool (largeB L)) ∧ Below w.heap.size w w' := by
  have hm : n ≤ 9223372036854775807 := by have := hs.max; unfold maxLen at this; omega
  have HS := Lib.hid (And.intro hs hx)
  clear hs hx
  by_cases h60 : 60 < n
  · go_enter Try.func17, Try.ntmps17
    go_wp2_with fail
    go_ret
    exact ⟨ret_bool (by unfold largeB; rw [← HS.out.1.len]; simp [h60]), Below.refl _ _⟩
  · go_enter Try.func17, Try.ntmps17
    go_wp2_with fail
    go_loopw [3] (fun iv wr => ∃ k : Nat, k ≤ n ∧ iv = .int .i64 k ∧ (L.take k).any largeA = false ∧ Below w.heap.size w wr) (fun iv _ => n - (intOf iv).toNat)
    case atStart => exact ⟨0, Nat.zero_le _, rfl, rfl, Below.refl _ _⟩
    case round =>
      obtain ⟨k, hk, rfl, hno, hb⟩ := hrel
      have hsz := hb.size
      by_cases hlt : k < n
      · obtain ⟨b, off, rfl, hlb, hat0⟩ := HS.out.1.at hlt
        have hat := hat0.keep (hb.block b hlb)
        have hxm : L.getD k default ∈ L := getD_mem (by rw [← HS.out.1.len]; exact hlt)
        have hok := (HS.out.2 _ hxm).below (hb.mono hB)
        have hts := any_take_succ L largeA k (by rw [← HS.out.1.len]; exact hlt)
        rw [hno, Bool.false_or] at hts
        generalize hx : L.getD k default = x at *
        have c0 := hat 0 (by decide)
        have c1 := hat 1 (by decide)
        have c2 := hat 2 (by decide)
        have c3 := hat 3 (by decide)
        have c4 := hat 4 (by decide)
        have c5 := hat 5 (by decide)
        have c6 := hat 6 (by decide)
        have c7 := hat 7 (by decide)
        have c8 := hat 8 (by decide)
        have c9 := hat 9 (by decide)
        simp only [R40, Rt.cells, Nat.add_zero, List.getElem?_cons_zero, List.getElem?_cons_succ] at c0 c1 c2 c3 c4 c5 c6 c7 c8 c9
        have HL := Lib.hid (large18 x wr B (by omega) hok)
        unfold Rt.attrs at HL
        have HQ := Lib.hid (And.intro hts (And.intro hb (And.intro hxm hx)))
        clear hts hb hxm hx hok hat hat0 hno
        go_wp2_with fail
        refine (HL.out).mono ?_
        rintro e w1 ⟨rfl, hb1⟩
        have HB1 := Lib.hid hb1
        clear hb1 c0 c1 c2 c3 c4 c5 c6 c7 c8 c9
        cases hla : largeA x with
        | true =>
          have HLA := Lib.hid hla
          clear hla
          go_wp2_with fail
          go_ret
          refine ⟨ret_bool ?_, HQ.out.2.1.trans (HB1.out.mono hsz)⟩
          unfold largeB
          rw [List.any_eq_true.2 ⟨x, HQ.out.2.2.1, HLA.out⟩]; simp
        | false =>
          have HLA := Lib.hid hla
          clear hla
          go_wp2_with fail
          go_roundw
          case rel => exact ⟨k + 1, by omega, by go_num, by rw [HQ.out.1]; exact HLA.out, HQ.out.2.1.trans (HB1.out.mono hsz)⟩
          case measure => simp [intOf]; omega
      · have hf : ¬ ((k : Int) < n) := by omega
        have hkn : L.take k = L := List.take_of_length_le (by have := HS.out.1.len; omega)
        rw [hkn] at hno
        have HN := Lib.hid (And.intro hno hb)
        clear hno hkn hb
        go_wp2_with fail
        go_ret
        refine ⟨ret_bool ?_, HN.out.2⟩
        unfold largeB
        rw [HN.out.1, ← HS.out.1.len]
        simp [h60]

set_option maxHeartbeats 1000000 in
theorem sameInts_self (oa : Option Addr) (n c : Nat) (xs : List Int) (w : World) (B : Nat) (hB : B ≤ w.heap.size) (hx : IntsAt w B oa n xs) :
    Calls Try.prog 84 #[.slice oa n c, .slice oa n c] w fun e w' => e = .returned (.bool true) ∧ Below w.heap.size w w' := by
  obtain ⟨h1, h2, h3⟩ := hx
  have hm : n ≤ 9223372036854775807 := by unfold maxLen at h2; omega
  have HX := Lib.hid h3
  clear h1 h2 h3
  go_enter Try.func84, Try.ntmps84
  go_wp2_with fail
  go_loopw [5] (fun iv wr => ∃ k : Nat, k ≤ n ∧ iv = .int .i64 k ∧ Below w.heap.size w wr) (fun iv _ => n - (intOf iv).toNat)
  case atStart => exact ⟨0, Nat.zero_le _, rfl, Below.refl _ _⟩
  case round =>
    obtain ⟨k, hk, rfl, hb⟩ := hrel
    by_cases hlt : k < n
    · obtain ⟨b, off, rfl, hbB, hcell⟩ := HX.out (by omega)
      have hc := (hb.cell (p := ⟨b, off + k, none⟩) (by dsimp only; omega)).trans (hcell k hlt)
      generalize xs.getD k 0 = z at *
      have HB := Lib.hid hb
      clear hb hcell
      go_wp2_with fail
      refine wp_region_quiet_tail (fun w' => w' = wr.drew) 8 (by kernel_rfl) (by kernel_rfl) rfl ?_
      simp only [List.take_succ_cons, List.take_zero, List.drop_succ_cons, List.drop_zero]
      iterate 8 (refine wpQuiet_step (fun K hK => ?_); go_simp; refine hK _ ?_; clear hK K)
      refine wpQuiet_nil ?_
      rintro _ rfl
      go_wp2_with fail
      go_roundw
      case rel => exact ⟨k + 1, by omega, by go_num, HB.out.drew⟩
      case measure => simp [intOf]; omega
    · have hf : ¬ ((k : Int) < n) := by omega
      have HB := Lib.hid hb
      clear hb
      go_wp2_with fail
      go_ret
      exact ⟨rfl, HB.out⟩
end Go.Proofs.Ytgainkgbodmciaa
/- Attributes, and lists of routes, are the same as themselves. -/
namespace Go.Proofs.Ytgainkgbodmciaa
open Go.RowKit

set_option maxHeartbeats 4000000 in
theorem same_self (x : Rt) (w : World) (B : Nat) (hB : B ≤ w.heap.size) (hx : RtOk w B x) : Calls Try.prog 58 #[x.attrs, x.attrs] w fun e w' => e = .returned (.bool true) ∧ Below w.heap.size w w' := by
  obtain ⟨⟨hp1, hp2, hp3, hp4⟩, hcm, -, -⟩ := hx
  have hpm : x.pn ≤ 9223372036854775807 := by unfold maxLen at hp2; omega
  have HX := Lib.hid (And.intro hp1 (And.intro hp3 hp4))
  have HC := Lib.hid (sameInts_self x.ca x.cn x.cc x.comms ((w.alloc (.cells #[.int .i64 x.o, .slice x.pa x.pn x.pc, .int .u32 x.nx, .int .i64 x.md, .int .i64 x.pf, .slice x.ca x.cn x.cc] 42)).alloc (.cells #[.int .i64 x.o, .slice x.pa x.pn x.pc, .int .u32 x.nx, .int .i64 x.md, .int .i64 x.pf, .slice x.ca x.cn x.cc] 42)) B (by simp; omega) (hcm.below (((Below.refl B w).alloc hB _).alloc (by simp; omega) _)))
  clear hp1 hp2 hp3 hp4 hcm
  unfold Rt.attrs
  go_enter Try.func58, Try.ntmps58
  go_wp2_with fail
  refine (HC.out).mono ?_
  rintro e w1 ⟨rfl, hb⟩
  have hb0 : Below w.heap.size w w1 := (((Below.refl _ _).alloc (Nat.le_refl _) _).alloc (by simp) _).trans (hb.mono (by simp only [World.size_alloc]; omega))
  have b0 := (hb.block w.heap.size (by simp only [World.size_alloc]; omega)).trans ((Below.heap_alloc _ _ _ (by simp)).trans (hnew w _))
  have b1 := (hb.block (w.heap.size + 1) (by simp only [World.size_alloc]; omega)).trans (hnewAt (by simp))
  have p0 := cell_of b0 (o := 1) rfl
  have p1 := cell_of b1 (o := 1) rfl
  have HB := Lib.hid (And.intro hb0 (And.intro b0 b1))
  clear hb hb0 b0 b1
  go_wp2_with fail
  go_loopw [5] (fun iv wr => ∃ k : Nat, k ≤ x.pn ∧ iv = .int .i64 k ∧ Below w1.heap.size w1 wr) (fun iv _ => x.pn - (intOf iv).toNat)
  case atStart => exact ⟨0, Nat.zero_le _, rfl, Below.refl _ _⟩
  case round =>
    obtain ⟨k, hk, rfl, hb⟩ := hrel
    have hl0 := lt_of_blk HB.out.2.1
    have hl1 := lt_of_blk HB.out.2.2
    have q0 := (hb.cell (p := ⟨w.heap.size, 1, none⟩) hl0).trans p0
    have q1 := (hb.cell (p := ⟨w.heap.size + 1, 1, none⟩) hl1).trans p1
    have hsz := hb.size
    have hsz1 := HB.out.1.size
    by_cases hlt : k < x.pn
    · have hseg : x.path.getD k default ∈ x.path := getD_mem (by rw [← HX.out.1]; exact hlt)
      obtain ⟨b, off, hpa, hbB, hcell⟩ := HX.out.2.1 (by omega)
      have hbw : Below w.heap.size w wr := HB.out.1.trans (hb.mono hsz1)
      have hc0 := (hbw.cell (p := ⟨b, off + k * 2, none⟩) (by dsimp only; omega)).trans (hcell k hlt).1
      have hc1 := (hbw.cell (p := ⟨b, off + k * 2 + 1, none⟩) (by dsimp only; omega)).trans (hcell k hlt).2
      have hints := HX.out.2.2 _ hseg
      generalize hs : x.path.getD k default = s at *
      have HSI := Lib.hid (fun w' (h : Below wr.heap.size wr w') => sameInts_self s.sa s.sn s.sc s.ns w' B (by have := h.size; omega) (hints.below ((hbw.trans (h.mono (by omega))).mono hB)))
      have HQ := Lib.hid (And.intro hb hs)
      have hbl : b < wr.heap.size := by omega
      clear hb hs hseg hints hbw hcell
      rw [hpa] at q0 q1
      rw [hpa]
      go_wp2_with fail
      refine wp_region_quiet_tail (fun w' => Below wr.heap.size wr w') 28 (by kernel_rfl) (by kernel_rfl) (Below.drew (Below.refl _ _)) ?_
      simp only [List.take_succ_cons, List.take_zero, List.drop_succ_cons, List.drop_zero]
      iterate 28 (refine wpQuiet_step (fun K hK => ?_); go_simp; first | (refine hK _ ?_; clear hK K) | (apply Exists.intro; refine ⟨fun w' hw' => ?_, hK _ ?_⟩; first | (go_at_call 84; (with_reducible refine (HSI.out w' hw').mono ?_); rintro e w2 ⟨rfl, hb⟩; exact ⟨rfl, hw'.trans (hb.mono hw'.size)⟩) | (have z0 := Below.cell hw' (p := ⟨w.heap.size, 1, none⟩) (by dsimp only; omega); have z1 := Below.cell hw' (p := ⟨w.heap.size + 1, 1, none⟩) (by dsimp only; omega); have z2 := Below.cell hw' (p := ⟨b, off + k * 2, none⟩) (by dsimp only; omega); have z3 := Below.cell hw' (p := ⟨b, off + k * 2 + 1, none⟩) (by dsimp only; omega); go_simp; first | exact rfl | exact ⟨rfl, rfl⟩); clear hK K))
      refine wpQuiet_nil ?_
      intro wq hq
      have HBq := Lib.hid (HQ.out.1.trans (hq.mono hsz))
      clear hq hc0 hc1 q0 q1
      go_wp2_with fail
      go_roundw
      case rel => exact ⟨k + 1, by omega, by go_num, HBq.out⟩
      case measure => simp [intOf]; omega
    · have hf : ¬ ((k : Int) < x.pn) := by omega
      have HBq := Lib.hid (HB.out.1.trans (hb.mono hsz1))
      clear hb
      go_wp2_with fail
      go_ret
      exact ⟨rfl, HBq.out⟩
end Go.Proofs.Ytgainkgbodmciaa
/- Lists of routes are the same as themselves. -/
namespace Go.Proofs.Ytgainkgbodmciaa
open Go.RowKit

set_option maxHeartbeats 4000000 in
theorem sameRoutes_self (oa ob : Option Addr) (n ca cb : Nat) (L : List Rt) (w : World) (B : Nat) (hB : B ≤ w.heap.size) (h1 : R40.Sl w oa n ca L) (h2 : R40.Sl w ob n cb L) (hx : ∀ x ∈ L, RtOk w B x) :
    Calls Try.prog 33 #[.slice oa n ca, .slice ob n cb] w fun e w' => e = .returned (.bool true) ∧ Below w.heap.size w w' := by
  have hm : n ≤ 9223372036854775807 := by have := h1.max; unfold maxLen at this; omega
  have HS := Lib.hid (And.intro h1 (And.intro h2 hx))
  clear h1 h2 hx
  go_enter Try.func33, Try.ntmps33
  go_wp2_with fail
  go_loopw [5] (fun iv wr => ∃ k : Nat, k ≤ n ∧ iv = .int .i64 k ∧ Below w.heap.size w wr) (fun iv _ => n - (intOf iv).toNat)
  case atStart => exact ⟨0, Nat.zero_le _, rfl, Below.refl _ _⟩
  case round =>
    obtain ⟨k, hk, rfl, hb⟩ := hrel
    have hsz := hb.size
    by_cases hlt : k < n
    · obtain ⟨b1, o1, rfl, hl1, hat1⟩ := HS.out.1.at hlt
      obtain ⟨b2, o2, rfl, hl2, hat2⟩ := HS.out.2.1.at hlt
      have hata := hat1.keep (hb.block b1 hl1)
      have hatb := hat2.keep (hb.block b2 hl2)
      have hxm : L.getD k default ∈ L := getD_mem (by rw [← HS.out.1.len]; exact hlt)
      have hok := (HS.out.2.2 _ hxm).below (hb.mono hB)
      generalize hx : L.getD k default = x at *
      have c0 := hata 0 (by decide)
      have c1 := hata 1 (by decide)
      have c2 := hata 2 (by decide)
      have c3 := hata 3 (by decide)
      have c4 := hata 4 (by decide)
      have c5 := hata 5 (by decide)
      have c6 := hata 6 (by decide)
      have c7 := hata 7 (by decide)
      have c8 := hata 8 (by decide)
      have c9 := hata 9 (by decide)
      simp only [R40, Rt.cells, Nat.add_zero, List.getElem?_cons_zero, List.getElem?_cons_succ] at c0 c1 c2 c3 c4 c5 c6 c7 c8 c9
      have d0 := hatb 0 (by decide)
      have d1 := hatb 1 (by decide)
      have d2 := hatb 2 (by decide)
      have d3 := hatb 3 (by decide)
      have d4 := hatb 4 (by decide)
      have d5 := hatb 5 (by decide)
      have d6 := hatb 6 (by decide)
      have d7 := hatb 7 (by decide)
      have d8 := hatb 8 (by decide)
      have d9 := hatb 9 (by decide)
      simp only [R40, Rt.cells, Nat.add_zero, List.getElem?_cons_zero, List.getElem?_cons_succ] at d0 d1 d2 d3 d4 d5 d6 d7 d8 d9
      have HSA := Lib.hid (fun w' (h : Below wr.heap.size wr w') => same_self x w' B (by have := h.size; omega) (hok.below (h.mono (by omega))))
      unfold Rt.attrs at HSA
      have HQ := Lib.hid (And.intro hb hx)
      have hl1' : b1 < wr.heap.size := by omega
      have hl2' : b2 < wr.heap.size := by omega
      clear hb hx hxm hok hata hatb hat1 hat2
      go_wp2_with fail
      refine wp_region_quiet_tail (fun w' => Below wr.heap.size wr w') 24 (by kernel_rfl) (by kernel_rfl) (Below.drew (Below.refl _ _)) ?_
      simp only [List.take_succ_cons, List.take_zero, List.drop_succ_cons, List.drop_zero]
      iterate 24 (refine wpQuiet_step (fun K hK => ?_); go_simp; first | (refine hK _ ?_; clear hK K) | (apply Exists.intro; refine ⟨fun w' hw' => ?_, hK _ ?_⟩; first | (go_at_call 58; (with_reducible refine (HSA.out w' hw').mono ?_); rintro e w2 ⟨rfl, hb⟩; exact ⟨rfl, hw'.trans (hb.mono hw'.size)⟩) | (have p0 := Below.cell hw' (p := ⟨b1, o1 + k * 10, none⟩) (by dsimp only; omega); have p1 := Below.cell hw' (p := ⟨b1, o1 + k * 10 + 1, none⟩) (by dsimp only; omega); have p2 := Below.cell hw' (p := ⟨b1, o1 + k * 10 + 2, none⟩) (by dsimp only; omega); have p3 := Below.cell hw' (p := ⟨b1, o1 + k * 10 + 3, none⟩) (by dsimp only; omega); have p4 := Below.cell hw' (p := ⟨b1, o1 + k * 10 + 4, none⟩) (by dsimp only; omega); have p5 := Below.cell hw' (p := ⟨b1, o1 + k * 10 + 5, none⟩) (by dsimp only; omega); have p6 := Below.cell hw' (p := ⟨b1, o1 + k * 10 + 6, none⟩) (by dsimp only; omega); have p7 := Below.cell hw' (p := ⟨b1, o1 + k * 10 + 7, none⟩) (by dsimp only; omega); have p8 := Below.cell hw' (p := ⟨b1, o1 + k * 10 + 8, none⟩) (by dsimp only; omega); have p9 := Below.cell hw' (p := ⟨b1, o1 + k * 10 + 9, none⟩) (by dsimp only; omega); have q0 := Below.cell hw' (p := ⟨b2, o2 + k * 10, none⟩) (by dsimp only; omega); have q1 := Below.cell hw' (p := ⟨b2, o2 + k * 10 + 1, none⟩) (by dsimp only; omega); have q2 := Below.cell hw' (p := ⟨b2, o2 + k * 10 + 2, none⟩) (by dsimp only; omega); have q3 := Below.cell hw' (p := ⟨b2, o2 + k * 10 + 3, none⟩) (by dsimp only; omega); have q4 := Below.cell hw' (p := ⟨b2, o2 + k * 10 + 4, none⟩) (by dsimp only; omega); have q5 := Below.cell hw' (p := ⟨b2, o2 + k * 10 + 5, none⟩) (by dsimp only; omega); have q6 := Below.cell hw' (p := ⟨b2, o2 + k * 10 + 6, none⟩) (by dsimp only; omega); have q7 := Below.cell hw' (p := ⟨b2, o2 + k * 10 + 7, none⟩) (by dsimp only; omega); have q8 := Below.cell hw' (p := ⟨b2, o2 + k * 10 + 8, none⟩) (by dsimp only; omega); have q9 := Below.cell hw' (p := ⟨b2, o2 + k * 10 + 9, none⟩) (by dsimp only; omega); go_simp; first | exact rfl | exact ⟨rfl, rfl⟩); clear hK K))
      refine wpQuiet_nil ?_
      intro wq hq
      have HBq := Lib.hid (HQ.out.1.trans (hq.mono hsz))
      clear hq c0 c1 c2 c3 c4 c5 c6 c7 c8 c9 d0 d1 d2 d3 d4 d5 d6 d7 d8 d9
      go_wp2_with fail
      go_roundw
      case rel => exact ⟨k + 1, by omega, by go_num, HBq.out⟩
      case measure => simp [intOf]; omega
    · have hf : ¬ ((k : Int) < n) := by omega
      have HB := Lib.hid hb
      clear hb
      go_wp2_with fail
      go_ret
      exact ⟨rfl, HB.out⟩
end Go.Proofs.Ytgainkgbodmciaa
