/- Rank. -/
import Derived.Test.YtlgmoiilfigamaaWl
namespace Go.Proofs.Ytlgmoiilfigamaa
open Go.RowKit

def rank : Nat → List Rt → List Rt
  | 0, _ => []
  | n + 1, L => L.getD (bestN L) default :: rank n (L.eraseIdx (bestN L))
theorem rank_length (n : Nat) : ∀ L, (rank n L).length = n := by
  induction n with
  | zero => intro L; rfl
  | succ n ih => intro L; simp [rank, ih]
def rankOf (L : List Rt) : List Rt := rank L.length L

set_option maxHeartbeats 2000000 in
theorem rank_any (oa : Option Addr) (n c : Nat) (L : List Rt) (w : World) (B : Nat) (hs : R40.Sl w oa n c L) (hc : oa = none → c = 0) (hi : Ins w B L) :
    Calls Try.prog 14 #[.slice oa n c] w fun e w' => ∃ v, e = .returned v ∧ R40.Own w' w.heap.size v (rankOf L) ∧ Below w.heap.size w w' := by
  have h60 : n ≤ 60 := by rw [hs.len]; exact hi.h60
  have HC := Lib.hid (clone_any oa n c L w hs hc (by omega))
  have HI := Lib.hid (And.intro hi hs.len)
  clear hs hi hc
  go_enter Try.func14, Try.ntmps14
  go_wp2_with fail
  refine (HC.out).mono ?_
  rintro e w1 ⟨v1, rfl, hown, hb⟩
  have hsz := hb.size
  rcases hown.cases with ⟨rfl, he⟩ | ⟨g, cap, rfl, hg, hgl, h1, h2, hrow, -, cur, hblk, hcs⟩
  · have HB := Lib.hid (And.intro hb he)
    clear hown hb he
    go_wp2_with fail
    refine wp_loop_once ?_
    go_wp2_with fail
    go_ret
    obtain ⟨hb, rfl⟩ := HB.out
    exact ⟨_, rfl, Rep.Own.nil _ _, hb⟩
  · have hln : L.length = n := HI.out.2.symm
    rw [hln]
    have HB := Lib.hid (And.intro hb (And.intro (show Hold w1 g cap L from ⟨⟨cur, hblk, hcs⟩, hrow, h1, h2⟩) hln))
    clear hown hb hrow hblk hcs h1 h2 hln
    go_wp2_with fail
    go_loopw [3, 4, 5, 6] (fun rv ov _ _ wr => ∃ (k : Nat) (M O : List Rt), rv = .slice (some ⟨g, 0, none⟩) k cap ∧ M.length = k ∧ k ≤ n ∧ O.length = n - k ∧ O ++ rank k M = rankOf L ∧ (∀ x ∈ M, x ∈ L) ∧ Hold wr g cap M ∧ R40.Own wr w1.heap.size ov O ∧ But w1 wr [g]) (fun rv _ _ _ _ => match rv with | .slice _ n _ => n | _ => 0)
    case atStart =>
      obtain ⟨hb, hh, hln⟩ := HB.out
      exact ⟨n, L, [], rfl, hln, Nat.le_refl _, by simp, by unfold rankOf; rw [hln]; rfl, fun _ h => h, hh, Rep.Own.nil _ _, But.refl _ _⟩
    case round =>
      obtain ⟨k, M, O, rfl, hMk, hkn, hOl, hrk, hsub, hhold, hown, hbut⟩ := hrel
      cases k with
      | zero =>
        have HF := Lib.hid (And.intro hrk (And.intro hown hbut))
        clear hrk hown hbut hhold hsub hMk hOl
        go_wp2_with fail
        go_ret
        obtain ⟨hrk, hown, hbut⟩ := HF.out
        simp only [rank, List.append_nil] at hrk
        rw [← hrk]
        exact ⟨_, rfl, hown.mono hsz, HB.out.1.trans (hbut.below hsz (by simpa using hg))⟩
      | succ m =>
        have hne : M ≠ [] := by intro h; rw [h] at hMk; simp at hMk
        obtain ⟨hbl, -⟩ := best_head M hne
        obtain ⟨i, hi⟩ : ∃ i, i = bestN M := ⟨_, rfl⟩
        have hbw : Below B w wr := (HB.out.1.mono HI.out.1.hB).trans (hbut.below (Nat.le_trans HI.out.1.hB hsz) (by simpa using Nat.le_trans HI.out.1.hB hg))
        have hbest := best_any (some ⟨g, 0, none⟩) (m + 1) cap M wr B ⟨hMk.symm, by unfold maxLen; omega, fun _ => ⟨g, 0, rfl, hhold.row⟩⟩ ((HI.out.1.below hbw).sub hsub (by omega))
        rw [← hi] at hbest hbl
        rw [show (!M.isEmpty) = true by cases M; exact absurd rfl hne; rfl] at hbest
        have hrk' : (O ++ [M.getD i default]) ++ rank m (M.eraseIdx i) = rankOf L := by rw [← hrk, hi]; simp [rank]
        have hatx : R40.At wr g (i * 10) (M.getD i default) := by have := hhold.row.get i hbl; rwa [Nat.zero_add] at this
        have hil : i < m + 1 := by omega
        have hgl2 : g < wr.heap.size := hhold.row.lt
        have hgf := hg
        generalize hx : M.getD i default = x at *
        have HB1 := Lib.hid hbest
        have HS := Lib.hid (And.intro hMk (And.intro hOl (And.intro hrk' (And.intro hsub (And.intro hhold (And.intro hown (And.intro hbut hatx)))))))
        clear hbest hMk hOl hrk' hsub hhold hown hbut hatx hrk hne hbl hi hx hbw
        have hf : (0 : Int) < ((m + 1 : Nat) : Int) := by omega
        go_wp2_with fail
        refine (HB1.out).mono ?_
        rintro e w2 ⟨rfl, hb2⟩
        have hat := (HS.out.2.2.2.2.2.2.2).keep (hb2.block g hgl2)
        have c0 := hat 0 (by decide)
        have c1 := hat 1 (by decide)
        have c2 := hat 2 (by decide)
        have c3 := hat 3 (by decide)
        have c4 := hat 4 (by decide)
        have c5 := hat 5 (by decide)
        have c6 := hat 6 (by decide)
        have c7 := hat 7 (by decide)
        have c8 := hat 8 (by decide)
        have c9 := hat 9 (by decide)
        simp only [R40, Rt.cells, Nat.add_zero, List.getElem?_cons_zero, List.getElem?_cons_succ] at c0 c1 c2 c3 c4 c5 c6 c7 c8 c9
        have hil' : (i : Int) < (m : Int) + 1 := by omega
        have HB2 := Lib.hid hb2
        have hsz2 := hb2.size
        have hsz3 := HS.out.2.2.2.2.2.2.1.size
        clear hb2 hat
        go_wp2_with (at_builtin; refine halt ?_)
        refine Halted.go ?_
        refine Rep.append_one T22 rfl _ _ rfl rfl ((HS.out.2.2.2.2.2.1.below HB2.out).alloc _) x w2.heap.size 1 rfl (hnew _ _) HS.out.2.1 (by unfold maxLen; omega) (by omega) (by simp; omega) ?_
        intro v' w3 hown' hb3 _
        have HO := Lib.hid (And.intro hown' hb3)
        have hg3 : w3.heap[g]? = wr.heap[g]? := (hb3.block g hgl).trans ((Below.heap_alloc w2 _ g (by omega)).trans (HB2.out.block g hgl2))
        have HD := Lib.hid (delete_any g cap m i _ w3 HS.out.1 hil (HS.out.2.2.2.2.1.keep hg3) (by omega))
        clear hown' hb3 hg3 c0 c1 c2 c3 c4 c5 c6 c7 c8 c9
        go_wp2_with fail
        refine (HD.out).mono ?_
        rintro e w4 ⟨rfl, hh4, hb4⟩
        have H4 := Lib.hid (And.intro hh4 hb4)
        clear hh4 hb4
        go_wp2_with fail
        go_roundw
        case rel =>
          obtain ⟨hMk, hOl, hrk', hsub, hhold, hown, hbut, -⟩ := HS.out
          obtain ⟨hh4, hb4⟩ := H4.out
          refine ⟨m, _, O ++ [x], rfl, ?_, by omega, ?_, hrk', ?_, hh4, ?_, ?_⟩
          · rw [List.length_eraseIdx]; split <;> omega
          · simp; omega
          · exact fun y hy => hsub y (List.mem_of_mem_eraseIdx hy)
          · exact HO.out.1.but hb4 (by simpa using hgl)
          · exact (Rep.But.step (Rep.But.step hbut (HB2.out.alloc hsz2 _) hsz3) HO.out.2 (Nat.le_refl _)).trans (hb4.mono (by simp))
        case measure => simp
end Go.Proofs.Ytlgmoiilfigamaa
