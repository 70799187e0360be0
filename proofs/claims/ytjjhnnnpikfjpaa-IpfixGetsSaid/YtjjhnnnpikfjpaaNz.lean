/- SameTemplates. -/
import Derived.Test.YtjjhnnnpikfjpaaNy
namespace Go.Proofs.Ytjjhnnnpikfjpaa
open Go.RowKit

def tj (x : Int × SlV (Int × Int)) : Int × Nat × List (Int × Int) := (x.1, x.2.n, x.2.l)
theorem map_getD {α β : Type} [Inhabited α] {f : α → β} {l m : List α} (h : l.map f = m.map f) {i : Nat} (hl : i < l.length) (hm : i < m.length) : f (l.getD i default) = f (m.getD i default) := by
  have h1 := congrArg (fun m => m[i]?) h
  simp only [List.getElem?_map] at h1
  rw [List.getElem?_eq_getElem hl, List.getElem?_eq_getElem hm] at h1
  rw [List.getD_eq_getElem?_getD, List.getElem?_eq_getElem hl, List.getD_eq_getElem?_getD, List.getElem?_eq_getElem hm]
  simpa using h1
set_option maxRecDepth 100000 in
set_option maxHeartbeats 4000000 in
theorem same_tms {w : World} {oa oa' : Option Addr} {n c n' c' : Nat} {l l' : List (Int × SlV (Int × Int))} (h1 : TmsOk w ⟨oa, n, c, l⟩) (h2 : TmsOk w ⟨oa', n', c', l'⟩) (he : l.map tj = l'.map tj) : Calls Try.prog 24 #[.slice oa n c, .slice oa' n' c'] w fun e w' => e = .returned (.bool true) ∧ Below w.heap.size w w' := by
  have hll : l.length = l'.length := by have := congrArg List.length he; simpa using this
  have hl1 : l.length = n := h1.sl.len.symm
  have hl2 : l'.length = n' := h2.sl.len.symm
  have hnn : n = n' := by omega
  subst hnn
  have H := Lib.hid (And.intro h1 (And.intro h2 (And.intro he (And.intro hl1 hl2))))
  clear h1 h2 he hll hl1 hl2
  go_enter Try.func24, Try.ntmps24
  go_wp2_with fail
  go_loopw [5, 6] (fun iv _ wr => ∃ i : Nat, i ≤ n ∧ iv = .int .i64 i ∧ Below w.heap.size w wr) (fun iv _ _ => n - (intOf iv).toNat)
  case atStart => exact ⟨0, Nat.zero_le _, rfl, Below.refl _ _⟩
  case round =>
    obtain ⟨i, hi, rfl, hb⟩ := hrel
    obtain ⟨w2, rfl⟩ : ∃ w2 : World, w2 = wr := ⟨_, rfl⟩
    by_cases hlt : i < n
    · have hil : ((i : Int) < (n : Int)) = True := by simp; omega
      have hw3 := wrapS hlt H.out.1.sl.max
      have hll1 := H.out.2.2.2.1
      have hll2 := H.out.2.2.2.2
      have hbd := Below.drew hb
      obtain ⟨bb, oo, rfl, hbb, hat⟩ := (H.out.1.keep hbd).sl.at hlt
      obtain ⟨bb', oo', rfl, hbb', hat'⟩ := (H.out.2.1.keep hbd).sl.at hlt
      have c0 := hat 0 (by decide)
      have c1 := hat 1 (by decide)
      have d0 := hat' 0 (by decide)
      have d1 := hat' 1 (by decide)
      simp only [RTm, Nat.add_zero, List.getElem?_cons_zero, List.getElem?_cons_succ] at c0 c1 d0 d1
      have hx := (H.out.1.keep hbd).all _ (getD_mem (i := i) (by first | omega | (simp only; omega)))
      have hy := (H.out.2.1.keep hbd).all _ (getD_mem (i := i) (by first | omega | (simp only; omega)))
      have hxy := map_getD H.out.2.2.1 (i := i) (by omega) (by omega)
      try dsimp only at hx hy
      generalize l.getD i default = x at *
      generalize l'.getD i default = y at *
      obtain ⟨x1, xa, xn, xc, xl⟩ := x
      obtain ⟨y1, ya, yn, yc, yl⟩ := y
      simp only [tj, Prod.mk.injEq] at hxy
      dsimp only at *
      obtain ⟨rfl, rfl, rfl⟩ := hxy
      have HX := Lib.hid (And.intro hx (And.intro hy hbd))
      clear hx hy hat hat' hb hbd hll1 hll2
      go_wp2_with fail
      refine wp_region_heldP (fun w' => w' = w2.drew) (by kernel_rfl) ?_
      generalize w2.drew = Wd at *
      refine held_reads [0, 1, 2, 3, 4, 5, 6, 7, 8, 9, 10, 11, 12, 13, 14, 15, 16, 17, 18, 19, 20, 21, 22, 23, 24, 25] (g := 0) rfl (by kernel_rfl) rfl (fun _ _ d _ _ h => by cases d <;> exact h) ?_
      simp only [pick, List.getD_cons_zero, List.getD_cons_succ]
      iterate 26 ((with_reducible refine wpRead_step (fun K hK => ?_)); go_simp; first | ((with_reducible refine hK _ ?_); clear hK K) | (apply Exists.intro; (with_reducible refine ⟨fun w' hw' => ?_, hK _ ?_⟩); (subst hw'; go_simp; first | exact rfl | exact ⟨rfl, rfl⟩); clear hK K))
      with_reducible refine wpRead_nil ?_
      refine wpAnyH_done (by kernel_rfl) ?_ _
      have HC := Lib.hid (And.intro c0 (And.intro c1 (And.intro d0 d1)))
      go_wp2_with fail
      clear c0 c1 d0 d1
      go_loopw [6] (fun jv wr => ∃ j : Nat, j ≤ xn ∧ jv = .int .i64 j ∧ Below Wd.heap.size Wd wr) (fun jv _ => xn - (intOf jv).toNat)
      case atStart => exact ⟨0, Nat.zero_le _, rfl, Below.refl _ _⟩
      case round =>
        obtain ⟨jj, hj, rfl, hbw⟩ := hrel
        obtain ⟨w5, rfl⟩ : ∃ w5 : World, w5 = wr := ⟨_, rfl⟩
        have c1 := (cell_same (o := oo + i * 2 + 1) (hbw.block bb hbb)).trans HC.out.2.1
        have d1 := (cell_same (o := oo' + i * 2 + 1) (hbw.block bb' hbb')).trans HC.out.2.2.2
        by_cases hlt2 : jj < xn
        · have hil2 : ((jj : Int) < (xn : Int)) = True := by simp; omega
          have hw4 := wrapS hlt2 HX.out.1.sl.max
          have hbd2 := Below.drew hbw
          obtain ⟨b3, o3, rfl, hb3, hat3⟩ := (FdsOk.keep HX.out.1 hbd2).sl.at hlt2
          obtain ⟨b4, o4, rfl, hb4, hat4⟩ := (FdsOk.keep HX.out.2.1 hbd2).sl.at hlt2
          have f0 := hat3 0 (by decide)
          have f1 := hat3 1 (by decide)
          have g0 := hat4 0 (by decide)
          have g1 := hat4 1 (by decide)
          simp only [RFd, Nat.add_zero, List.getElem?_cons_zero, List.getElem?_cons_succ] at f0 f1 g0 g1
          generalize xl.getD jj default = z at *
          have HW := Lib.hid (bcall HX.out.2.2 (Nat.le_refl _) (Below.refl _ _))
          have hbd3 := hbd2
          have HB2 := Lib.hid hbd3
          clear hat3 hat4 hbw hbd2 hbd3
          go_wp2_with fail
          refine wp_region_heldP (fun w' => w' = w5.drew) (by kernel_rfl) ?_
          have c1' : w5.drew.cell? ⟨bb, oo + i * 2 + 1, none⟩ = some (.slice (some ⟨b3, o3, none⟩) xn xc) := c1
          have d1' : w5.drew.cell? ⟨bb', oo' + i * 2 + 1, none⟩ = some (.slice (some ⟨b4, o4, none⟩) xn yc) := d1
          clear c1 d1
          generalize w5.drew = We at *
          refine held_reads [0, 1, 2, 3, 4, 5, 6, 7, 8, 9, 10, 11, 12, 13, 14, 15, 16] (g := 0) rfl (by kernel_rfl) rfl (fun _ _ d _ _ h => by cases d <;> exact h) ?_
          simp only [pick, List.getD_cons_zero, List.getD_cons_succ]
          iterate 17 ((with_reducible refine wpRead_step (fun K hK => ?_)); go_simp; first | ((with_reducible refine hK _ ?_); clear hK K) | (apply Exists.intro; (with_reducible refine ⟨fun w' hw' => ?_, hK _ ?_⟩); (subst hw'; go_simp; first | exact rfl | exact ⟨rfl, rfl⟩); clear hK K))
          with_reducible refine wpRead_nil ?_
          refine wpAnyH_done (by kernel_rfl) ?_ _
          go_wp2_with fail
          exact ⟨⟨jj + 1, hlt2, by first | rw [hw4] | rw [Int.natCast_succ], HB2.out⟩, by first | (rw [hw4]; exact mSucc hlt2) | (rw [← Int.natCast_succ]; exact mSucc hlt2)⟩
        · obtain rfl : xn = jj := by omega
          have hil2 : ((xn : Int) < (xn : Int)) = False := by simp
          have HB2 := Lib.hid (bcall HX.out.2.2 (Nat.le_refl _) hbw)
          clear hbw
          go_wp2_with fail
          exact ⟨⟨i + 1, hlt, by first | rw [hw3] | rw [Int.natCast_succ], HB2.out⟩, by first | (rw [hw3]; exact mSucc hlt) | (rw [← Int.natCast_succ]; exact mSucc hlt)⟩
    · obtain rfl : n = i := by omega
      have hil : ((n : Int) < (n : Int)) = False := by simp
      have HB := Lib.hid hb
      clear hb
      go_wp2_with fail
      go_ret
      exact ⟨rfl, HB.out⟩
end Go.Proofs.Ytjjhnnnpikfjpaa
