/- capa.New, and the reference's, with their stamps; Stamp. -/
import Derived.Test.YtlkbaplfffbmkaaKah
import Derived.Test.YtlkbaplfffbmkaaKac
import Derived.Test.YtlkbaplfffbmkaaKad
import Derived.Shelf.SlLaysF0
import Derived.Test.YtlkbaplfffbmkaaProg
import Derived.Test.YtlkbaplfffbmkaaKaa
import Derived.Shelf.SlSortCmp.WholeK
import Derived.Shelf.SlSortCmp.NoneTotal
namespace Go.Proofs.Ytlkbaplfffbmkaa
open Go.RowKit

set_option maxRecDepth 100000 in
theorem cnew_S {w : World} {h : Nat} {D : HD} (H : HopsAt w h D) : Calls Try.prog 23 #[.pointer (some ⟨h, 0, none⟩)] w fun e w' => ∃ c bm, e = .returned (.tuple #[.pointer (some ⟨c, 0, none⟩), .int .i64 0]) ∧ CapS w w' c bm h D (fun _ => none) (fun _ => (0, 0, false)) := by
  have G := Lib.hid H
  clear H
  have hmm := @run_makeMap Try.prog
  go_enter Try.func23, Try.ntmps23
  go_wp2_with fail
  go_ret2
  refine ⟨w.heap.size + 1, w.heap.size, rfl, G.out, ((Below.refl _ _).alloc (Nat.le_refl _) _).alloc (by simp) _, by omega, Nat.le_refl _, by omega, 0, [], _, hnewAt (by simp), rfl, rfl, fun i hi => ?_, MR.mapAt_made IN (hold (hnew _ _)), fun _ => rfl⟩
  have : i = 0 ∨ i = 1 ∨ i = 2 ∨ i = 3 ∨ i = 4 ∨ i = 5 ∨ i = 6 ∨ i = 7 ∨ i = 8 ∨ i = 9 ∨ i = 10 ∨ i = 11 ∨ i = 12 ∨ i = 13 ∨ i = 14 ∨ i = 15 := by omega
  rcases this with rfl | rfl | rfl | rfl | rfl | rfl | rfl | rfl | rfl | rfl | rfl | rfl | rfl | rfl | rfl | rfl <;> exact ⟨rfl, rfl, rfl⟩
theorem RefS.seq {w : World} {base x : Nat} {L : List Cy} {Sq At Sq' : Nat → Int} (H : RefS w base x L Sq At) (h : ∀ i, i < 16 → Sq i = Sq' i) : RefS w base x L Sq' At := by
  obtain ⟨h1, cs, v, k1, k2, k3, k4, k5⟩ := H
  exact ⟨h1, cs, v, k1, k2, k3, fun i hi => ⟨by rw [← h i hi]; exact (k4 i hi).1, (k4 i hi).2⟩, k5⟩
set_option maxRecDepth 100000 in
set_option maxHeartbeats 2000000 in
theorem rcnew_S {w : World} {oa : Option Addr} {n c : Nat} {l : List If} (h : Ifs w oa n c l) (hn : n ≤ 4294967296) : Calls Try.prog 24 #[.slice oa n c] w fun e w' => ∃ x base, e = .returned (.pointer (some ⟨x, 0, none⟩)) ∧ RefS w' base x ((sortI l).map cy0) (fun _ => -1) (fun _ => 0) ∧ Below w.heap.size w w' ∧ w.heap.size ≤ x := by
  have HL := Lib.hid h.sl.len
  have hal := (Below.refl w.heap.size w).alloc (Nat.le_refl _) (.cells #[.slice none 0 0, .int .i64 0, .int .i64 0, .int .i64 0, .int .i64 0, .int .i64 0, .int .i64 0, .int .i64 0, .int .i64 0, .int .i64 0, .int .i64 0, .int .i64 0, .int .i64 0, .int .i64 0, .int .i64 0, .int .i64 0, .int .i64 0, .int .i64 0, .int .i64 0, .int .i64 0, .int .i64 0, .int .i64 0, .int .i64 0, .int .i64 0, .int .i64 0, .int .i64 0, .int .i64 0, .int .i64 0, .int .i64 0, .int .i64 0, .int .i64 0, .int .i64 0, .int .i64 0] 67)
  have HS := Lib.hid (rsort_any (h.keep hal) hn)
  have h0 : (w.alloc (.cells #[.slice none 0 0, .int .i64 0, .int .i64 0, .int .i64 0, .int .i64 0, .int .i64 0, .int .i64 0, .int .i64 0, .int .i64 0, .int .i64 0, .int .i64 0, .int .i64 0, .int .i64 0, .int .i64 0, .int .i64 0, .int .i64 0, .int .i64 0, .int .i64 0, .int .i64 0, .int .i64 0, .int .i64 0, .int .i64 0, .int .i64 0, .int .i64 0, .int .i64 0, .int .i64 0, .int .i64 0, .int .i64 0, .int .i64 0, .int .i64 0, .int .i64 0, .int .i64 0, .int .i64 0] 67)).heap[w.heap.size]? = some (.cells #[.slice none 0 0, .int .i64 0, .int .i64 0, .int .i64 0, .int .i64 0, .int .i64 0, .int .i64 0, .int .i64 0, .int .i64 0, .int .i64 0, .int .i64 0, .int .i64 0, .int .i64 0, .int .i64 0, .int .i64 0, .int .i64 0, .int .i64 0, .int .i64 0, .int .i64 0, .int .i64 0, .int .i64 0, .int .i64 0, .int .i64 0, .int .i64 0, .int .i64 0, .int .i64 0, .int .i64 0, .int .i64 0, .int .i64 0, .int .i64 0, .int .i64 0, .int .i64 0, .int .i64 0] 67) := hnew _ _
  have F := Lib.hid (And.intro hal h0)
  clear h hal h0
  go_enter Try.func24, Try.ntmps24
  go_wp2_with fail
  refine (HS.out).mono ?_
  rintro e W ⟨v4, rfl, hown4, hb4⟩
  have hML : (sortI l).length = n := by rw [sortI_length]; exact HL.out.symm
  obtain ⟨a4, c4, rfl, hsl4, -⟩ := hown4.sl0
  rw [hML] at hsl4 ⊢
  have hbW := F.out.1.trans (hb4.mono (by simp))
  have hx1 : W.heap[w.heap.size]? = some (.cells #[.slice none 0 0, .int .i64 0, .int .i64 0, .int .i64 0, .int .i64 0, .int .i64 0, .int .i64 0, .int .i64 0, .int .i64 0, .int .i64 0, .int .i64 0, .int .i64 0, .int .i64 0, .int .i64 0, .int .i64 0, .int .i64 0, .int .i64 0, .int .i64 0, .int .i64 0, .int .i64 0, .int .i64 0, .int .i64 0, .int .i64 0, .int .i64 0, .int .i64 0, .int .i64 0, .int .i64 0, .int .i64 0, .int .i64 0, .int .i64 0, .int .i64 0, .int .i64 0, .int .i64 0] 67) := (hb4.block _ (lt_of_blk F.out.2)).trans F.out.2
  have hxW : w.heap.size < W.heap.size := lt_of_blk hx1
  have hblk : ∀ b o, a4 = some ⟨b, o, none⟩ → b ≠ w.heap.size := by
    intro b o e
    rcases hown4.cases with ⟨h1, -⟩ | ⟨g, cap, h1, hg, -⟩
    · injection h1 with h1; rw [h1] at e; cases e
    · injection h1 with h1; rw [h1] at e; injection e with e; injection e with e1 e2 e3; subst e1
      rw [show ∀ o, (w.alloc o).heap.size = w.heap.size + 1 from fun o => by simp] at hg
      omega
  have hR : RefS W W.heap.size w.heap.size (((sortI l).take 0).map cy0) (fun _ => 0) (fun _ => 0) := ⟨hxW, _, _, hx1, rfl, rfl, fun i h1 => by
    have : i = 0 ∨ i = 1 ∨ i = 2 ∨ i = 3 ∨ i = 4 ∨ i = 5 ∨ i = 6 ∨ i = 7 ∨ i = 8 ∨ i = 9 ∨ i = 10 ∨ i = 11 ∨ i = 12 ∨ i = 13 ∨ i = 14 ∨ i = 15 := by omega
    rcases this with rfl | rfl | rfl | rfl | rfl | rfl | rfl | rfl | rfl | rfl | rfl | rfl | rfl | rfl | rfl | rfl <;> exact ⟨rfl, rfl⟩, Rep.Own.nil _ _⟩
  have HB := Lib.hid (And.intro hbW (And.intro hsl4 (And.intro hblk hR)))
  obtain ⟨M, hM⟩ : ∃ M, M = sortI l := ⟨_, rfl⟩
  rw [← hM] at HB hML
  have HM := Lib.hid hM
  clear hM
  clear hown4 hb4 hx1 hblk hR hbW hsl4 F HS
  have hmax : n ≤ maxLen := by unfold maxLen; omega
  go_wp2_with fail
  go_loopw [5] (fun iv wr => ∃ i : Nat, i ≤ n ∧ iv = .int .i64 i ∧ RefS wr W.heap.size w.heap.size ((M.take i).map cy0) (fun _ => 0) (fun _ => 0) ∧ But W wr [w.heap.size]) (fun iv _ => n - (intOf iv).toNat)
  case atStart => exact ⟨0, Nat.zero_le _, rfl, HB.out.2.2.2, But.refl _ _⟩
  case round =>
    obtain ⟨i, hi, rfl, hr, hbt⟩ := hrel
    obtain ⟨w2, rfl⟩ : ∃ w2 : World, w2 = wr := ⟨_, rfl⟩
    by_cases hlt : i < n
    · have hil : ((i : Int) < (n : Int)) = True := by simp; omega
      have hw3 := wrapS hlt hmax
      have hwsz : W.heap.size ≤ w2.heap.size := hbt.size
      obtain ⟨cs, v, k1, k2, k3, k4, k5⟩ := hr.out
      obtain ⟨b, o, hbb, hrow⟩ := HB.out.2.1.row (by omega)
      subst hbb
      have hbx := HB.out.2.2.1 b o rfl
      have hbW := hrow.lt
      have hrow2 : RIf.Row w2 b o M := hrow.keep (hbt.block b hrow.lt (by simp; exact hbx))
      have hat := hrow2.get i (by omega)
      have y0 := hat 0 (by decide)
      have y3 := hat 4 (by decide)
      simp only [RIf, Nat.add_zero, List.getElem?_cons_zero, List.getElem?_cons_succ] at y0 y3
      have t1 := take_map_succ cy0 M (i := i) (by omega)
      generalize M.getD i default = y at *
      have hS : RnS w.heap.size v b (o + i * 5) y w2 := ⟨cell_of k1 k3, free_of k1, y0, y3⟩
      have hd := (Below.refl w2.heap.size w2).drew
      have G := Lib.hid (And.intro (show RefC w2.drew w.heap.size (fun _ => 0) (fun _ => 0) from ⟨cs, v, k1, k2, k3, k4⟩) (And.intro (hbt.drew) (And.intro (show RnS w.heap.size v b (o + i * 5) y w2.drew from hS) (And.intro (show RCy.Own w2.drew W.heap.size v ((M.take i).map cy0) from k5) (And.intro hbx hbW)))))
      have hml : ((M.take i).map cy0).length = i := by rw [List.length_map, List.length_take]; omega
      clear hr hbt k1 k2 k3 k4 k5 hrow hrow2 hat y0 y3 hS hd hbx hbW
      go_wp2_with fail
      refine wp_region_T 20 (RnS w.heap.size v b (o + i * 5) y) (by kernel_rfl) ?_
      generalize w2.drew = w3 at *
      have hwsz : W.heap.size ≤ w3.heap.size := G.out.2.1.size
      refine T_reads [0, 1, 2, 3, 4, 5, 6, 7, 8, 9, 10, 11, 12, 13, 14, 15] (g := 5) rfl (by kernel_rfl) G.out.2.2.1 (fun _ _ d _ _ h => by cases d <;> exact h) ?_
      simp only [pick, List.getD_cons_zero, List.getD_cons_succ]
      iterate 16 ((with_reducible refine wpRead_step (fun K hK => ?_)); go_simp; first | ((with_reducible refine hK _ ?_); clear hK K) | (apply Exists.intro; (with_reducible refine ⟨fun w' hw' => ?_, hK _ ?_⟩); (obtain ⟨f0, f1, f2, f3⟩ := hw'; go_simp; first | exact rfl | exact ⟨rfl, rfl⟩); clear hK K))
      with_reducible refine wpRead_nil ?_
      refine T_one 16 (by kernel_rfl) ?_
      simp only [pick, List.getD_cons_zero, List.getD_cons_succ]
      go_wp2_with fail
      have hal := (Below.refl w3.heap.size w3).alloc (Nat.le_refl _) (.cells #[.int .i64 y.id, .int .i64 y.cp, .bool false] 69)
      have hone : RCy.Sl (w3.alloc (.cells #[.int .i64 y.id, .int .i64 y.cp, .bool false] 69)) (some ⟨w3.heap.size, 0, none⟩) 1 1 [cy0 y] := Rep.sl_one (R := RCy) (y := cy0 y) (hnew _ _)
      have hx3 : w.heap.size < w3.heap.size := by omega
      have hb3 : b < w3.heap.size := by have := G.out.2.2.2.2.2; omega
      have G := Lib.hid (And.intro (G.out.1.on (hal.block _ hx3)) (And.intro (G.out.2.1.alloc (.cells #[.int .i64 y.id, .int .i64 y.cp, .bool false] 69)) (And.intro (G.out.2.2.1.on (hal.block _ hx3) (hal.block _ hb3)) (And.intro (G.out.2.2.2.1.below hal) (And.intro G.out.2.2.2.2.1 (And.intro G.out.2.2.2.2.2 hone))))))
      clear hal hone hx3 hb3
      generalize w3.alloc (.cells #[.int .i64 y.id, .int .i64 y.cp, .bool false] 69) = w4 at *
      generalize w3.heap.size = q3 at *
      have hwsz : W.heap.size ≤ w4.heap.size := G.out.2.1.size
      refine ⟨fun _ => G.out.2.2.1, ?_⟩
      refine T_one 17 (by kernel_rfl) ?_
      simp only [pick, List.getD_cons_zero, List.getD_cons_succ]
      go_wp2_with (at_builtin; refine halt ?_)
      refine Halted.go ?_
      refine Rep.append_list T64 rfl _ _ rfl rfl G.out.2.2.2.1 rfl G.out.2.2.2.2.2.2 (fun e => by cases e) (by rw [hml]; unfold maxLen; omega) (by rw [hml]; omega) hwsz ?_
      intro v5 w5 hown5 hb5 _
      rw [← t1] at hown5
      obtain ⟨a5, c5, rfl, -⟩ := hown5.sl0
      have hl1 : ((M.take (i + 1)).map cy0).length = i + 1 := by rw [List.length_map, List.length_take]; omega
      rw [hl1] at hown5 ⊢
      have hbt5 : But W w5 [w.heap.size] := Rep.But.step G.out.2.1 hb5 (Nat.le_refl _)
      have G := Lib.hid (And.intro (G.out.1.on (hb5.block _ hxW)) (And.intro hbt5 (And.intro (G.out.2.2.1.on (hb5.block _ hxW) (hb5.block _ G.out.2.2.2.2.2.1)) hown5)))
      clear hown5 hb5 hbt5
      go_wp2_with fail
      refine ⟨fun _ => G.out.2.2.1, ?_⟩
      refine T_one 18 (by kernel_rfl) ?_
      simp only [pick, List.getD_cons_zero, List.getD_cons_succ]
      go_wp2_with fail
      refine ⟨fun _ => G.out.2.2.1, ?_⟩
      refine T_one 19 (by kernel_rfl) ?_
      simp only [pick, List.getD_cons_zero, List.getD_cons_succ]
      go_wp2_with fail
      refine ⟨fun _ => G.out.2.2.1, ?_⟩
      refine T_one 20 (by kernel_rfl) ?_
      simp only [pick, List.getD_cons_zero, List.getD_cons_succ]
      obtain ⟨f0, f1, f2, f3⟩ := G.out.2.2.1
      have hset := G.out.1.setL hxW G.out.2.2.2 rfl
      have G := Lib.hid (And.intro hset.1 (G.out.2.1.trans hset.2))
      clear hset
      go_wp2_with fail
      refine ⟨fun h => absurd rfl h, ?_⟩
      refine T_done (by kernel_rfl) ?_ _
      go_wp2_with fail
      exact ⟨⟨i + 1, hlt, by first | rw [hw3] | rw [Int.natCast_succ], G.out.1, G.out.2⟩, by first | (rw [hw3]; exact mSucc hlt) | (rw [← Int.natCast_succ]; exact mSucc hlt)⟩
    · obtain rfl : n = i := by omega
      have hil : ((n : Int) < (n : Int)) = False := by simp
      rw [List.take_of_length_le (by rw [hML]; exact Nat.le_refl _)] at hr
      have G := Lib.hid (And.intro hr hbt)
      have HBW := Lib.hid HB.out.1
      clear hr hbt HB
      go_wp2_with fail
      go_loopw [6] (fun kv wr => ∃ k : Nat, k ≤ 16 ∧ kv = .int .i64 k ∧ (∃ Sq, RefS wr W.heap.size w.heap.size (M.map cy0) Sq (fun _ => 0) ∧ ∀ i, i < k → Sq i = -1) ∧ But W wr [w.heap.size]) (fun kv _ => 16 - (intOf kv).toNat)
      case atStart => exact ⟨0, Nat.zero_le _, rfl, ⟨_, G.out.1, fun i hi => by omega⟩, G.out.2⟩
      case round =>
        obtain ⟨k, hk, rfl, ⟨Sq, hr, hsq⟩, hbt⟩ := hrel
        by_cases hkt : k < 16
        · have hkl : ((k : Int) < 16) = True := by simp; omega
          have hk0 : ((0 : Int) ≤ (k : Int)) = True := by simp
          have hwk := wrapS hkt (by decide)
          obtain ⟨cs, v, k1, k2, k3, k4, k5⟩ := hr.out
          have hs := (k4 k hkt).1
          obtain ⟨s, hss⟩ : ∃ s, Sq k = s := ⟨_, rfl⟩
          rw [hss] at hs
          have e0 : wr.cell? ⟨w.heap.size, 1 + k, none⟩ = some (.int .i64 s) := cell_of k1 hs
          have f0 : wr.frozen? ⟨w.heap.size, 1 + k, none⟩ = false := free_of k1
          have hset := hr.setS (σ := k) hkt (s := -1) rfl
          have G2 := Lib.hid (And.intro (show ∃ Sq, RefS _ W.heap.size w.heap.size (M.map cy0) Sq (fun _ => 0) ∧ ∀ i, i < k + 1 → Sq i = -1 from ⟨_, hset.1, fun i hi => by
            show (if i = k then (-1 : Int) else Sq i) = -1
            split
            · rfl
            · exact hsq i (by omega)⟩) (hbt.trans hset.2))
          clear hr hbt k1 k2 k3 k4 k5 hs hset G hss hsq
          go_wp2_with fail
          exact ⟨⟨k + 1, hkt, by first | rw [hwk] | rw [Int.natCast_succ], G2.out.1, G2.out.2⟩, by first | (rw [hwk]; exact mSucc hkt) | (rw [← Int.natCast_succ]; exact mSucc hkt)⟩
        · obtain rfl : k = 16 := by omega
          have G2 := Lib.hid (And.intro (hr.seq hsq) (HBW.out.trans (hbt.below (Nat.le_of_lt hxW) (by simp))))
          clear hr hbt G hsq
          go_wp2_with fail
          go_ret
          exact ⟨_, _, rfl, HM.out ▸ G2.out.1, G2.out.2, Nat.le_refl _⟩
def stO (T : Nat → Int × Int × Bool) (s : Int) : Int × Bool := if 0 ≤ s ∧ s ≤ 15 then ((T s.toNat).2.1, (T s.toNat).2.2) else (0, false)
def StS (b : Nat) (_x y : Int) (z : Bool) (w : World) : Prop := w.cell? ⟨b, 1, none⟩ = some (.int .i64 y) ∧ w.cell? ⟨b, 2, none⟩ = some (.bool z)
set_option maxRecDepth 100000 in
theorem stamp_any {w0 w : World} {c bm h : Nat} {D : HD} {S : Int → Option Cy} {T : Nat → Int × Int × Bool} (H : CapS w0 w c bm h D S T) (s : Int) (a : Int) (is : Bool) (ho : stO T s = (a, is)) : Calls Try.prog 29 #[.pointer (some ⟨c, 0, none⟩), .int .i64 s] w fun e w' => e = .returned (.tuple #[.int .i64 a, .bool is]) ∧ Below w.heap.size w w' := by
  have HM := Lib.hid (made_any H.at)
  have HC := Lib.hid H
  clear H
  by_cases hs : 0 ≤ s ∧ s ≤ 15
  · obtain ⟨k, rfl⟩ : ∃ k : Nat, s = (k : Int) := ⟨s.toNat, by omega⟩
    have hk : k < 16 := by omega
    have ho' : ((T k).2.1, (T k).2.2) = (a, is) := by rw [← ho]; unfold stO; rw [if_pos hs]; rfl
    injection ho' with h1 h2
    obtain ⟨⟨c1, c2, c3⟩, -⟩ := HC.out.ct hk
    rw [h1] at c2
    rw [h2] at c3
    obtain ⟨q, hq⟩ : ∃ q, (T k).1 = q := ⟨_, rfl⟩
    rw [hq] at c1
    have hd : (decide ((0 : Int) ≤ (k : Int)) && decide ((k : Int) ≤ 15)) = true := by simp; omega
    have HW := Lib.hid (fun w => cwithin_any (k : Int) 0 15 w)
    rw [hd] at HW
    have hkl : ((k : Int) < 16) = True := by simp; omega
    have hk0 : ((0 : Int) ≤ (k : Int)) = True := by simp
    clear ho hs h1 h2 hq hd
    go_enter Try.func29, Try.ntmps29
    go_wp2_with fail
    refine HM.out.mono ?_
    rintro e W1 ⟨rfl, hw⟩
    subst hw
    go_wp2_with fail
    refine (HW.out _).mono ?_
    rintro e W1 ⟨rfl, hw⟩
    subst hw
    go_wp2_with fail
    have hst : StS W1.heap.size q a is (W1.alloc (.cells #[.int .i64 q, .int .i64 a, .bool is] 98)) := ⟨cell_of (hnew _ _) rfl, cell_of (hnew _ _) rfl⟩
    have HB := Lib.hid ((Below.refl W1.heap.size W1).alloc (Nat.le_refl _) (.cells #[.int .i64 q, .int .i64 a, .bool is] 98))
    have HS := Lib.hid hst
    clear hst c1 c2 c3
    generalize W1.alloc (.cells #[.int .i64 q, .int .i64 a, .bool is] 98) = W2 at *
    obtain ⟨d1, d2⟩ := HS.out
    go_quiet (fail)
    go_wp2_with fail
    go_ret2
    exact ⟨rfl, bdn HB.out _⟩
  · have ho' : ((0 : Int), false) = (a, is) := by rw [← ho]; unfold stO; rw [if_neg hs]
    injection ho' with h1 h2
    subst h1 h2
    have hd : (decide ((0 : Int) ≤ s) && decide (s ≤ 15)) = false := by
      rw [Bool.and_eq_false_iff]; simp; omega
    have HW := Lib.hid (fun w => cwithin_any s 0 15 w)
    rw [hd] at HW
    clear ho hs hd
    go_enter Try.func29, Try.ntmps29
    go_wp2_with fail
    refine HM.out.mono ?_
    rintro e W1 ⟨rfl, hw⟩
    subst hw
    go_wp2_with fail
    refine (HW.out _).mono ?_
    rintro e W1 ⟨rfl, hw⟩
    subst hw
    go_wp2_with fail
    go_ret2
    exact ⟨rfl, Below.refl _ _⟩
def rstO (Sq At : Nat → Int) (s : Int) : Int × Bool := if 0 ≤ s ∧ s ≤ 15 then (if Sq s.toNat < 0 then (0, false) else (At s.toNat, true)) else (0, false)
theorem RefC.st {w : World} {x : Nat} {Sq At : Nat → Int} (H : RefC w x Sq At) {i : Nat} (hi : i < 16) : w.cell? ⟨x, 1 + i, none⟩ = some (.int .i64 (Sq i)) ∧ w.cell? ⟨x, 17 + i, none⟩ = some (.int .i64 (At i)) := by
  obtain ⟨cs, v, h1, h2, h3, h4⟩ := H
  exact ⟨cell_of h1 (h4 i hi).1, cell_of h1 (h4 i hi).2⟩
set_option maxRecDepth 100000 in
theorem rstamp_any {w : World} {base x : Nat} {L : List Cy} {Sq At : Nat → Int} (H : RefS w base x L Sq At) (s : Int) (a : Int) (is : Bool) (ho : rstO Sq At s = (a, is)) : Calls Try.prog 30 #[.pointer (some ⟨x, 0, none⟩), .int .i64 s] w fun e w' => e = .returned (.tuple #[.int .i64 a, .bool is]) ∧ Below w.heap.size w w' := by
  have HC := Lib.hid H.toC
  clear H
  by_cases hs : 0 ≤ s ∧ s ≤ 15
  · obtain ⟨k, rfl⟩ : ∃ k : Nat, s = (k : Int) := ⟨s.toNat, by omega⟩
    have hk : k < 16 := by omega
    have ho' : (if Sq k < 0 then (0, false) else (At k, true)) = (a, is) := by rw [← ho]; unfold rstO; rw [if_pos hs]; rfl
    obtain ⟨c1, c2⟩ := HC.out.st hk
    have hkl : ((k : Int) < 16) = True := by simp; omega
    have hk1 : ((15 : Int) < (k : Int)) = False := by simp; omega
    have hk0 : ((k : Int) < 0) = False := by simp
    have hk2 : ((0 : Int) ≤ (k : Int)) = True := by simp
    obtain ⟨q, hq⟩ : ∃ q, Sq k = q := ⟨_, rfl⟩
    obtain ⟨y, hy⟩ : ∃ y, At k = y := ⟨_, rfl⟩
    rw [hq] at c1 ho'
    rw [hy] at c2 ho'
    clear ho hs hq hy
    by_cases hn : q < 0
    · have hnt : (q < 0) = True := by simp [hn]
      rw [if_pos hn] at ho'
      injection ho' with h1 h2
      subst h1 h2
      clear hn
      go_enter Try.func30, Try.ntmps30
      go_wp2_with fail
      go_ret2
      exact ⟨rfl, Below.refl _ _⟩
    · have hnt : (q < 0) = False := by simp; omega
      rw [if_neg hn] at ho'
      injection ho' with h1 h2
      subst h1 h2
      clear hn
      go_enter Try.func30, Try.ntmps30
      go_wp2_with fail
      go_ret2
      exact ⟨rfl, Below.refl _ _⟩
  · have ho' : ((0 : Int), false) = (a, is) := by rw [← ho]; unfold rstO; rw [if_neg hs]
    injection ho' with h1 h2
    subst h1 h2
    by_cases h1 : s < 0
    · have h1t : (s < 0) = True := by simp [h1]
      clear ho hs h1
      go_enter Try.func30, Try.ntmps30
      go_wp2_with fail
      go_ret2
      exact ⟨rfl, Below.refl _ _⟩
    · have h1t : (s < 0) = False := by simp; omega
      have h2t : (15 < s) = True := by simp; omega
      clear ho hs h1
      go_enter Try.func30, Try.ntmps30
      go_wp2_with fail
      go_ret2
      exact ⟨rfl, Below.refl _ _⟩
end Go.Proofs.Ytlkbaplfffbmkaa
/- The unlike ones of a list, as a map's keys are laid. -/
namespace Go.Proofs.Ytlkbaplfffbmkaa
section
variable {κ : Type} [DecidableEq κ]
def addK (S : List κ) (x : κ) : List κ := if x ∈ S then S else S ++ [x]
def keysOf (L : List κ) : List κ := L.foldl addK []
theorem keysOf_snoc (L : List κ) (x : κ) : keysOf (L ++ [x]) = addK (keysOf L) x := by unfold keysOf; rw [List.foldl_append]; rfl
theorem keysOf_succ {α : Type} [Inhabited α] (f : α → κ) {L : List α} {i : Nat} (h : i < L.length) : keysOf ((L.take (i + 1)).map f) = addK (keysOf ((L.take i).map f)) (f (L.getD i default)) := by
  rw [List.take_succ_eq_append_getElem h, List.map_append, List.map_singleton, keysOf_snoc]
  simp [List.getD_eq_getElem?_getD, h]
omit [DecidableEq κ] in
theorem snoc_list {P : List κ → Prop} (h0 : P []) (h1 : ∀ L x, P L → P (L ++ [x])) : ∀ L, P L := by
  intro L
  have : ∀ n (L : List κ), L.length = n → P L := by
    intro n
    induction n with
    | zero => intro L h; rw [List.length_eq_zero_iff.1 h]; exact h0
    | succ n ih =>
      intro L h
      have hne : L ≠ [] := by rintro rfl; simp at h
      rw [← List.dropLast_concat_getLast hne]
      exact h1 _ _ (ih _ (by simp; omega))
  exact this _ _ rfl
theorem keysOf_mem : ∀ (L : List κ) (y : κ), y ∈ keysOf L ↔ y ∈ L := by
  refine snoc_list (fun y => Iff.rfl) fun L x ih y => ?_
  rw [keysOf_snoc]
  unfold addK
  split
  · rename_i h
    rw [ih, List.mem_append, List.mem_singleton]
    refine ⟨.inl, ?_⟩
    rintro (h1 | rfl)
    · exact h1
    · exact (ih _).1 h
  · rw [List.mem_append, List.mem_append, ih]
theorem keysOf_len : ∀ L : List κ, (L.Nodup → (keysOf L).length = L.length) ∧ (¬ L.Nodup → (keysOf L).length < L.length) ∧ (keysOf L).length ≤ L.length := by
  refine snoc_list ⟨fun _ => rfl, fun h => absurd List.nodup_nil h, Nat.le_refl _⟩ fun L x ih => ?_
  obtain ⟨h1, h2, h3⟩ := ih
  rw [keysOf_snoc]
  unfold addK
  by_cases hx : x ∈ keysOf L
  · rw [if_pos hx]
    have hm := (keysOf_mem L x).1 hx
    refine ⟨fun h => ?_, fun _ => by simp; omega, by simp; omega⟩
    rw [List.nodup_append] at h
    exact absurd rfl (h.2.2 x hm x (by simp))
  · rw [if_neg hx]
    have hm : x ∉ L := fun h => hx ((keysOf_mem L x).2 h)
    refine ⟨fun h => ?_, fun h => ?_, by simp; omega⟩
    · rw [List.nodup_append] at h
      simp [h1 h.1]
    · have : ¬ L.Nodup := fun hn => h (by rw [List.nodup_append]; exact ⟨hn, by simp, fun a ha b hb => by simp at hb; subst hb; rintro rfl; exact hm ha⟩)
      simp
      exact h2 this
theorem put_keysOf {l : List (MR.Ent κ)} {x : κ} (v : Value) (c : Nat) : (MR.put l x v c).map (·.1) = addK (l.map (·.1)) x := by
  unfold MR.put addK
  split
  · rw [List.map_map]
    refine List.map_congr_left fun e _ => ?_
    simp only [Function.comp]
    split
    · rename_i h; exact h.symm
    · rfl
  · simp

omit [DecidableEq κ] in
theorem nodup_get {α : Type} [Inhabited α] {f : α → κ} {L : List α} : (L.map f).Nodup ↔ ∀ k i, k < i → i < L.length → f (L.getD k default) ≠ f (L.getD i default) := by
  rw [List.nodup_iff_pairwise_ne, List.pairwise_iff_getElem]
  constructor
  · intro h k i hk hi
    have := h k i (by simp; omega) (by simpa using hi) hk
    simpa [List.getD_eq_getElem?_getD, List.getElem?_eq_getElem hi, List.getElem?_eq_getElem (show k < L.length by omega)] using this
  · intro h k i hk hi hki
    have hi' : i < L.length := by simpa using hi
    have := h k i hki hi'
    simpa [List.getD_eq_getElem?_getD, List.getElem?_eq_getElem hi', List.getElem?_eq_getElem (show k < L.length by omega)] using this
end
end Go.Proofs.Ytlkbaplfffbmkaa
/- hop.Check of whatever interfaces. -/
namespace Go.Proofs.Ytlkbaplfffbmkaa
open Go.RowKit
open Go.ChangeMaps (setBlock)

def goodB (l : List If) : Bool := decide (l.length ≤ 256) && decide ((l.map If.id).Nodup) && decide ((l.map If.net).Nodup) && l.all okI
theorem good_iff {l : List If} : goodB l = true ↔ Good l := by
  unfold goodB
  simp only [Bool.and_eq_true, decide_eq_true_eq]
  constructor
  · rintro ⟨⟨⟨h1, h2⟩, h3⟩, h4⟩
    rw [nodup_get] at h2 h3
    exact ⟨fun x hx => List.all_eq_true.1 h4 x hx, h2, fun k i hk hi a b c => h3 k i hk hi (by unfold If.net; rw [a, b, c]), h1⟩
  · intro h
    refine ⟨⟨⟨h.len, nodup_get.2 h.ids⟩, nodup_get.2 fun k i hk hi he => ?_⟩, List.all_eq_true.2 h.ok⟩
    unfold If.net at he
    injection he with a b c
    exact h.nets k i hk hi a (by omega) c
structure IfsW (w : World) (oa : Option Addr) (n c : Nat) (l : List If) : Prop where
  ifs : Ifs w oa n c l
  ok : ∀ x ∈ l, IN.ok x.id ∧ NN.ok x.net
theorem IfsW.keep {w w' : World} {oa : Option Addr} {n c : Nat} {l : List If} (h : IfsW w oa n c l) (hb : Below w.heap.size w w') : IfsW w' oa n c l := ⟨h.ifs.keep hb, h.ok⟩
set_option maxRecDepth 100000 in
set_option maxHeartbeats 1000000 in
theorem hodd_any {x : If} (had : x.ad < 4294967296) (w : World) : Calls Try.prog 41 #[x.v] w fun e w' => e = .returned (.bool (!okI x)) ∧ Below w.heap.size w w' := by
  have hal := (Below.refl w.heap.size w).alloc (Nat.le_refl _) (.cells #[.int .i64 x.id, .int .i64 x.r, .int .u32 (x.ad : Int), .int .i64 x.ln, .int .i64 x.cp] 34)
  have hxs : IfS w.heap.size x (w.alloc (.cells #[.int .i64 x.id, .int .i64 x.r, .int .u32 (x.ad : Int), .int .i64 x.ln, .int .i64 x.cp] 34)) := hnew _ _
  have W1 := fun W => hwithin_any x.id 0 4294967295 W
  have W2 := fun W => hwithin_any x.r 0 15 W
  have W3 := fun W => check_any x.ad x.ln had W
  have W4 := fun W => hwithin_any x.cp 0 9007199254740991 W
  obtain ⟨b, hbk⟩ : ∃ b, okI x = b := ⟨_, rfl⟩
  rw [hbk]
  have hbk2 : ((decide (0 ≤ x.id) && decide (x.id ≤ 4294967295)) && (decide (0 ≤ x.r) && decide (x.r ≤ 15)) && okP x.ad x.ln && (decide (0 ≤ x.cp) && decide (x.cp ≤ 9007199254740991))) = b := by
    rw [← hbk]; unfold okI; simp only [Bool.and_assoc]
  clear hbk
  generalize (decide (0 ≤ x.id) && decide (x.id ≤ 4294967295)) = b1 at *
  generalize (decide (0 ≤ x.r) && decide (x.r ≤ 15)) = b2 at *
  generalize okP x.ad x.ln = b3 at *
  generalize (decide (0 ≤ x.cp) && decide (x.cp ≤ 9007199254740991)) = b4 at *
  subst hbk2
  have H1 := Lib.hid W1
  have H2 := Lib.hid W2
  have H3 := Lib.hid W3
  have H4 := Lib.hid W4
  have F := Lib.hid (And.intro hal hxs)
  obtain ⟨z0, z1, z2, z3, z4⟩ := hxs.cells
  unfold If.v
  clear W1 W2 W3 W4 hal hxs had
  go_enter Try.func41, Try.ntmps41
  go_wp2_with fail
  refine (H1.out _).mono ?_
  rintro e W1 ⟨rfl, hw1⟩
  generalize w.alloc (.cells #[.int .i64 x.id, .int .i64 x.r, .int .u32 (x.ad : Int), .int .i64 x.ln, .int .i64 x.cp] 34) = W at *
  subst W1
  cases b1 with
  | false =>
    go_wp2_with fail
    go_ret
    exact ⟨rfl, F.out.1⟩
  | true =>
  go_wp2_with fail
  refine (H2.out _).mono ?_
  rintro e W1 ⟨rfl, hw1⟩
  subst W1
  cases b2 with
  | false =>
    go_wp2_with fail
    go_ret
    exact ⟨rfl, F.out.1⟩
  | true =>
  go_wp2_with fail
  refine (H3.out _).mono ?_
  rintro e W1 ⟨rfl, hb1⟩
  have F1 := Lib.hid (And.intro (bcall F.out.1 (Nat.le_refl _) hb1) (F.out.2.on hb1))
  clear z0 z1 z2 z3 z4 hb1 F
  obtain ⟨z0, z1, z2, z3, z4⟩ := F1.out.2.cells
  cases b3 with
  | false =>
    rw [if_neg (by decide)]
    go_wp2_with fail
    go_ret
    exact ⟨rfl, F1.out.1⟩
  | true =>
  rw [if_pos rfl]
  go_wp2_with fail
  refine (H4.out _).mono ?_
  rintro e W2 ⟨rfl, hw1⟩
  subst W2
  go_wp2_with fail
  go_ret
  exact ⟨by rw [Bool.and_self, Bool.and_self, Bool.true_and]; rfl, F1.out.1⟩
theorem all_take_p {α : Type} [Inhabited α] (M : List α) (p : α → Bool) (k : Nat) (h : k < M.length) : (M.take (k + 1)).all p = ((M.take k).all p && p (M.getD k default)) := by
  rw [List.take_succ_eq_append_getElem h, List.all_append]
  simp [List.getD_eq_getElem?_getD, h]
set_option maxRecDepth 100000 in
set_option maxHeartbeats 1000000 in
theorem hindex_any {w : World} {oa : Option Addr} {n c : Nat} {l : List If} (h : Ifs w oa n c l) : Calls Try.prog 59 #[.slice oa n c, CalleeF 41] w fun e w' => (∃ k : Int, e = .returned (.int .i64 k) ∧ decide (0 ≤ k) = !(l.all okI)) ∧ Below w.heap.size w w' := by
  have HL := Lib.hid h.sl.len
  have F := Lib.hid h
  have hmax := h.sl.max
  clear h
  unfold CalleeF
  go_enter Try.func59, Try.ntmps59
  go_wp2_with fail
  go_loopw [8] (fun iv wr => ∃ i : Nat, i ≤ n ∧ iv = .int .i64 i ∧ (l.take i).all okI = true ∧ Below w.heap.size w wr) (fun iv _ => n - (intOf iv).toNat)
  case atStart => exact ⟨0, Nat.zero_le _, rfl, rfl, Below.refl _ _⟩
  case round =>
    obtain ⟨i, hi, rfl, hall, hb⟩ := hrel
    obtain ⟨w2, rfl⟩ : ∃ w2 : World, w2 = wr := ⟨_, rfl⟩
    by_cases hlt : i < n
    · have hil : ((i : Int) < (n : Int)) = True := by simp; omega
      have hw3 := wrapS hlt hmax
      have hlen : l.length = n := HL.out.symm
      obtain ⟨b0, o0, rfl, hbb, hat⟩ := (F.out.keep hb).sl.at hlt
      have c0 := hat 0 (by decide)
      have c1 := hat 1 (by decide)
      have c2 := hat 2 (by decide)
      have c3 := hat 3 (by decide)
      have c4 := hat 4 (by decide)
      simp only [RIf, Nat.add_zero, List.getElem?_cons_zero, List.getElem?_cons_succ] at c0 c1 c2 c3 c4
      have t1 := all_take_p l okI i (by omega)
      rw [hall, Bool.true_and] at t1
      have hmem : l.getD i default ∈ l := getD_mem (by omega)
      have hox := hodd_any (F.out.ad _ hmem) w2
      generalize l.getD i default = x at *
      obtain ⟨bo, hbo⟩ : ∃ bo, okI x = bo := ⟨_, rfl⟩
      rw [hbo] at hox t1
      have HX := Lib.hid hox
      have HB := Lib.hid hb
      have HT := Lib.hid (And.intro t1 (And.intro hmem hbo))
      clear hox hb hat hlen t1 hmem hall hbo
      go_wp2_with fail
      refine (HX.out).mono ?_
      rintro e W3 ⟨rfl, hb3⟩
      have HB3 := Lib.hid (bcall HB.out (Nat.le_refl _) hb3)
      clear hb3 HB c0 c1 c2 c3 c4 HX
      cases bo with
      | true =>
        rw [Bool.not_true]
        go_wp2_with fail
        exact ⟨⟨i + 1, hlt, by first | rw [hw3] | rw [Int.natCast_succ], HT.out.1, HB3.out⟩, by first | (rw [hw3]; exact mSucc hlt) | (rw [← Int.natCast_succ]; exact mSucc hlt)⟩
      | false =>
        rw [Bool.not_false]
        go_wp2_with fail
        go_ret
        have hno : l.all okI = false := by
          rw [List.all_eq_false]
          exact ⟨_, HT.out.2.1, by simp [HT.out.2.2]⟩
        exact ⟨⟨_, rfl, by rw [hno]; simp⟩, HB3.out⟩
    · obtain rfl : n = i := by omega
      have hil : ((n : Int) < (n : Int)) = False := by simp
      have HB := Lib.hid hb
      rw [List.take_of_length_le (by rw [HL.out]; exact Nat.le_refl _)] at hall
      have HA := Lib.hid hall
      clear hb hall
      go_wp2_with fail
      go_ret
      exact ⟨⟨_, rfl, by rw [HA.out]; rfl⟩, HB.out⟩
set_option maxRecDepth 100000 in
theorem hcontains_any {w : World} {oa : Option Addr} {n c : Nat} {l : List If} (h : Ifs w oa n c l) : Calls Try.prog 40 #[.slice oa n c, CalleeF 41] w fun e w' => e = .returned (.bool (!(l.all okI))) ∧ Below w.heap.size w w' := by
  have HK := Lib.hid (hindex_any h)
  clear h
  unfold CalleeF at *
  go_enter Try.func40, Try.ntmps40
  go_wp2_with fail
  refine (HK.out).mono ?_
  rintro e w1 ⟨⟨k, rfl, hk⟩, hb⟩
  have HB := Lib.hid (And.intro hk hb)
  clear hk hb
  go_wp2_with fail
  go_ret
  exact ⟨ret_bool (by rw [← HB.out.1]), HB.out.2⟩
set_option maxRecDepth 100000 in
set_option maxHeartbeats 2000000 in
theorem hcheck_any {w : World} {oa : Option Addr} {n c : Nat} {l : List If} (h : IfsW w oa n c l) (b : Bool) (hbk : goodB l = b) : Calls Try.prog 13 #[.slice oa n c] w fun e w' => e = .returned (.int .i64 (bif b then 0 else 160)) ∧ Below w.heap.size w w' := by
  have HL := Lib.hid h.ifs.sl.len
  have F := Lib.hid h
  have HBK := Lib.hid hbk
  have hmax := h.ifs.sl.max
  have hal := ((Below.refl w.heap.size w).alloc (Nat.le_refl _) (.map #[] 0)).alloc (by simp) (.map #[] 0)
  have m3 : MR.MapAt IN ((w.alloc (.map #[] 0)).alloc (.map #[] 0)) w.heap.size [] 0 := MR.mapAt_made IN (hold (hnew _ _))
  have m4 : MR.MapAt NN ((w.alloc (.map #[] 0)).alloc (.map #[] 0)) (w.heap.size + 1) [] 0 := MR.mapAt_made NN (hnewAt (by simp))
  have G := Lib.hid (And.intro m3 (And.intro m4 hal))
  clear h hal m3 m4 hbk
  have hmm := @run_makeMap Try.prog
  go_enter Try.func13, Try.ntmps13
  go_wp2_with fail
  clear hmm
  generalize ((w.alloc (.map #[] 0)).alloc (.map #[] 0)) = W at *
  go_loopw [11] (fun iv wr => ∃ (i : Nat) (es : List (MR.Ent Int)) (c3 : Nat) (fs : List (MR.Ent NK)) (c4 : Nat), i ≤ n ∧ iv = .int .i64 i ∧ es.map (·.1) = keysOf ((l.take i).map If.id) ∧ fs.map (·.1) = keysOf ((l.take i).map If.net) ∧ MR.MapAt IN wr w.heap.size es c3 ∧ MR.MapAt NN wr (w.heap.size + 1) fs c4 ∧ Below w.heap.size w wr) (fun iv _ => n - (intOf iv).toNat)
  case atStart => exact ⟨0, [], 0, [], 0, Nat.zero_le _, rfl, rfl, rfl, G.out.1, G.out.2.1, G.out.2.2⟩
  case round =>
    obtain ⟨i, es, c3, fs, c4, hi, rfl, hes, hfs, hm3, hm4, hb⟩ := hrel
    obtain ⟨w2, rfl⟩ : ∃ w2 : World, w2 = wr := ⟨_, rfl⟩
    by_cases hlt : i < n
    · have hil : ((i : Int) < (n : Int)) = True := by simp; omega
      have hw3 := wrapS hlt hmax
      have hlen : l.length = n := HL.out.symm
      obtain ⟨b0, o0, rfl, hbb, hat⟩ := (F.out.keep hb).ifs.sl.at hlt
      have c0 := hat 0 (by decide)
      have c1 := hat 1 (by decide)
      have c2 := hat 2 (by decide)
      have c3' := hat 3 (by decide)
      have c4' := hat 4 (by decide)
      simp only [RIf, Nat.add_zero, List.getElem?_cons_zero, List.getElem?_cons_succ] at c0 c1 c2 c3' c4'
      have hbd := F.out.ok _ (getD_mem (i := i) (by omega))
      have t1 := keysOf_succ If.id (L := l) (i := i) (by omega)
      have t2 := keysOf_succ If.net (L := l) (i := i) (by omega)
      rw [← hes] at t1
      rw [← hfs] at t2
      generalize l.getD i default = x at *
      have hal := (Below.refl w2.heap.size w2).alloc (Nat.le_refl _) (.cells #[.int .i64 x.id, .int .i64 x.r, .int .u32 (x.ad : Int), .int .i64 x.ln, .int .i64 x.cp] 34)
      have hxs : IfS w2.heap.size x (w2.alloc (.cells #[.int .i64 x.id, .int .i64 x.r, .int .u32 (x.ad : Int), .int .i64 x.ln, .int .i64 x.cp] 34)) := hnew _ _
      have l3 : w.heap.size < w2.heap.size := lt_of_blk hm3.blk
      have l4 : w.heap.size + 1 < w2.heap.size := lt_of_blk hm4.blk
      have hm3a : MR.MapAt IN (w2.alloc (.cells #[.int .i64 x.id, .int .i64 x.r, .int .u32 (x.ad : Int), .int .i64 x.ln, .int .i64 x.cp] 34)) w.heap.size es c3 := hm3.blk_iff IN (hal.block _ l3)
      have hm4a : MR.MapAt NN (w2.alloc (.cells #[.int .i64 x.id, .int .i64 x.r, .int .u32 (x.ad : Int), .int .i64 x.ln, .int .i64 x.cp] 34)) (w.heap.size + 1) fs c4 := hm4.blk_iff NN (hal.block _ l4)
      obtain ⟨O1, hO1⟩ : ∃ O, O = Obj.map (MR.ents IN.enc (MR.put es x.id (.bool true) c3)).toArray (MR.clock' es x.id c3) := ⟨_, rfl⟩
      have hu1 : (Instr.mapUpdate 84 (.map (some w.heap.size)) (.int .i64 x.id) (.bool true)).run Try.prog (w2.alloc (.cells #[.int .i64 x.id, .int .i64 x.r, .int .u32 (x.ad : Int), .int .i64 x.ln, .int .i64 x.cp] 34)) = .ok () (setBlock (w2.alloc (.cells #[.int .i64 x.id, .int .i64 x.r, .int .u32 (x.ad : Int), .int .i64 x.ln, .int .i64 x.cp] 34)) w.heap.size O1) := by rw [hO1]; exact (MR.run_update IN hm3a hbd.1 Try.underlying84 (.bool true)).1
      have hm3b : MR.MapAt IN (setBlock (w2.alloc (.cells #[.int .i64 x.id, .int .i64 x.r, .int .u32 (x.ad : Int), .int .i64 x.ln, .int .i64 x.cp] 34)) w.heap.size O1) w.heap.size (MR.put es x.id (.bool true) c3) (MR.clock' es x.id c3) := by rw [hO1]; exact (MR.run_update IN hm3a hbd.1 Try.underlying84 (.bool true)).2
      have hm4b : MR.MapAt NN (setBlock (w2.alloc (.cells #[.int .i64 x.id, .int .i64 x.r, .int .u32 (x.ad : Int), .int .i64 x.ln, .int .i64 x.cp] 34)) w.heap.size O1) (w.heap.size + 1) fs c4 := hm4a.blk_iff NN (setBlock_other (by omega))
      have hxs2 : IfS w2.heap.size x (setBlock (w2.alloc (.cells #[.int .i64 x.id, .int .i64 x.r, .int .u32 (x.ad : Int), .int .i64 x.ln, .int .i64 x.cp] 34)) w.heap.size O1) := (setBlock_other (by omega)).trans hxs
      obtain ⟨O2, hO2⟩ : ∃ O, O = Obj.map (MR.ents NN.enc (MR.put fs x.net (.bool true) c4)).toArray (MR.clock' fs x.net c4) := ⟨_, rfl⟩
      have hu2 : (Instr.mapUpdate 85 (.map (some (w.heap.size + 1))) (.agg #[.int .i64 x.r, .int .u32 (x.ad : Int), .int .i64 x.ln]) (.bool true)).run Try.prog (setBlock (w2.alloc (.cells #[.int .i64 x.id, .int .i64 x.r, .int .u32 (x.ad : Int), .int .i64 x.ln, .int .i64 x.cp] 34)) w.heap.size O1) = .ok () (setBlock (setBlock (w2.alloc (.cells #[.int .i64 x.id, .int .i64 x.r, .int .u32 (x.ad : Int), .int .i64 x.ln, .int .i64 x.cp] 34)) w.heap.size O1) (w.heap.size + 1) O2) := by rw [hO2]; exact (MR.run_update NN hm4b hbd.2 Try.underlying85 (.bool true)).1
      have hm4c : MR.MapAt NN (setBlock (setBlock (w2.alloc (.cells #[.int .i64 x.id, .int .i64 x.r, .int .u32 (x.ad : Int), .int .i64 x.ln, .int .i64 x.cp] 34)) w.heap.size O1) (w.heap.size + 1) O2) (w.heap.size + 1) (MR.put fs x.net (.bool true) c4) (MR.clock' fs x.net c4) := by rw [hO2]; exact (MR.run_update NN hm4b hbd.2 Try.underlying85 (.bool true)).2
      have hm3c : MR.MapAt IN (setBlock (setBlock (w2.alloc (.cells #[.int .i64 x.id, .int .i64 x.r, .int .u32 (x.ad : Int), .int .i64 x.ln, .int .i64 x.cp] 34)) w.heap.size O1) (w.heap.size + 1) O2) w.heap.size (MR.put es x.id (.bool true) c3) (MR.clock' es x.id c3) := hm3b.blk_iff IN (setBlock_other (by omega))
      have hbc : Below w.heap.size w (setBlock (setBlock (w2.alloc (.cells #[.int .i64 x.id, .int .i64 x.r, .int .u32 (x.ad : Int), .int .i64 x.ln, .int .i64 x.cp] 34)) w.heap.size O1) (w.heap.size + 1) O2) := below_setBlock (below_setBlock (bcall hb (Nat.le_refl _) hal) (Nat.le_refl _)) (by omega)
      have H := Lib.hid (And.intro ((put_keysOf (.bool true) c3).trans t1.symm) (And.intro ((put_keysOf (.bool true) c4).trans t2.symm) (And.intro hm3c (And.intro hm4c hbc))))
      obtain ⟨z0, z1, z2, z3, z4⟩ := hxs.cells
      obtain ⟨y0, y1, y2, y3, y4⟩ := hxs2.cells
      clear hO1 hO2 hm3a hm3b hm4a hm4b hm3c hm4c hbc hxs hxs2 hal hm3 hm4 hb hbd t1 t2 hat hes hfs hlen
      go_wp2_with fail
      exact ⟨⟨i + 1, _, _, _, _, hlt, by first | rw [hw3] | rw [Int.natCast_succ], H.out.1, H.out.2.1, H.out.2.2.1, H.out.2.2.2.1, H.out.2.2.2.2⟩, by first | (rw [hw3]; exact mSucc hlt) | (rw [← Int.natCast_succ]; exact mSucc hlt)⟩
    · obtain rfl : n = i := by omega
      have hil : ((n : Int) < (n : Int)) = False := by simp
      have hlen := HL.out
      rw [List.take_of_length_le (by omega)] at hes hfs
      have e3 : es.length = (keysOf (l.map If.id)).length := by have := congrArg List.length hes; rwa [List.length_map] at this
      have e4 : fs.length = (keysOf (l.map If.net)).length := by have := congrArg List.length hfs; rwa [List.length_map] at this
      have hl3 := fun ty => MR.run_len IN hm3 Try.underlying84 ty
      have hl4 := fun ty => MR.run_len NN hm4 Try.underlying85 ty
      have hid := keysOf_len (l.map If.id)
      have hnt := keysOf_len (l.map If.net)
      rw [List.length_map, ← hlen, ← e3] at hid
      rw [List.length_map, ← hlen, ← e4] at hnt
      generalize es.length = m at *
      generalize fs.length = m2 at *
      have HB := Lib.hid hb
      have HK := Lib.hid (hcontains_any (F.out.keep hb).ifs)
      have HID := Lib.hid (And.intro hid hnt)
      have hbk := HBK.out
      unfold goodB at hbk
      rw [← hlen] at hbk
      have hmn1 := hid.2.2
      have hmn2 := hnt.2.2
      clear hb hm3 hm4 hes hfs e3 e4 hlen hid hnt
      by_cases h256 : n ≤ 256
      · have h25 : ((256 : Int) < (n : Int)) = False := by simp; omega
        by_cases hn1 : (l.map If.id).Nodup
        · have hl1 : (m < n) = False := by have := HID.out.1.1 hn1; simp; omega
          by_cases hn2 : (l.map If.net).Nodup
          · have hl2 : (m2 < n) = False := by have := HID.out.2.1 hn2; simp; omega
            rw [decide_eq_true h256, decide_eq_true hn1, decide_eq_true hn2, Bool.true_and, Bool.true_and, Bool.true_and] at hbk
            rw [hbk] at HK
            clear h256 hn1 hn2 hbk
            go_wp2_with fail
            refine (HK.out).mono ?_
            rintro e W3 ⟨rfl, hb3⟩
            have HB3 := Lib.hid (bcall HB.out (Nat.le_refl _) hb3)
            clear hb3 HB HK hl3 hl4
            cases b with
            | true =>
              go_wp2_with fail
              go_ret
              exact ⟨rfl, HB3.out⟩
            | false =>
              go_wp2_with fail
              go_ret
              exact ⟨rfl, HB3.out⟩
          · have hl2 : (m2 < n) = True := by have := HID.out.2.2.1 hn2; simp; omega
            rw [decide_eq_false hn2, Bool.and_false, Bool.false_and] at hbk
            subst hbk
            clear h256 hn1 hn2
            go_wp2_with fail
            go_ret
            exact ⟨rfl, HB.out⟩
        · have hl1 : (m < n) = True := by have := HID.out.1.2.1 hn1; simp; omega
          rw [decide_eq_false hn1, Bool.and_false, Bool.false_and, Bool.false_and] at hbk
          subst hbk
          clear h256 hn1
          go_wp2_with fail
          go_ret
          exact ⟨rfl, HB.out⟩
      · have h25 : ((256 : Int) < (n : Int)) = True := by simp; omega
        rw [decide_eq_false h256, Bool.false_and, Bool.false_and, Bool.false_and] at hbk
        subst hbk
        clear h256
        go_wp2_with fail
        go_ret
        exact ⟨rfl, HB.out⟩
end Go.Proofs.Ytlkbaplfffbmkaa
/- The reference's Iface, Same; Len; New of those that may not be. -/
namespace Go.Proofs.Ytlkbaplfffbmkaa
open Go.RowKit

def HD.len (_D : HD) (es : List (MR.Ent Int)) : Nat := es.length
/-- the one of a number, in a list -/
def getI (l : List If) (id : Int) : Option If := l.find? (fun x => decide (x.id = id))
set_option maxRecDepth 100000 in
set_option maxHeartbeats 1000000 in
theorem riface_any {w : World} {oa : Option Addr} {n c : Nat} {l : List If} (h : Ifs w oa n c l) (id : Int) (r : If) (is : Bool) (hr : getI l id = if is then some r else none) (hz : is = false → r = ⟨0, 0, 0, 0, 0⟩) : Calls Try.prog 17 #[.slice oa n c, .int .i64 id] w fun e w' => e = .returned (.tuple #[r.v, .bool is]) ∧ Below w.heap.size w w' := by
  have hal := (Below.refl w.heap.size w).alloc (Nat.le_refl _) (.cells #[.int .i64 0, .int .i64 0, .int .u32 0, .int .i64 0, .int .i64 0] 34)
  have hnw : (w.alloc (.cells #[.int .i64 0, .int .i64 0, .int .u32 0, .int .i64 0, .int .i64 0] 34)).heap[w.heap.size]? = some (.cells #[.int .i64 0, .int .i64 0, .int .u32 0, .int .i64 0, .int .i64 0] 34) := hnew _ _
  have HL := Lib.hid h.sl.len
  have F := Lib.hid h
  have hmax := h.sl.max
  have HR := Lib.hid (And.intro hr hz)
  have HA := Lib.hid (And.intro hal hnw)
  clear h hr hz hal hnw
  go_enter Try.func17, Try.ntmps17
  go_wp2_with fail
  go_loopw [6] (fun iv wr => ∃ i : Nat, i ≤ n ∧ iv = .int .i64 i ∧ (∀ j, j < i → (l.getD j default).id ≠ id) ∧ wr = w.alloc (.cells #[.int .i64 0, .int .i64 0, .int .u32 0, .int .i64 0, .int .i64 0] 34)) (fun iv _ => n - (intOf iv).toNat)
  case atStart => exact ⟨0, Nat.zero_le _, rfl, fun j hj => by omega, rfl⟩
  case round =>
    obtain ⟨i, hi, rfl, hne, rfl⟩ := hrel
    have HE := Lib.hid hne
    clear hne
    by_cases hlt : i < n
    · have hil : ((i : Int) < (n : Int)) = True := by simp; omega
      have hw3 := wrapS hlt hmax
      obtain ⟨b0, o0, rfl, hbb, hat⟩ := (F.out.keep HA.out.1).sl.at hlt
      have c0 := hat 0 (by decide)
      have c1 := hat 1 (by decide)
      have c2 := hat 2 (by decide)
      have c3 := hat 3 (by decide)
      have c4 := hat 4 (by decide)
      simp only [RIf, Nat.add_zero, List.getElem?_cons_zero, List.getElem?_cons_succ] at c0 c1 c2 c3 c4
      obtain ⟨x, hx⟩ : ∃ x, l.getD i default = x := ⟨_, rfl⟩
      rw [hx] at c0 c1 c2 c3 c4
      obtain ⟨be, hbe⟩ : ∃ be, (x.id == id) = be := ⟨_, rfl⟩
      have HB := Lib.hid (And.intro hbe hx)
      clear hx hat hbb
      cases be with
      | true =>
        have hbi : (x.id = id) = True := by simpa using HB.out.1
        have hget : getI l id = some x := by
          unfold getI
          rw [List.find?_eq_some_iff_getElem]
          refine ⟨by simpa using HB.out.1, i, by rw [← HL.out]; exact hlt, ?_, fun j hj => ?_⟩
          · have := HB.out.2
            simpa [List.getD_eq_getElem?_getD, List.getElem?_eq_getElem (show i < l.length by rw [← HL.out]; exact hlt)] using this
          · have := HE.out j hj
            simpa [List.getD_eq_getElem?_getD, List.getElem?_eq_getElem (show j < l.length by have := HL.out; omega)] using this
        have HG := Lib.hid hget
        clear hget
        go_wp2_with (with_reducible refine halt_store 34 rfl ?_)
        refine Halted.go ?_
        refine store_whole rfl 34 _ _ rfl w.heap.size #[.int .i64 x.id, .int .i64 x.r, .int .u32 (x.ad : Int), .int .i64 x.ln, .int .i64 x.cp] rfl rfl HA.out.2 rfl (by kernel_rfl) (by simp [Value.oneCell']) ?_
        intro wz hwz hsz
        have HZ := Lib.hid (And.intro hwz (Below.trans HA.out.1 (hsz.below (Nat.le_refl _))))
        clear hwz hsz
        go_wp2_with fail
        refine ret_cell2 rfl rfl rfl HZ.out.1 Try.underlying34 rfl (by kernel_rfl) ?_
        have hri := HR.out.1
        rw [HG.out] at hri
        cases is with
        | true => rw [if_pos rfl] at hri; injection hri with hri; subst hri; exact ⟨rfl, HZ.out.2⟩
        | false => rw [if_neg (by decide)] at hri; cases hri
      | false =>
        have hbi : (x.id = id) = False := by simpa using HB.out.1
        go_wp2_with fail
        exact ⟨⟨i + 1, hlt, by first | rw [hw3] | rw [Int.natCast_succ], fun j hj => by
          rcases Nat.lt_succ_iff_lt_or_eq.1 hj with h | rfl
          · exact HE.out j h
          · rw [HB.out.2]; simpa using HB.out.1, trivial⟩, by first | (rw [hw3]; exact mSucc hlt) | (rw [← Int.natCast_succ]; exact mSucc hlt)⟩
    · obtain rfl : n = i := by omega
      have hil : ((n : Int) < (n : Int)) = False := by simp
      go_wp2_with (with_reducible refine halt_store 34 rfl ?_)
      refine Halted.go ?_
      refine store_whole rfl 34 _ _ rfl w.heap.size #[.int .i64 0, .int .i64 0, .int .u32 0, .int .i64 0, .int .i64 0] rfl rfl HA.out.2 rfl (by kernel_rfl) (by simp [Value.oneCell']) ?_
      intro wz hwz hsz
      have HZ := Lib.hid (And.intro hwz (Below.trans HA.out.1 (hsz.below (Nat.le_refl _))))
      clear hwz hsz
      go_wp2_with fail
      refine ret_cell2 rfl rfl rfl HZ.out.1 Try.underlying34 rfl (by kernel_rfl) ?_
      have hget : getI l id = none := by
        unfold getI
        rw [List.find?_eq_none]
        intro x hx
        obtain ⟨j, hj, rfl⟩ := List.mem_iff_getElem.1 hx
        have := HE.out j (by rw [HL.out]; exact hj)
        simpa [List.getD_eq_getElem?_getD, List.getElem?_eq_getElem hj] using this
      have hri := HR.out.1
      rw [hget] at hri
      cases is with
      | true => rw [if_pos rfl] at hri; cases hri
      | false => rw [HR.out.2 rfl]; exact ⟨rfl, HZ.out.2⟩
set_option maxRecDepth 100000 in
theorem len_any {w : World} {h : Nat} {D : HD} (H : HopsAt w h D) : ∃ N : Nat, Calls Try.prog 21 #[.pointer (some ⟨h, 0, none⟩)] w fun e w' => e = .returned (.int .i64 N) ∧ w' = w := by
  obtain ⟨⟨bm, clk, es, b, h1, h2, h3, h4⟩, hw⟩ := H
  refine ⟨es.length, ?_⟩
  have hl3 := fun ty => MR.run_len IN h2 Try.underlying76 ty
  have c0 : w.cell? ⟨h, 0, none⟩ = some (.map (some bm)) := cell_of h1 rfl
  clear h1 h2 h3 h4 hw
  generalize es.length = N at *
  go_enter Try.func21, Try.ntmps21
  go_wp2_with fail
  go_ret
  exact ⟨rfl, rfl⟩
set_option maxRecDepth 100000 in
set_option maxHeartbeats 1000000 in
theorem hnew_bad {w : World} {oa : Option Addr} {n c : Nat} {l : List If} (h : IfsW w oa n c l) (hg : goodB l = false) : Calls Try.prog 11 #[.slice oa n c] w fun e w' => e = .returned (.tuple #[.pointer none, .int .i64 160]) ∧ Below w.heap.size w w' := by
  have HK := Lib.hid (hcheck_any h false hg)
  clear h hg
  go_enter Try.func11, Try.ntmps11
  go_wp2_with fail
  refine (HK.out).mono ?_
  rintro e W ⟨rfl, hb⟩
  have HB := Lib.hid hb
  clear hb
  rw [cond_false]
  go_wp2_with fail
  go_ret2
  exact ⟨rfl, HB.out⟩
set_option maxRecDepth 100000 in
set_option maxHeartbeats 1000000 in
/-- the reference's Same of lists that are the same -/
theorem rsameI {w : World} {oa ob : Option Addr} {n ca cb : Nat} {l : List If} (h1 : RIf.Sl w oa n ca l) (h2 : RIf.Sl w ob n cb l) : Calls Try.prog 18 #[.slice oa n ca, .slice ob n cb] w fun e w' => e = .returned (.bool true) ∧ Below w.heap.size w w' := by
  have hmax := h1.max
  have F := Lib.hid (And.intro h1 h2)
  clear h1 h2
  go_enter Try.func18, Try.ntmps18
  go_wp2_with fail
  go_loopw [5] (fun iv wr => ∃ i : Nat, i ≤ n ∧ iv = .int .i64 i ∧ Below w.heap.size w wr) (fun iv _ => n - (intOf iv).toNat)
  case atStart => exact ⟨0, Nat.zero_le _, rfl, Below.refl _ _⟩
  case round =>
    obtain ⟨i, hi, rfl, hb⟩ := hrel
    obtain ⟨w2, rfl⟩ : ∃ w2 : World, w2 = wr := ⟨_, rfl⟩
    by_cases hlt : i < n
    · have hil : ((i : Int) < (n : Int)) = True := by simp; omega
      have hi0 : ((0 : Int) ≤ (i : Int)) = True := by simp
      have hw3 := wrapS hlt hmax
      obtain ⟨b0, o0, rfl, hbb, hat⟩ := (F.out.1.keep hb).at hlt
      obtain ⟨b1, o1, rfl, hbb1, hat1⟩ := (F.out.2.keep hb).at hlt
      generalize l.getD i default = x at *
      have c0 := hat 0 (by decide)
      have c1 := hat 1 (by decide)
      have c2 := hat 2 (by decide)
      have c3 := hat 3 (by decide)
      have c4 := hat 4 (by decide)
      have d0 := hat1 0 (by decide)
      have d1 := hat1 1 (by decide)
      have d2 := hat1 2 (by decide)
      have d3 := hat1 3 (by decide)
      have d4 := hat1 4 (by decide)
      simp only [RIf, Nat.add_zero, List.getElem?_cons_zero, List.getElem?_cons_succ] at c0 c1 c2 c3 c4 d0 d1 d2 d3 d4
      have HB := Lib.hid hb.drew
      clear hb hat hat1 hbb hbb1
      go_wp2_with fail
      refine wp_region_quiet_tail (fun w' => w' = w2.drew) 8 (by kernel_rfl) (by kernel_rfl) rfl ?_
      simp only [List.take_succ_cons, List.take_zero, List.drop_succ_cons, List.drop_zero]
      iterate 8 ((with_reducible refine wpQuiet_step (fun K hK => ?_)); go_simp; first | ((with_reducible refine hK _ ?_); clear hK K) | (apply Exists.intro; (with_reducible refine ⟨fun w' hw' => ?_, hK _ ?_⟩); (subst hw'; first | (go_simp; first | exact rfl | exact ⟨rfl, rfl⟩) | exact rfl | exact ⟨rfl, rfl⟩); clear hK K))
      refine wpQuiet_nil ?_
      rintro _ rfl
      go_wp2_with fail
      exact ⟨⟨i + 1, hlt, by first | rw [hw3] | rw [Int.natCast_succ], HB.out⟩, by first | (rw [hw3]; exact mSucc hlt) | (rw [← Int.natCast_succ]; exact mSucc hlt)⟩
    · obtain rfl : n = i := by omega
      have hil : ((n : Int) < (n : Int)) = False := by simp
      have HB := Lib.hid hb
      clear hb
      go_wp2_with fail
      go_ret
      exact ⟨rfl, HB.out⟩
end Go.Proofs.Ytlkbaplfffbmkaa
/- slices.SortFunc of interfaces, by the library's contract. -/
namespace Go.Proofs.Ytlkbaplfffbmkaa
open Go.Shelf
def sortIf_ren : Go.Shelf.Ren := ⟨fun | 6 => 45 | 15 => 62 | 14 => 61 | 28 => 79 | 29 => 80 | 20 => 71 | 21 => 72 | 22 => 73 | 23 => 74 | 24 => 75 | 25 => 76 | 26 => 77 | 27 => 78 | 46 => 83 | 47 => 84 | 48 => 85 | 49 => 86 | 50 => 87 | 57 => 88 | n => n, fun | 22 => 22 | 24 => 34 | 25 => 95 | 3 => 3 | 39 => 120 | 0 => 0 | 53 => 23 | 55 => 123 | 4 => 4 | 46 => 131 | 45 => 130 | 50 => 61 | 5 => 5 | 9 => 9 | 66 => 141 | 70 => 145 | 76 => 147 | 77 => 148 | n => n, fun  | n => n⟩
theorem sortIf : SlLaysF0.n6 Try.prog sortIf_ren := {
  mixed := by kernel_rfl
  f6 := ⟨Try.f45.name, by decide, Try.func45.trans (congrArg some (by kernel_rfl))⟩
  f14 := ⟨Try.f61.name, by decide, Try.func61.trans (congrArg some (by kernel_rfl))⟩
  f15 := Try.func62.trans (congrArg some (by kernel_rfl))
  f20 := ⟨Try.f71.name, by decide, Try.func71.trans (congrArg some (by kernel_rfl))⟩
  f21 := ⟨Try.f72.name, by decide, Try.func72.trans (congrArg some (by kernel_rfl))⟩
  f22 := ⟨Try.f73.name, by decide, Try.func73.trans (congrArg some (by kernel_rfl))⟩
  f23 := ⟨Try.f74.name, by decide, Try.func74.trans (congrArg some (by kernel_rfl))⟩
  f24 := ⟨Try.f75.name, by decide, Try.func75.trans (congrArg some (by kernel_rfl))⟩
  f25 := ⟨Try.f76.name, by decide, Try.func76.trans (congrArg some (by kernel_rfl))⟩
  f26 := ⟨Try.f77.name, by decide, Try.func77.trans (congrArg some (by kernel_rfl))⟩
  f27 := ⟨Try.f78.name, by decide, Try.func78.trans (congrArg some (by kernel_rfl))⟩
  f28 := Try.func79.trans (congrArg some (by kernel_rfl))
  f29 := Try.func80.trans (congrArg some (by kernel_rfl))
  f46 := ⟨Try.f83.name, by decide, Try.func83.trans (congrArg some (by kernel_rfl))⟩
  f47 := Try.func84.trans (congrArg some (by kernel_rfl))
  f48 := Try.func85.trans (congrArg some (by kernel_rfl))
  f49 := ⟨Try.f86.name, by decide, Try.func86.trans (congrArg some (by kernel_rfl))⟩
  f50 := ⟨Try.f87.name, by decide, Try.func87.trans (congrArg some (by kernel_rfl))⟩
  f57 := ⟨Try.f88.name, by decide, Try.func88.trans (congrArg some (by kernel_rfl))⟩
  t0 := Try.underlying0
  a0 := Try.isAgg0
  z0 := Try.sizeOf0
  v0 := Try.zeroValue0
  t3 := Try.underlying3
  a3 := Try.isAgg3
  z3 := Try.sizeOf3
  v3 := Try.zeroValue3
  t4 := Try.underlying4
  a4 := Try.isAgg4
  z4 := Try.sizeOf4
  v4 := Try.zeroValue4
  t5 := Try.underlying5
  a5 := Try.isAgg5
  z5 := Try.sizeOf5
  v5 := Try.zeroValue5
  t9 := Try.underlying9
  a9 := Try.isAgg9
  z9 := Try.sizeOf9
  v9 := Try.zeroValue9
  t22 := Try.underlying22
  a22 := Try.isAgg22
  z22 := Try.sizeOf22
  v22 := Try.zeroValue22
  t25 := Try.underlying95
  a25 := Try.isAgg95
  z25 := Try.sizeOf95
  v25 := Try.zeroValue95
  t39 := Try.underlying120
  a39 := Try.isAgg120
  z39 := Try.sizeOf120
  v39 := Try.zeroValue120
  t45 := Try.underlying130
  a45 := Try.isAgg130
  z45 := Try.sizeOf130
  v45 := Try.zeroValue130
  t46 := Try.underlying131
  a46 := Try.isAgg131
  z46 := Try.sizeOf131
  v46 := Try.zeroValue131
  t50 := Try.underlying61
  a50 := Try.isAgg61
  z50 := Try.sizeOf61
  v50 := Try.zeroValue61
  t53 := Try.underlying23
  a53 := Try.isAgg23
  z53 := Try.sizeOf23
  v53 := Try.zeroValue23
  t55 := Try.underlying123
  a55 := Try.isAgg123
  z55 := Try.sizeOf123
  v55 := Try.zeroValue123
  t66 := Try.underlying141
  a66 := Try.isAgg141
  z66 := Try.sizeOf141
  v66 := Try.zeroValue141
  t70 := Try.underlying145
  a70 := Try.isAgg145
  z70 := Try.sizeOf145
  v70 := Try.zeroValue145
  t76 := Try.underlying147
  a76 := Try.isAgg147
  z76 := Try.sizeOf147
  v76 := Try.zeroValue147
  t77 := Try.underlying148
  a77 := Try.isAgg148
  z77 := Try.sizeOf148
  v77 := Try.zeroValue148 }
end Go.Proofs.Ytlkbaplfffbmkaa
/- slices.SortFunc of an owned slice of structs. -/
namespace Go.Proofs.Ytlkbaplfffbmkaa
open Go.Shelf Go.RowKit Go.Lib Go.Sort
namespace Rep
variable {α : Type} [Inhabited α] {R : Rep α}
/-- no later one is less than an earlier one -/
def SortedBy (cf : α → α → Int) (M : List α) : Prop := ∀ i j, i < j → j < M.length → 0 ≤ cf (M.getD j default) (M.getD i default)
theorem getB (M : List α) (i : Nat) : M.toArray[i]! = M.getD i default := by
  rw [getElem!_def]
  simp [List.getD_eq_getElem?_getD]
  cases M[i]? <;> rfl
theorem flatK_list (M : List α) : (flatK R.cells R.k M.toArray).toList = R.flat M := by
  have hp := R.pos
  apply List.ext_getElem?
  intro t
  by_cases ht : t < M.length * R.k
  · have hi : t / R.k < M.length := Nat.div_lt_of_lt_mul (by rw [Nat.mul_comm]; exact ht)
    have hj : t % R.k < R.k := Nat.mod_lt _ hp
    have he : t / R.k * R.k + t % R.k = t := by rw [Nat.mul_comm]; exact Nat.div_add_mod t R.k
    have h1 := get_flatK R.cells R.k M.toArray t (by simpa using ht)
    rw [show M.toArray[t / R.k]! = M.getD (t / R.k) default from getB M _] at h1
    have h2 := R.flat_get M (t / R.k) (t % R.k) hi hj
    rw [he] at h2
    rw [h2, Array.getElem?_toList]
    have hs : t < (flatK R.cells R.k M.toArray).size := by simpa using ht
    rw [getElem!_pos _ t hs] at h1
    rw [Array.getElem?_eq_getElem hs, h1]
    have hl : t % R.k < (R.cells (M.getD (t / R.k) default)).length := by rw [R.len]; exact hj
    rw [List.getElem?_eq_getElem hl, getElem!_pos (R.cells (M.getD (t / R.k) default)) (t % R.k) hl]
  · rw [List.getElem?_eq_none (by simp; omega), List.getElem?_eq_none (by rw [R.flat_length]; omega)]
theorem holds_own {w : World} {base g cap : Nat} {L : List α} (h : R.Own w base (.slice (some ⟨g, 0, none⟩) L.length cap) L) : HoldsK R.cells R.k w g 0 L.toArray := by
  intro j hj
  rcases h.2 with ⟨h2, _⟩ | ⟨g', cap', cur, hv, hg, hh, h3, h4, h5, h6⟩
  · cases h2
  · simp only [Value.slice.injEq, Option.some.injEq, Addr.mk.injEq, and_true, true_and] at hv
    obtain ⟨rfl, rfl⟩ := hv
    have hj' : j < L.length * R.k := by simpa using hj
    refine ⟨?_, free_of hh⟩
    rw [Nat.zero_add, getElem!_pos _ j hj]
    refine cell_of hh ?_
    have h7 : (flatK R.cells R.k L.toArray).toList[j]? = some (flatK R.cells R.k L.toArray)[j] := by rw [Array.getElem?_toList]; exact Array.getElem?_eq_getElem hj
    rw [flatK_list, ← h6, List.getElem?_take, if_pos hj', Array.getElem?_toList] at h7
    exact h7
theorem own_sorted {w : World} {base g cap n : Nat} {L M : List α} {os : Array Obj} (h : R.Own w base (.slice (some ⟨g, 0, none⟩) L.length cap) L) (hl : M.length = L.length) :
    R.Own (sortWorldK R.cells R.k w g 0 n M.toArray os) base (.slice (some ⟨g, 0, none⟩) L.length cap) M ∧ But w (sortWorldK R.cells R.k w g 0 n M.toArray os) [g] ∧ base ≤ g := by
  rcases h.2 with ⟨h2, _⟩ | ⟨g', cap', cur, hv, hg, hh, h3, h4, h5, h6⟩
  · cases h2
  · simp only [Value.slice.injEq, Option.some.injEq, Addr.mk.injEq, and_true, true_and] at hv
    obtain ⟨rfl, rfl⟩ := hv
    have hlt := lt_of_blk hh
    have hsz : ((putRowK R.cells R.k (Sort.ahead w n) g 0 M.toArray)).heap.size = w.heap.size := by unfold putRowK; rw [size_putRow]; rfl
    have hblk : ∀ k, k < w.heap.size → (sortWorldK R.cells R.k w g 0 n M.toArray os).heap[k]? = (putRowK R.cells R.k (Sort.ahead w n) g 0 M.toArray).heap[k]? := fun k hk => by
      show ((putRowK R.cells R.k (Sort.ahead w n) g 0 M.toArray).heap ++ os)[k]? = _
      rw [Array.getElem?_append_left (by omega)]
    have hput : ∀ k, (putRowK R.cells R.k (Sort.ahead w n) g 0 M.toArray).heap[k]? = if g = k then (w.heap[k]?).map (onCells (putCells id 0 (flatK R.cells R.k M.toArray))) else w.heap[k]? := fun k => by
      show (w.heap.modify g (onCells (putCells id 0 (flatK R.cells R.k M.toArray))))[k]? = _
      rw [Array.getElem?_modify]
    refine ⟨⟨by rw [R.flat_length, hl], .inr ⟨g, cap, putCells id 0 (flatK R.cells R.k M.toArray) cur, by rw [hl], hg, ?_, by rw [hl]; exact h3, h4, by simpa [putCells] using h5, ?_⟩⟩, ⟨rfl, rfl, rfl, ?_, fun k hk hn => ?_⟩, hg⟩
    · rw [hblk g hlt, hput, if_pos rfl, hh]
      rfl
    · rw [← flatK_list, hl]
      apply List.ext_getElem?
      intro q
      rw [List.getElem?_take]
      by_cases hq : q < L.length * R.k
      · rw [if_pos hq, Array.getElem?_toList, Array.getElem?_toList]
        have hq2 : q < (flatK R.cells R.k M.toArray).size := by simp [hl]; exact hq
        have hq3 : q < cur.size := by
          rw [h5]
          exact Nat.lt_of_lt_of_le hq (Nat.mul_le_mul_right _ h3)
        simp only [putCells, Array.getElem?_mapIdx, Array.getElem?_eq_getElem hq3, Option.map_some]
        rw [if_pos ⟨Nat.zero_le _, by omega⟩, Array.getElem?_eq_getElem hq2, getElem!_pos _ _ (by simpa using hq2)]
        simp
      · rw [if_neg hq, Array.getElem?_toList, Array.getElem?_eq_none (by simp [hl]; omega)]
    · show w.heap.size ≤ ((putRowK R.cells R.k (Sort.ahead w n) g 0 M.toArray).heap ++ os).size
      rw [Array.size_append, hsz]; omega
    · rw [hblk k hk, hput, if_neg (by simp at hn; omega)]
theorem sort_own {P : Program} {ρ : Ren} (SL : SlLaysF0.n6 P ρ) (aE : ∀ w, (isAgg (ρ.t 24)).run P w = .ok true w) (zE : ∀ w, (Go.sizeOf (ρ.t 24)).run P w = .ok R.k w) (cf : α → α → Int) (hO : SWO (ltOf cf)) (f : Nat) (cb : Array Value)
    (eg : ∀ args w, (callFunc f args).run P w = .ok (.enter f args) w) {w : World} {base : Nat} {v : Value} {L : List α} (hown : R.Own w base v L) (hcmp : ∀ g, CmpLays P f cb R.cells R.k cf g 0 L.length w) (hsz : L.length < 4611686018427387904) (hbase : base ≤ w.heap.size) :
    Calls P (ρ.f 6) #[v, .func (.func f) #[] cb] w fun e w' => e = .returned (.tuple #[]) ∧ ∃ M, M.Perm L ∧ SortedBy cf M ∧ R.Own w' base v M ∧ Below base w w' := by
  rcases hown.cases with ⟨rfl, rfl⟩ | ⟨g, cap, rfl, hg, hl, -⟩
  · exact (AnyF.slices_SortFunc_none SL none 0 (.func (.func f) #[] cb) w).mono fun e w' ⟨h1, h2⟩ => ⟨h1, [], List.Perm.refl _, fun i j _ hj => absurd hj (by simp), h2 ▸ hown, h2 ▸ Below.refl _ _⟩
  · have h := AnyQ.slices_SortFunc SL R.k aE zE R.cells R.len (fun x u hu => List.all_eq_true.1 (R.one x) u hu) cf hO f cb g 0 cap L.toArray w eg (by simpa using hcmp g) (holds_own hown) hl (by simpa using hsz)
    rw [List.size_toArray] at h
    refine h.mono fun e w' ⟨h1, d', n, os, hp, hs, hw⟩ => ⟨h1, d'.toList, ?_, ?_, ?_⟩
    · have := hp.2.2
      have h0 : d'.size = L.length := by simpa using hp.1
      simp only [Array.toList_extract, List.extract_eq_take_drop, Nat.sub_zero, List.drop_zero] at this
      rwa [List.take_of_length_le (by simp [h0]), List.take_of_length_le (by simp)] at this
    · intro i j hij hj
      have h0 : d'.size = L.length := by simpa using hp.1
      have := hs i j (Nat.zero_le _) hij (by simpa [h0] using hj)
      unfold ltOf at this
      have e1 := getB d'.toList i
      have e2 := getB d'.toList j
      rw [← e1, ← e2]
      simp only [Array.toArray_toList]
      simpa using this
    · have h0 : d'.toList.length = L.length := by simpa using hp.1
      have := own_sorted (n := n) (os := os) hown h0
      simp only [Array.toArray_toList] at this
      rw [← hw] at this
      exact ⟨this.1, this.2.1.below hbase (by simpa using this.2.2)⟩
end Rep
end Go.Proofs.Ytlkbaplfffbmkaa
/- A range over a map that does not turn: which entries have come, in whatever order. -/
namespace Go.Proofs.Ytlkbaplfffbmkaa.MR
open Go.Maps Go.MapKept
open Go.ChangeMaps (setBlock)

section
variable {P : Program} {K : TypeId} {κ : Type} (N : Enc P K κ)
/-- these have come, in this order -/
structure Ran (l : List (Ent κ)) (seen : Array Nat) (done : List (Ent κ)) : Prop where
  seen : seen.toList = done.map (·.2.2)
  sub : ∀ e ∈ done, e ∈ l
  nodup : (done.map (·.2.2)).Nodup
theorem Ran.none (l : List (Ent κ)) : Ran l #[] [] := ⟨rfl, fun e he => (by cases he), by simp⟩
theorem Ran.more {l : List (Ent κ)} {seen : Array Nat} {done : List (Ent κ)} (h : Ran l seen done) {e : Ent κ} (he : e ∈ l) (hn : e.2.2 ∉ seen) : Ran l (seen.push e.2.2) (done ++ [e]) := by
  refine ⟨by simp [h.seen], fun x hx => ?_, ?_⟩
  · rcases List.mem_append.1 hx with hx | hx
    · exact h.sub x hx
    · simp at hx; subst hx; exact he
  · rw [List.map_append, List.nodup_append]
    refine ⟨h.nodup, by simp, fun a ha b hb => ?_⟩
    simp at hb
    subst hb
    rintro rfl
    rw [← h.seen] at ha
    exact hn (by simpa using ha)
theorem inj_of_nodup {α β : Type} {f : α → β} {l : List α} (h : (l.map f).Nodup) {a b : α} (ha : a ∈ l) (hb : b ∈ l) (e : f a = f b) : a = b := by
  induction l with
  | nil => cases ha
  | cons x r ih =>
    simp only [List.map_cons, List.nodup_cons] at h
    rcases List.mem_cons.1 ha with rfl | ha'
    · rcases List.mem_cons.1 hb with rfl | hb'
      · rfl
      · exact absurd (List.mem_map.2 ⟨b, hb', e.symm⟩) h.1
    · rcases List.mem_cons.1 hb with rfl | hb'
      · exact absurd (List.mem_map.2 ⟨a, ha', e⟩) h.1
      · exact ih h.2 ha' hb'
theorem nodup_of_map {α β : Type} {f : α → β} {l : List α} (h : (l.map f).Nodup) : l.Nodup := by
  induction l with
  | nil => exact List.nodup_nil
  | cons x r ih =>
    simp only [List.map_cons, List.nodup_cons] at h
    exact List.nodup_cons.2 ⟨fun hx => h.1 (List.mem_map.2 ⟨x, hx, rfl⟩), ih h.2⟩
theorem Ran.all {l : List (Ent κ)} {seen : Array Nat} {done : List (Ent κ)} (h : Ran l seen done) (hb : (l.map (·.2.2)).Nodup) (ha : ∀ e ∈ l, e.2.2 ∈ seen) : done.Perm l := by
  rw [List.perm_ext_iff_of_nodup (nodup_of_map h.nodup) (nodup_of_map hb)]
  intro e
  refine ⟨h.sub e, fun he => ?_⟩
  have h1 := ha e he
  rw [← Array.mem_toList_iff, h.seen] at h1
  obtain ⟨x, hx, hxe⟩ := List.mem_map.1 h1
  rw [← inj_of_nodup hb (h.sub x hx) he hxe]
  exact hx
theorem run_range {w : World} {b clock : Nat} {l : List (Ent κ)} (h : MapAt N w b l clock) {T E : TypeId} (ht : P.underlying T = some (.map K E)) : (Instr.range T (.map (some b))).run P w = .ok (.pointer (some ⟨w.heap.size, 0, none⟩)) (w.alloc (.mapIter (some b) clock #[] clock)) :=
  run_range_map w T K E b _ clock ht h.blk
theorem next_step {w : World} {b clock r : Nat} {l : List (Ent κ)} {seen : Array Nat} (h : MapAt N w b l clock) (hr : w.heap[r]? = some (.mapIter (some b) clock seen clock)) (ty : TypeId) :
    ((∀ e ∈ l, e.2.2 ∈ seen) ∧ (Instr.next (.pointer (some ⟨r, 0, none⟩)) false ty).run P w = .ok (.tuple #[.bool false]) w) ∨
    ∃ e ∈ l, e.2.2 ∉ seen ∧ ∃ w1, (Instr.next (.pointer (some ⟨r, 0, none⟩)) false ty).run P w = .ok (.tuple #[.bool true, N.enc e.1, e.2.1]) w1 ∧ SetB w w1 r (.mapIter (some b) clock (seen.push e.2.2) clock) := by
  have hold : ∀ x ∈ (ents N.enc l).toArray.toList, x.born < clock := by
    intro x hx
    obtain ⟨e, he, rfl⟩ := List.mem_map.1 (by simpa using hx : x ∈ ents N.enc l)
    exact h.born e he
  rcases run_next_at (P := P) w ty r b clock clock seen _ clock hr h.blk hold (Nat.le_refl _) with ⟨h1, h2⟩ | ⟨x, hx, w1, hw, h2⟩
  · left
    refine ⟨fun e he => ?_, h2⟩
    have : leftOf (ents N.enc l).toArray seen = #[] := Array.eq_empty_of_size_eq_zero h1
    unfold leftOf at this
    rw [Array.filter_eq_empty_iff] at this
    have h3 := this ⟨N.enc e.1, e.2.1, e.2.2⟩ (by simp [ents]; exact ⟨_, _, _, he, rfl, rfl, rfl⟩)
    simpa using h3
  · right
    unfold leftOf at hx
    simp only [Array.toList_filter, List.mem_filter, Bool.not_eq_true'] at hx
    obtain ⟨hm, hs⟩ := hx
    obtain ⟨e, he, rfl⟩ := List.mem_map.1 (by simpa using hm : x ∈ ents N.enc l)
    refine ⟨e, he, by simpa using hs, _, h2, ?_⟩
    rcases hw with rfl | rfl <;> exact ⟨rfl, rfl, rfl, rfl⟩
theorem run_entry {w : World} {b clock r : Nat} {l : List (Ent κ)} {seen : Array Nat} (h : MapAt N w b l clock) {e : Ent κ} (he : e ∈ l) (hr : w.heap[r]? = some (.mapIter (some b) clock (seen.push e.2.2) clock)) : (Instr.entry (.pointer (some ⟨r, 0, none⟩))).run P w = .ok (.tuple #[N.enc e.1, e.2.1]) w := by
  refine run_entry_at (P := P) w r b clock seen _ clock ⟨N.enc e.1, e.2.1, e.2.2⟩ hr h.blk (by simp [ents]; exact ⟨_, _, _, he, rfl, rfl, rfl⟩) ?_
  have : ((ents N.enc l).toArray.toList.map (·.born)) = l.map (·.2.2) := by simp [ents]
  rw [this]
  exact h.bnodup
end
end Go.Proofs.Ytlkbaplfffbmkaa.MR
