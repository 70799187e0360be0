/- least by number 34. -/
import Derived.Test.YtgainkgbodmciaaXad
namespace Go.Proofs.Ytgainkgbodmciaa
open Go.RowKit

structure LSt34 (w wx : World) (bb : Nat) (v : Int) : Prop where
  but : But w wx []
  fb : wx.heap[w.heap.size]? = some (.cells #[.func (.func 75) #[] #[]] 120 (0, 0))
  ib : wx.heap[bb]? = some (.cells #[.int .i64 v] 3 (0, 0))
  ge : w.heap.size < bb

set_option maxHeartbeats 2000000 in
theorem least34 (b cap : Nat) (L : List Cd) (cur : Array Value) (w : World) (B : Nat) (hB : B ≤ b) (hBw : B ≤ w.heap.size) (hne : L ≠ []) (hr : RowC w b cap L cur) (hok : AllOk w B L) :
    Calls Try.prog 46 #[.slice (some ⟨b, 0, none⟩) L.length cap, .func (.func 75) #[] #[]] w fun e w' => e = .returned (.slice (some ⟨b, 0, none⟩) (leastOf' f34 L).length cap) ∧ (∃ cur', RowC w' b cap (leastOf' f34 L) cur') ∧ But w w' [b] := by
  obtain ⟨n, hn⟩ : ∃ n, n = L.length := ⟨_, rfl⟩
  rw [← hn]
  have hn0 : 0 < n := by rw [hn]; exact List.length_pos_iff.2 hne
  have hm : n ≤ 9223372036854775807 := by have h1 := hr.le; have h2 := hr.max; unfold maxLen at h2; omega
  have hcap : cap ≤ 9223372036854775807 := by have h2 := hr.max; unfold maxLen at h2; omega
  have hncap : n ≤ cap := by have h1 := hr.le; omega
  have lb := lt_of_blk hr.blk
  obtain ⟨c0, c1, c2, c3, c4, c5, c6, c7, c8, c9, c10⟩ := hr.at (i := 0) (by omega)
  have hmem : L.getD 0 default ∈ L := by rw [List.getD_eq_getElem?_getD, List.getElem?_eq_getElem (by omega : 0 < L.length)]; exact List.getElem_mem _
  have hc := fun (w' : World) (h : Below w.heap.size w w') => of34 (L.getD 0 default).1 (L.getD 0 default).2 w' B (Nat.le_trans hBw h.size) ((hok _ hmem).1.below (h.mono hBw)) (hok _ hmem).2
  have HD := Lib.hid (And.intro hr (And.intro hok hn))
  have hz : ((n : Int) == 0) = false := by simp; omega
  have hz2 : (0 : Int) < (n : Int) := by omega
  generalize hq : L.getD 0 default = q at *
  obtain ⟨x, m⟩ := q
  simp only [Nat.zero_mul, Nat.zero_add] at c0 c1 c2 c3 c4 c5 c6 c7 c8 c9 c10 hc
  unfold Rt.cand at hc
  have HQ := Lib.hid hq
  have HC := Lib.hid hc
  clear hr hok hn hne hq hc hmem
  have hneb : w.heap.size + 1 ≠ b := by omega
  have hneb' : b ≠ w.heap.size + 1 := by omega
  have hneb2 : w.heap.size ≠ b := by omega
  go_enter Try.func46, Try.ntmps46
  go_wp2_with fail
  go_region_held3 (fun w' => w'.cell? ⟨w.heap.size, 0, none⟩ = some (.func (.func 75) #[] #[]) ∧ w'.cell? ⟨b, 0, none⟩ = some (.int .i64 x.r) ∧ w'.cell? ⟨b, 1, none⟩ = some (.int .u32 x.a) ∧ w'.cell? ⟨b, 2, none⟩ = some (.int .i64 x.l) ∧ w'.cell? ⟨b, 3, none⟩ = some (.int .i64 x.i) ∧ w'.cell? ⟨b, 4, none⟩ = some (.int .i64 x.o) ∧ w'.cell? ⟨b, 5, none⟩ = some (.slice x.pa x.pn x.pc) ∧ w'.cell? ⟨b, 6, none⟩ = some (.int .u32 x.nx) ∧ w'.cell? ⟨b, 7, none⟩ = some (.int .i64 x.md) ∧ w'.cell? ⟨b, 8, none⟩ = some (.int .i64 x.pf) ∧ w'.cell? ⟨b, 9, none⟩ = some (.slice x.ca x.cn x.cc) ∧ w'.cell? ⟨b, 10, none⟩ = some (.int .i64 m)) (first | go_keep | ((repeat' apply And.intro) <;> (refine (hb.cell ?_).trans ?_ <;> first | (with_reducible assumption) | (simp; omega) | (simp; done) | (simp [*]; done))) | (go_split_ands; (repeat' apply And.intro) <;> first | (with_reducible assumption) | (refine cell_hold ?_ _; with_reducible assumption) | (refine cell_realloc (by with_reducible assumption) ?_; have := hb.size; simp at this; dsimp only; omega) | (refine cell_far ?_ ?_ <;> first | (with_reducible assumption) | (simp; omega) | (simp; done))) | (go_split_ands; simp; (repeat' apply And.intro) <;> first | (with_reducible assumption) | (refine cell_far ?_ ?_ <;> first | (with_reducible assumption) | (simp; omega) | (simp; done)))) ((first | (go_at_call 75; refine (HC.out _ ?_).mono ?_; (repeat (first | exact Below.refl _ _ | refine Below.drew ?_ | refine Below.alloc ?_ (by simp) _)); rintro e w1 ⟨rfl, hb⟩; have hbb := fun o => hb.cell (p := ⟨w.heap.size + 1, o, none⟩); have hbf := fun o => hb.frozen (p := ⟨w.heap.size + 1, o, none⟩); simp only [World.size_alloc, World.size_drew] at hbb hbf)))
  all_goals
    clear c0 c1 c2 c3 c4 c5 c6 c7 c8 c9 c10
  · have F : LSt34 w (w1.alloc (.cells #[.int .i64 (f34 x)] 3)) w1.heap.size (f34 x) :=
      ⟨((((But.refl w []).alloc _).drew).trans (But.of_below hb [])).alloc _, hold ((hb.block _ (by simp)).trans (hnew _ _)), hnew _ _, by have := hb.size; simp at this; omega⟩
    have HF := Lib.hid F
    clear F hb hbb hbf hneb hneb' hneb2
    generalize w1.alloc (.cells #[.int .i64 (f34 x)] 3) = wx at *
    generalize w1.heap.size = bb at *
    go_split_ands
    by_cases hc1 : cap = 1
    · subst hc1
      obtain ⟨hr, hok, hn⟩ := HD.out
      have hn1 : n = 1 := by omega
      subst hn1
      have hF := HF.out
      have e1 : minOf f34 L = f34 x := by
        cases hL : L with
        | nil => rw [hL] at hn; simp at hn
        | cons c r =>
          have := HQ.out
          rw [hL] at this hn
          simp at this hn
          rw [hn]
          simp [minOf, this]
      have hrw := hr.keep (hF.but.block b lb (by simp))
      have hdel := deletea w.heap.size bb (fun c => f34 c.1 != minOf f34 L) b 1 L cur wx hrw (by
        intro w' hw' c hc
        have hb1 : Below B w w' := (hF.but.below hBw (by simp)).trans (hw'.below (Nat.le_trans hBw hF.but.size) (by simpa using hB))
        have hib := hF.ib
        rw [← e1] at hib
        exact neq34 c.1 c.2 _ w.heap.size bb w' B (Nat.le_trans hBw (Nat.le_trans hF.but.size hw'.size)) ((hok c hc).1.below hb1) (hok c hc).2 ((hw'.block _ (lt_of_blk hF.fb) (by simp; omega)).trans hF.fb) ((hw'.block _ (lt_of_blk hib) (by simp; have := hF.ge; omega)).trans hib))
      rw [← hn] at hdel
      have HDL := Lib.hid hdel
      have HFB := Lib.hid (And.intro hF.but hn)
      clear hdel hF hr hok hn hrw e1
      go_wp2_with fail
      refine wp_loop_rounds 1 ?_
      rw [rounds_succ]
      go_wp2_with fail
      refine (HDL.out).mono ?_
      rintro e w2 ⟨rfl, hrow, hbut⟩
      go_wp2_with fail
      go_ret
      obtain ⟨hb1, hn⟩ := HFB.out
      exact ⟨rfl, hrow, (hb1.mono (by simp)).trans hbut⟩
    · have hc1' : ¬ (cap = 1) := hc1
      have hcap1 : 1 ≤ cap := by omega
      go_wp2_with fail
      go_loopw [19] (fun i wr => ∃ k : Nat, k ≤ n - 1 ∧ i = .int .i64 k ∧ LSt34 w wr bb (minOf f34 (L.take (k + 1)))) (fun i _ => (n - 1) - (intOf i).toNat)
      case atStart =>
        refine ⟨0, Nat.zero_le _, rfl, ?_⟩
        have e1 : minOf f34 (L.take (0 + 1)) = f34 x := by
          have hn := HD.out.2.2
          cases hL : L with
          | nil => rw [hL] at hn; simp at hn; omega
          | cons c r =>
            have := HQ.out
            rw [hL] at this
            simp at this
            simp [minOf, this]
        rw [e1]; exact HF.out
      case round =>
        obtain ⟨k, hk, rfl, hF⟩ := hrel
        obtain ⟨hr, hok, hn⟩ := HD.out
        by_cases hlt : k < n - 1
        · have hrw := hr.keep (hF.but.block b lb (by simp))
          obtain ⟨c0, c1, c2, c3, c4, c5, c6, c7, c8, c9, c10⟩ := hrw.at (i := k + 1) (by omega)
          rw [show (k + 1) * 11 = 11 + k * 11 by omega] at c0 c1 c2 c3 c4 c5 c6 c7 c8 c9 c10
          have hmem : L.getD (k + 1) default ∈ L := by rw [List.getD_eq_getElem?_getD, List.getElem?_eq_getElem (by omega : k + 1 < L.length)]; exact List.getElem_mem _
          have hc := fun (w' : World) (h : But w w' []) => of34 (L.getD (k + 1) default).1 (L.getD (k + 1) default).2 w' B (Nat.le_trans hBw h.size) ((hok _ hmem).1.below (h.below hBw (by simp))) (hok _ hmem).2
          have hmt := minOf_take f34 L k (by omega)
          have lbr := lt_of_blk hrw.blk
          have lbb := lt_of_blk hF.ib
          have lws := hF.ge
          have hbst : wr.cell? ⟨bb, 0, none⟩ = some (.int .i64 (minOf f34 (L.take (k + 1)))) := cell_of hF.ib rfl
          have hfr : wr.frozen? ⟨bb, 0, none⟩ = false := free_of hF.ib
          have hfn : wr.cell? ⟨w.heap.size, 0, none⟩ = some (.func (.func 75) #[] #[]) := cell_of hF.fb rfl
          generalize hq : L.getD (k + 1) default = q at *
          obtain ⟨y, my⟩ := q
          dsimp only at c0 c1 c2 c3 c4 c5 c6 c7 c8 c9 c10 hc hmt
          unfold Rt.cand at hc
          generalize minOf f34 (L.take (k + 1)) = mv at *
          have HC2 := Lib.hid hc
          have HM := Lib.hid (And.intro hmt (And.intro hF hn))
          have n1 : bb ≠ wr.heap.size := by omega
          have n2 : wr.heap.size ≠ bb := by omega
          have n3 : w.heap.size ≠ bb := by omega
          have n4 : bb ≠ w.heap.size := by omega
          have n5 : w.heap.size ≠ wr.heap.size := by omega
          have n6 : wr.heap.size ≠ w.heap.size := by omega
          clear hq hr hok hmem hc hmt hF hn hrw
          by_cases ht : f34 y < mv
          all_goals
            have HT := Lib.hid ht
            go_wp2_with fail
            have hCC : ∀ w', Below (wr.heap.size + 1) (wr.alloc (.cells #[.int .i64 y.r,.int .u32 y.a,.int .i64 y.l,.int .i64 y.i,.int .i64 y.o,.slice y.pa y.pn y.pc,.int .u32 y.nx,.int .i64 y.md,.int .i64 y.pf,.slice y.ca y.cn y.cc,.int .i64 my] 119)) w' → w'.cell? ⟨bb, 0, none⟩ = some (.int .i64 mv) := fun w' h => (h.cell (p := ⟨bb, 0, none⟩) (by dsimp only; omega)).trans (cell_hold hbst _)
            have hCF : ∀ w', Below (wr.heap.size + 1) (wr.alloc (.cells #[.int .i64 y.r,.int .u32 y.a,.int .i64 y.l,.int .i64 y.i,.int .i64 y.o,.slice y.pa y.pn y.pc,.int .u32 y.nx,.int .i64 y.md,.int .i64 y.pf,.slice y.ca y.cn y.cc,.int .i64 my] 119)) w' → w'.frozen? ⟨bb, 0, none⟩ = false := fun w' h => free_of ((h.block bb (by omega)).trans (hold HM.out.2.1.ib))
            have hCD : ∀ w', Below (wr.heap.size + 1) (wr.alloc (.cells #[.int .i64 y.r,.int .u32 y.a,.int .i64 y.l,.int .i64 y.i,.int .i64 y.o,.slice y.pa y.pn y.pc,.int .u32 y.nx,.int .i64 y.md,.int .i64 y.pf,.slice y.ca y.cn y.cc,.int .i64 my] 119)) w' → w'.cell? ⟨w.heap.size, 0, none⟩ = some (.func (.func 75) #[] #[]) := fun w' h => (h.cell (p := ⟨w.heap.size, 0, none⟩) (by dsimp only; omega)).trans (cell_hold hfn _)
            have hCE0 : ∀ w', Below (wr.heap.size + 1) (wr.alloc (.cells #[.int .i64 y.r,.int .u32 y.a,.int .i64 y.l,.int .i64 y.i,.int .i64 y.o,.slice y.pa y.pn y.pc,.int .u32 y.nx,.int .i64 y.md,.int .i64 y.pf,.slice y.ca y.cn y.cc,.int .i64 my] 119)) w' → w'.cell? ⟨wr.heap.size, 0, none⟩ = some (.int .i64 y.r) := fun w' h => (h.cell (p := ⟨wr.heap.size, 0, none⟩) (by dsimp only; omega)).trans (cell_of (hnew _ _) rfl)
            have hCE1 : ∀ w', Below (wr.heap.size + 1) (wr.alloc (.cells #[.int .i64 y.r,.int .u32 y.a,.int .i64 y.l,.int .i64 y.i,.int .i64 y.o,.slice y.pa y.pn y.pc,.int .u32 y.nx,.int .i64 y.md,.int .i64 y.pf,.slice y.ca y.cn y.cc,.int .i64 my] 119)) w' → w'.cell? ⟨wr.heap.size, 1, none⟩ = some (.int .u32 y.a) := fun w' h => (h.cell (p := ⟨wr.heap.size, 1, none⟩) (by dsimp only; omega)).trans (cell_of (hnew _ _) rfl)
            have hCE2 : ∀ w', Below (wr.heap.size + 1) (wr.alloc (.cells #[.int .i64 y.r,.int .u32 y.a,.int .i64 y.l,.int .i64 y.i,.int .i64 y.o,.slice y.pa y.pn y.pc,.int .u32 y.nx,.int .i64 y.md,.int .i64 y.pf,.slice y.ca y.cn y.cc,.int .i64 my] 119)) w' → w'.cell? ⟨wr.heap.size, 2, none⟩ = some (.int .i64 y.l) := fun w' h => (h.cell (p := ⟨wr.heap.size, 2, none⟩) (by dsimp only; omega)).trans (cell_of (hnew _ _) rfl)
            have hCE3 : ∀ w', Below (wr.heap.size + 1) (wr.alloc (.cells #[.int .i64 y.r,.int .u32 y.a,.int .i64 y.l,.int .i64 y.i,.int .i64 y.o,.slice y.pa y.pn y.pc,.int .u32 y.nx,.int .i64 y.md,.int .i64 y.pf,.slice y.ca y.cn y.cc,.int .i64 my] 119)) w' → w'.cell? ⟨wr.heap.size, 3, none⟩ = some (.int .i64 y.i) := fun w' h => (h.cell (p := ⟨wr.heap.size, 3, none⟩) (by dsimp only; omega)).trans (cell_of (hnew _ _) rfl)
            have hCE4 : ∀ w', Below (wr.heap.size + 1) (wr.alloc (.cells #[.int .i64 y.r,.int .u32 y.a,.int .i64 y.l,.int .i64 y.i,.int .i64 y.o,.slice y.pa y.pn y.pc,.int .u32 y.nx,.int .i64 y.md,.int .i64 y.pf,.slice y.ca y.cn y.cc,.int .i64 my] 119)) w' → w'.cell? ⟨wr.heap.size, 4, none⟩ = some (.int .i64 y.o) := fun w' h => (h.cell (p := ⟨wr.heap.size, 4, none⟩) (by dsimp only; omega)).trans (cell_of (hnew _ _) rfl)
            have hCE5 : ∀ w', Below (wr.heap.size + 1) (wr.alloc (.cells #[.int .i64 y.r,.int .u32 y.a,.int .i64 y.l,.int .i64 y.i,.int .i64 y.o,.slice y.pa y.pn y.pc,.int .u32 y.nx,.int .i64 y.md,.int .i64 y.pf,.slice y.ca y.cn y.cc,.int .i64 my] 119)) w' → w'.cell? ⟨wr.heap.size, 5, none⟩ = some (.slice y.pa y.pn y.pc) := fun w' h => (h.cell (p := ⟨wr.heap.size, 5, none⟩) (by dsimp only; omega)).trans (cell_of (hnew _ _) rfl)
            have hCE6 : ∀ w', Below (wr.heap.size + 1) (wr.alloc (.cells #[.int .i64 y.r,.int .u32 y.a,.int .i64 y.l,.int .i64 y.i,.int .i64 y.o,.slice y.pa y.pn y.pc,.int .u32 y.nx,.int .i64 y.md,.int .i64 y.pf,.slice y.ca y.cn y.cc,.int .i64 my] 119)) w' → w'.cell? ⟨wr.heap.size, 6, none⟩ = some (.int .u32 y.nx) := fun w' h => (h.cell (p := ⟨wr.heap.size, 6, none⟩) (by dsimp only; omega)).trans (cell_of (hnew _ _) rfl)
            have hCE7 : ∀ w', Below (wr.heap.size + 1) (wr.alloc (.cells #[.int .i64 y.r,.int .u32 y.a,.int .i64 y.l,.int .i64 y.i,.int .i64 y.o,.slice y.pa y.pn y.pc,.int .u32 y.nx,.int .i64 y.md,.int .i64 y.pf,.slice y.ca y.cn y.cc,.int .i64 my] 119)) w' → w'.cell? ⟨wr.heap.size, 7, none⟩ = some (.int .i64 y.md) := fun w' h => (h.cell (p := ⟨wr.heap.size, 7, none⟩) (by dsimp only; omega)).trans (cell_of (hnew _ _) rfl)
            have hCE8 : ∀ w', Below (wr.heap.size + 1) (wr.alloc (.cells #[.int .i64 y.r,.int .u32 y.a,.int .i64 y.l,.int .i64 y.i,.int .i64 y.o,.slice y.pa y.pn y.pc,.int .u32 y.nx,.int .i64 y.md,.int .i64 y.pf,.slice y.ca y.cn y.cc,.int .i64 my] 119)) w' → w'.cell? ⟨wr.heap.size, 8, none⟩ = some (.int .i64 y.pf) := fun w' h => (h.cell (p := ⟨wr.heap.size, 8, none⟩) (by dsimp only; omega)).trans (cell_of (hnew _ _) rfl)
            have hCE9 : ∀ w', Below (wr.heap.size + 1) (wr.alloc (.cells #[.int .i64 y.r,.int .u32 y.a,.int .i64 y.l,.int .i64 y.i,.int .i64 y.o,.slice y.pa y.pn y.pc,.int .u32 y.nx,.int .i64 y.md,.int .i64 y.pf,.slice y.ca y.cn y.cc,.int .i64 my] 119)) w' → w'.cell? ⟨wr.heap.size, 9, none⟩ = some (.slice y.ca y.cn y.cc) := fun w' h => (h.cell (p := ⟨wr.heap.size, 9, none⟩) (by dsimp only; omega)).trans (cell_of (hnew _ _) rfl)
            have hCE10 : ∀ w', Below (wr.heap.size + 1) (wr.alloc (.cells #[.int .i64 y.r,.int .u32 y.a,.int .i64 y.l,.int .i64 y.i,.int .i64 y.o,.slice y.pa y.pn y.pc,.int .u32 y.nx,.int .i64 y.md,.int .i64 y.pf,.slice y.ca y.cn y.cc,.int .i64 my] 119)) w' → w'.cell? ⟨wr.heap.size, 10, none⟩ = some (.int .i64 my) := fun w' h => (h.cell (p := ⟨wr.heap.size, 10, none⟩) (by dsimp only; omega)).trans (cell_of (hnew _ _) rfl)
            refine wp_region_quiet_tail (fun w' => Below (wr.heap.size + 1) (wr.alloc (.cells #[.int .i64 y.r,.int .u32 y.a,.int .i64 y.l,.int .i64 y.i,.int .i64 y.o,.slice y.pa y.pn y.pc,.int .u32 y.nx,.int .i64 y.md,.int .i64 y.pf,.slice y.ca y.cn y.cc,.int .i64 my] 119)) w') 4 (by kernel_rfl) (by kernel_rfl) (Below.refl _ _).drew ?_
            simp only [List.take_succ_cons, List.take_zero, List.drop_succ_cons, List.drop_zero]
            iterate 4 (refine wpQuiet_step (fun K hK => ?_); go_simp; first | (refine hK _ ?_; clear hK K) | (apply Exists.intro; refine ⟨fun w' hw' => ?_, hK _ ?_⟩; first | (go_simp; first | exact rfl | exact ⟨rfl, rfl⟩) | (go_at_call 75; refine (HC2.out _ ?_).mono ?_; exact (HM.out.2.1.but.alloc _).trans (But.of_below (hw'.mono (by simp)) []); rintro e w2 ⟨rfl, hb⟩; exact ⟨rfl, hw'.trans (hb.mono (by have := hw'.size; simp at this; exact this))⟩); clear hK K))
            refine wpQuiet_nil ?_
            intro wq hq
            have hbq := hCC wq hq
            have hfq := hCF wq hq
            clear hCC hCF hCD hCE0 hCE1 hCE2 hCE3 hCE4 hCE5 hCE6 hCE7 hCE8 hCE9 hCE10
            go_wp2_with fail
            obtain ⟨hmt, hF, hn⟩ := HM.out
            have hB1 := ((hF.but.alloc (.cells #[.int .i64 y.r,.int .u32 y.a,.int .i64 y.l,.int .i64 y.i,.int .i64 y.o,.slice y.pa y.pn y.pc,.int .u32 y.nx,.int .i64 y.md,.int .i64 y.pf,.slice y.ca y.cn y.cc,.int .i64 my] 119)).trans (But.of_below (hq.mono (by simp)) []))
            have hT := HT.out
            go_roundw
            case rel =>
              refine ⟨k + 1, by omega, by go_num, ?_⟩
              rw [hmt]
              first
                | (rw [show min mv (f34 y) = f34 y by omega]; exact ⟨hB1.setCell (.inl (by dsimp only; omega)) _, (Below.heap_setCell _ _ _ _ (by dsimp only; omega)).trans ((hq.block _ (by omega)).trans (hold hF.fb)), setCell_blk ((hq.block bb (by omega)).trans (hold hF.ib)) 0 _, hF.ge⟩)
                | (rw [show min mv (f34 y) = mv by omega]; exact ⟨hB1.setCell (.inl (by dsimp only; omega)) _, (Below.heap_setCell _ _ _ _ (by dsimp only; omega)).trans ((hq.block _ (by omega)).trans (hold hF.fb)), setCell_blk ((hq.block bb (by omega)).trans (hold hF.ib)) 0 _, hF.ge⟩)
            case measure => simp [intOf]; omega
        · have hf : ¬ ((k : Int) < ((n - 1 : Nat) : Int)) := by omega
          have hkn : k + 1 = n := by omega
          have hrw := hr.keep (hF.but.block b lb (by simp))
          have hdel := deletea w.heap.size bb (fun c => f34 c.1 != minOf f34 L) b cap L cur wr hrw (by
            intro w' hw' c hc
            have hb1 : Below B w w' := (hF.but.below hBw (by simp)).trans (hw'.below (Nat.le_trans hBw hF.but.size) (by simpa using hB))
            have e1 : minOf f34 (L.take (k + 1)) = minOf f34 L := by rw [hkn, hn, List.take_length]
            have hib := hF.ib
            rw [e1] at hib
            exact neq34 c.1 c.2 _ w.heap.size bb w' B (Nat.le_trans hBw (Nat.le_trans hF.but.size hw'.size)) ((hok c hc).1.below hb1) (hok c hc).2 ((hw'.block _ (lt_of_blk hF.fb) (by simp; omega)).trans hF.fb) ((hw'.block _ (lt_of_blk hib) (by simp; have := hF.ge; omega)).trans hib))
          rw [← hn] at hdel
          have HDL := Lib.hid hdel
          have HFB := Lib.hid (And.intro hF.but hn)
          clear hdel hF hr hok hn hrw
          go_wp2_with fail
          refine (HDL.out).mono ?_
          rintro e w2 ⟨rfl, hrow, hbut⟩
          go_wp2_with fail
          go_ret
          obtain ⟨hb1, hn⟩ := HFB.out
          exact ⟨rfl, hrow, (hb1.mono (by simp)).trans hbut⟩
    
  · have F : LSt34 w (w1.setCell ⟨w.heap.size + 1, 0, none⟩ (.int .i64 (f34 x))) (w.heap.size + 1) (f34 x) :=
      ⟨(((((But.refl w []).alloc _).alloc _).drew).trans (But.of_below hb [])).setCell (.inl (by simp)) _, (Below.heap_setCell _ _ _ _ (by simp)).trans ((hb.block _ (by simp; omega)).trans (hold (hnew _ _))), setCell_blk ((hb.block (w.heap.size + 1) (by simp)).trans (hnewAt (by simp))) 0 _, by omega⟩
    have HF := Lib.hid F
    clear F hb hbb hbf hneb hneb' hneb2
    generalize w1.setCell ⟨w.heap.size + 1, 0, none⟩ (.int .i64 (f34 x)) = wx at *
    generalize w.heap.size + 1 = bb at *
    go_split_ands
    by_cases hc1 : cap = 1
    · subst hc1
      obtain ⟨hr, hok, hn⟩ := HD.out
      have hn1 : n = 1 := by omega
      subst hn1
      have hF := HF.out
      have e1 : minOf f34 L = f34 x := by
        cases hL : L with
        | nil => rw [hL] at hn; simp at hn
        | cons c r =>
          have := HQ.out
          rw [hL] at this hn
          simp at this hn
          rw [hn]
          simp [minOf, this]
      have hrw := hr.keep (hF.but.block b lb (by simp))
      have hdel := deletea w.heap.size bb (fun c => f34 c.1 != minOf f34 L) b 1 L cur wx hrw (by
        intro w' hw' c hc
        have hb1 : Below B w w' := (hF.but.below hBw (by simp)).trans (hw'.below (Nat.le_trans hBw hF.but.size) (by simpa using hB))
        have hib := hF.ib
        rw [← e1] at hib
        exact neq34 c.1 c.2 _ w.heap.size bb w' B (Nat.le_trans hBw (Nat.le_trans hF.but.size hw'.size)) ((hok c hc).1.below hb1) (hok c hc).2 ((hw'.block _ (lt_of_blk hF.fb) (by simp; omega)).trans hF.fb) ((hw'.block _ (lt_of_blk hib) (by simp; have := hF.ge; omega)).trans hib))
      rw [← hn] at hdel
      have HDL := Lib.hid hdel
      have HFB := Lib.hid (And.intro hF.but hn)
      clear hdel hF hr hok hn hrw e1
      go_wp2_with fail
      refine wp_loop_rounds 1 ?_
      rw [rounds_succ]
      go_wp2_with fail
      refine (HDL.out).mono ?_
      rintro e w2 ⟨rfl, hrow, hbut⟩
      go_wp2_with fail
      go_ret
      obtain ⟨hb1, hn⟩ := HFB.out
      exact ⟨rfl, hrow, (hb1.mono (by simp)).trans hbut⟩
    · have hc1' : ¬ (cap = 1) := hc1
      have hcap1 : 1 ≤ cap := by omega
      go_wp2_with fail
      go_loopw [19] (fun i wr => ∃ k : Nat, k ≤ n - 1 ∧ i = .int .i64 k ∧ LSt34 w wr bb (minOf f34 (L.take (k + 1)))) (fun i _ => (n - 1) - (intOf i).toNat)
      case atStart =>
        refine ⟨0, Nat.zero_le _, rfl, ?_⟩
        have e1 : minOf f34 (L.take (0 + 1)) = f34 x := by
          have hn := HD.out.2.2
          cases hL : L with
          | nil => rw [hL] at hn; simp at hn; omega
          | cons c r =>
            have := HQ.out
            rw [hL] at this
            simp at this
            simp [minOf, this]
        rw [e1]; exact HF.out
      case round =>
        obtain ⟨k, hk, rfl, hF⟩ := hrel
        obtain ⟨hr, hok, hn⟩ := HD.out
        by_cases hlt : k < n - 1
        · have hrw := hr.keep (hF.but.block b lb (by simp))
          obtain ⟨c0, c1, c2, c3, c4, c5, c6, c7, c8, c9, c10⟩ := hrw.at (i := k + 1) (by omega)
          rw [show (k + 1) * 11 = 11 + k * 11 by omega] at c0 c1 c2 c3 c4 c5 c6 c7 c8 c9 c10
          have hmem : L.getD (k + 1) default ∈ L := by rw [List.getD_eq_getElem?_getD, List.getElem?_eq_getElem (by omega : k + 1 < L.length)]; exact List.getElem_mem _
          have hc := fun (w' : World) (h : But w w' []) => of34 (L.getD (k + 1) default).1 (L.getD (k + 1) default).2 w' B (Nat.le_trans hBw h.size) ((hok _ hmem).1.below (h.below hBw (by simp))) (hok _ hmem).2
          have hmt := minOf_take f34 L k (by omega)
          have lbr := lt_of_blk hrw.blk
          have lbb := lt_of_blk hF.ib
          have lws := hF.ge
          have hbst : wr.cell? ⟨bb, 0, none⟩ = some (.int .i64 (minOf f34 (L.take (k + 1)))) := cell_of hF.ib rfl
          have hfr : wr.frozen? ⟨bb, 0, none⟩ = false := free_of hF.ib
          have hfn : wr.cell? ⟨w.heap.size, 0, none⟩ = some (.func (.func 75) #[] #[]) := cell_of hF.fb rfl
          generalize hq : L.getD (k + 1) default = q at *
          obtain ⟨y, my⟩ := q
          dsimp only at c0 c1 c2 c3 c4 c5 c6 c7 c8 c9 c10 hc hmt
          unfold Rt.cand at hc
          generalize minOf f34 (L.take (k + 1)) = mv at *
          have HC2 := Lib.hid hc
          have HM := Lib.hid (And.intro hmt (And.intro hF hn))
          have n1 : bb ≠ wr.heap.size := by omega
          have n2 : wr.heap.size ≠ bb := by omega
          have n3 : w.heap.size ≠ bb := by omega
          have n4 : bb ≠ w.heap.size := by omega
          have n5 : w.heap.size ≠ wr.heap.size := by omega
          have n6 : wr.heap.size ≠ w.heap.size := by omega
          clear hq hr hok hmem hc hmt hF hn hrw
          by_cases ht : f34 y < mv
          all_goals
            have HT := Lib.hid ht
            go_wp2_with fail
            have hCC : ∀ w', Below (wr.heap.size + 1) (wr.alloc (.cells #[.int .i64 y.r,.int .u32 y.a,.int .i64 y.l,.int .i64 y.i,.int .i64 y.o,.slice y.pa y.pn y.pc,.int .u32 y.nx,.int .i64 y.md,.int .i64 y.pf,.slice y.ca y.cn y.cc,.int .i64 my] 119)) w' → w'.cell? ⟨bb, 0, none⟩ = some (.int .i64 mv) := fun w' h => (h.cell (p := ⟨bb, 0, none⟩) (by dsimp only; omega)).trans (cell_hold hbst _)
            have hCF : ∀ w', Below (wr.heap.size + 1) (wr.alloc (.cells #[.int .i64 y.r,.int .u32 y.a,.int .i64 y.l,.int .i64 y.i,.int .i64 y.o,.slice y.pa y.pn y.pc,.int .u32 y.nx,.int .i64 y.md,.int .i64 y.pf,.slice y.ca y.cn y.cc,.int .i64 my] 119)) w' → w'.frozen? ⟨bb, 0, none⟩ = false := fun w' h => free_of ((h.block bb (by omega)).trans (hold HM.out.2.1.ib))
            have hCD : ∀ w', Below (wr.heap.size + 1) (wr.alloc (.cells #[.int .i64 y.r,.int .u32 y.a,.int .i64 y.l,.int .i64 y.i,.int .i64 y.o,.slice y.pa y.pn y.pc,.int .u32 y.nx,.int .i64 y.md,.int .i64 y.pf,.slice y.ca y.cn y.cc,.int .i64 my] 119)) w' → w'.cell? ⟨w.heap.size, 0, none⟩ = some (.func (.func 75) #[] #[]) := fun w' h => (h.cell (p := ⟨w.heap.size, 0, none⟩) (by dsimp only; omega)).trans (cell_hold hfn _)
            have hCE0 : ∀ w', Below (wr.heap.size + 1) (wr.alloc (.cells #[.int .i64 y.r,.int .u32 y.a,.int .i64 y.l,.int .i64 y.i,.int .i64 y.o,.slice y.pa y.pn y.pc,.int .u32 y.nx,.int .i64 y.md,.int .i64 y.pf,.slice y.ca y.cn y.cc,.int .i64 my] 119)) w' → w'.cell? ⟨wr.heap.size, 0, none⟩ = some (.int .i64 y.r) := fun w' h => (h.cell (p := ⟨wr.heap.size, 0, none⟩) (by dsimp only; omega)).trans (cell_of (hnew _ _) rfl)
            have hCE1 : ∀ w', Below (wr.heap.size + 1) (wr.alloc (.cells #[.int .i64 y.r,.int .u32 y.a,.int .i64 y.l,.int .i64 y.i,.int .i64 y.o,.slice y.pa y.pn y.pc,.int .u32 y.nx,.int .i64 y.md,.int .i64 y.pf,.slice y.ca y.cn y.cc,.int .i64 my] 119)) w' → w'.cell? ⟨wr.heap.size, 1, none⟩ = some (.int .u32 y.a) := fun w' h => (h.cell (p := ⟨wr.heap.size, 1, none⟩) (by dsimp only; omega)).trans (cell_of (hnew _ _) rfl)
            have hCE2 : ∀ w', Below (wr.heap.size + 1) (wr.alloc (.cells #[.int .i64 y.r,.int .u32 y.a,.int .i64 y.l,.int .i64 y.i,.int .i64 y.o,.slice y.pa y.pn y.pc,.int .u32 y.nx,.int .i64 y.md,.int .i64 y.pf,.slice y.ca y.cn y.cc,.int .i64 my] 119)) w' → w'.cell? ⟨wr.heap.size, 2, none⟩ = some (.int .i64 y.l) := fun w' h => (h.cell (p := ⟨wr.heap.size, 2, none⟩) (by dsimp only; omega)).trans (cell_of (hnew _ _) rfl)
            have hCE3 : ∀ w', Below (wr.heap.size + 1) (wr.alloc (.cells #[.int .i64 y.r,.int .u32 y.a,.int .i64 y.l,.int .i64 y.i,.int .i64 y.o,.slice y.pa y.pn y.pc,.int .u32 y.nx,.int .i64 y.md,.int .i64 y.pf,.slice y.ca y.cn y.cc,.int .i64 my] 119)) w' → w'.cell? ⟨wr.heap.size, 3, none⟩ = some (.int .i64 y.i) := fun w' h => (h.cell (p := ⟨wr.heap.size, 3, none⟩) (by dsimp only; omega)).trans (cell_of (hnew _ _) rfl)
            have hCE4 : ∀ w', Below (wr.heap.size + 1) (wr.alloc (.cells #[.int .i64 y.r,.int .u32 y.a,.int .i64 y.l,.int .i64 y.i,.int .i64 y.o,.slice y.pa y.pn y.pc,.int .u32 y.nx,.int .i64 y.md,.int .i64 y.pf,.slice y.ca y.cn y.cc,.int .i64 my] 119)) w' → w'.cell? ⟨wr.heap.size, 4, none⟩ = some (.int .i64 y.o) := fun w' h => (h.cell (p := ⟨wr.heap.size, 4, none⟩) (by dsimp only; omega)).trans (cell_of (hnew _ _) rfl)
            have hCE5 : ∀ w', Below (wr.heap.size + 1) (wr.alloc (.cells #[.int .i64 y.r,.int .u32 y.a,.int .i64 y.l,.int .i64 y.i,.int .i64 y.o,.slice y.pa y.pn y.pc,.int .u32 y.nx,.int .i64 y.md,.int .i64 y.pf,.slice y.ca y.cn y.cc,.int .i64 my] 119)) w' → w'.cell? ⟨wr.heap.size, 5, none⟩ = some (.slice y.pa y.pn y.pc) := fun w' h => (h.cell (p := ⟨wr.heap.size, 5, none⟩) (by dsimp only; omega)).trans (cell_of (hnew _ _) rfl)
            have hCE6 : ∀ w', Below (wr.heap.size + 1) (wr.alloc (.cells #[.int .i64 y.r,.int .u32 y.a,.int .i64 y.l,.int .i64 y.i,.int .i64 y.o,.slice y.pa y.pn y.pc,.int .u32 y.nx,.int .i64 y.md,.int .i64 y.pf,.slice y.ca y.cn y.cc,.int .i64 my] 119)) w' → w'.cell? ⟨wr.heap.size, 6, none⟩ = some (.int .u32 y.nx) := fun w' h => (h.cell (p := ⟨wr.heap.size, 6, none⟩) (by dsimp only; omega)).trans (cell_of (hnew _ _) rfl)
            have hCE7 : ∀ w', Below (wr.heap.size + 1) (wr.alloc (.cells #[.int .i64 y.r,.int .u32 y.a,.int .i64 y.l,.int .i64 y.i,.int .i64 y.o,.slice y.pa y.pn y.pc,.int .u32 y.nx,.int .i64 y.md,.int .i64 y.pf,.slice y.ca y.cn y.cc,.int .i64 my] 119)) w' → w'.cell? ⟨wr.heap.size, 7, none⟩ = some (.int .i64 y.md) := fun w' h => (h.cell (p := ⟨wr.heap.size, 7, none⟩) (by dsimp only; omega)).trans (cell_of (hnew _ _) rfl)
            have hCE8 : ∀ w', Below (wr.heap.size + 1) (wr.alloc (.cells #[.int .i64 y.r,.int .u32 y.a,.int .i64 y.l,.int .i64 y.i,.int .i64 y.o,.slice y.pa y.pn y.pc,.int .u32 y.nx,.int .i64 y.md,.int .i64 y.pf,.slice y.ca y.cn y.cc,.int .i64 my] 119)) w' → w'.cell? ⟨wr.heap.size, 8, none⟩ = some (.int .i64 y.pf) := fun w' h => (h.cell (p := ⟨wr.heap.size, 8, none⟩) (by dsimp only; omega)).trans (cell_of (hnew _ _) rfl)
            have hCE9 : ∀ w', Below (wr.heap.size + 1) (wr.alloc (.cells #[.int .i64 y.r,.int .u32 y.a,.int .i64 y.l,.int .i64 y.i,.int .i64 y.o,.slice y.pa y.pn y.pc,.int .u32 y.nx,.int .i64 y.md,.int .i64 y.pf,.slice y.ca y.cn y.cc,.int .i64 my] 119)) w' → w'.cell? ⟨wr.heap.size, 9, none⟩ = some (.slice y.ca y.cn y.cc) := fun w' h => (h.cell (p := ⟨wr.heap.size, 9, none⟩) (by dsimp only; omega)).trans (cell_of (hnew _ _) rfl)
            have hCE10 : ∀ w', Below (wr.heap.size + 1) (wr.alloc (.cells #[.int .i64 y.r,.int .u32 y.a,.int .i64 y.l,.int .i64 y.i,.int .i64 y.o,.slice y.pa y.pn y.pc,.int .u32 y.nx,.int .i64 y.md,.int .i64 y.pf,.slice y.ca y.cn y.cc,.int .i64 my] 119)) w' → w'.cell? ⟨wr.heap.size, 10, none⟩ = some (.int .i64 my) := fun w' h => (h.cell (p := ⟨wr.heap.size, 10, none⟩) (by dsimp only; omega)).trans (cell_of (hnew _ _) rfl)
            refine wp_region_quiet_tail (fun w' => Below (wr.heap.size + 1) (wr.alloc (.cells #[.int .i64 y.r,.int .u32 y.a,.int .i64 y.l,.int .i64 y.i,.int .i64 y.o,.slice y.pa y.pn y.pc,.int .u32 y.nx,.int .i64 y.md,.int .i64 y.pf,.slice y.ca y.cn y.cc,.int .i64 my] 119)) w') 4 (by kernel_rfl) (by kernel_rfl) (Below.refl _ _).drew ?_
            simp only [List.take_succ_cons, List.take_zero, List.drop_succ_cons, List.drop_zero]
            iterate 4 (refine wpQuiet_step (fun K hK => ?_); go_simp; first | (refine hK _ ?_; clear hK K) | (apply Exists.intro; refine ⟨fun w' hw' => ?_, hK _ ?_⟩; first | (go_simp; first | exact rfl | exact ⟨rfl, rfl⟩) | (go_at_call 75; refine (HC2.out _ ?_).mono ?_; exact (HM.out.2.1.but.alloc _).trans (But.of_below (hw'.mono (by simp)) []); rintro e w2 ⟨rfl, hb⟩; exact ⟨rfl, hw'.trans (hb.mono (by have := hw'.size; simp at this; exact this))⟩); clear hK K))
            refine wpQuiet_nil ?_
            intro wq hq
            have hbq := hCC wq hq
            have hfq := hCF wq hq
            clear hCC hCF hCD hCE0 hCE1 hCE2 hCE3 hCE4 hCE5 hCE6 hCE7 hCE8 hCE9 hCE10
            go_wp2_with fail
            obtain ⟨hmt, hF, hn⟩ := HM.out
            have hB1 := ((hF.but.alloc (.cells #[.int .i64 y.r,.int .u32 y.a,.int .i64 y.l,.int .i64 y.i,.int .i64 y.o,.slice y.pa y.pn y.pc,.int .u32 y.nx,.int .i64 y.md,.int .i64 y.pf,.slice y.ca y.cn y.cc,.int .i64 my] 119)).trans (But.of_below (hq.mono (by simp)) []))
            have hT := HT.out
            go_roundw
            case rel =>
              refine ⟨k + 1, by omega, by go_num, ?_⟩
              rw [hmt]
              first
                | (rw [show min mv (f34 y) = f34 y by omega]; exact ⟨hB1.setCell (.inl (by dsimp only; omega)) _, (Below.heap_setCell _ _ _ _ (by dsimp only; omega)).trans ((hq.block _ (by omega)).trans (hold hF.fb)), setCell_blk ((hq.block bb (by omega)).trans (hold hF.ib)) 0 _, hF.ge⟩)
                | (rw [show min mv (f34 y) = mv by omega]; exact ⟨hB1.setCell (.inl (by dsimp only; omega)) _, (Below.heap_setCell _ _ _ _ (by dsimp only; omega)).trans ((hq.block _ (by omega)).trans (hold hF.fb)), setCell_blk ((hq.block bb (by omega)).trans (hold hF.ib)) 0 _, hF.ge⟩)
            case measure => simp [intOf]; omega
        · have hf : ¬ ((k : Int) < ((n - 1 : Nat) : Int)) := by omega
          have hkn : k + 1 = n := by omega
          have hrw := hr.keep (hF.but.block b lb (by simp))
          have hdel := deletea w.heap.size bb (fun c => f34 c.1 != minOf f34 L) b cap L cur wr hrw (by
            intro w' hw' c hc
            have hb1 : Below B w w' := (hF.but.below hBw (by simp)).trans (hw'.below (Nat.le_trans hBw hF.but.size) (by simpa using hB))
            have e1 : minOf f34 (L.take (k + 1)) = minOf f34 L := by rw [hkn, hn, List.take_length]
            have hib := hF.ib
            rw [e1] at hib
            exact neq34 c.1 c.2 _ w.heap.size bb w' B (Nat.le_trans hBw (Nat.le_trans hF.but.size hw'.size)) ((hok c hc).1.below hb1) (hok c hc).2 ((hw'.block _ (lt_of_blk hF.fb) (by simp; omega)).trans hF.fb) ((hw'.block _ (lt_of_blk hib) (by simp; have := hF.ge; omega)).trans hib))
          rw [← hn] at hdel
          have HDL := Lib.hid hdel
          have HFB := Lib.hid (And.intro hF.but hn)
          clear hdel hF hr hok hn hrw
          go_wp2_with fail
          refine (HDL.out).mono ?_
          rintro e w2 ⟨rfl, hrow, hbut⟩
          go_wp2_with fail
          go_ret
          obtain ⟨hb1, hn⟩ := HFB.out
          exact ⟨rfl, hrow, (hb1.mono (by simp)).trans hbut⟩
    
end Go.Proofs.Ytgainkgbodmciaa

