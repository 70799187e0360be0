/- least by number 23. -/
import Derived.Test.YtgainkgbodmciaaXad
import Derived.Maps.RangeRun
import Derived.Maps.Keyed
import Derived.Maps.Own
namespace Go.Proofs.Ytgainkgbodmciaa
open Go.RowKit

structure LSt23 (w wx : World) (bb : Nat) (v : Int) : Prop where
  but : But w wx []
  fb : wx.heap[w.heap.size]? = some (.cells #[.func (.func 49) #[] #[]] 120 (0, 0))
  ib : wx.heap[bb]? = some (.cells #[.int .i64 v] 3 (0, 0))
  ge : w.heap.size < bb

set_option maxHeartbeats 2000000 in
theorem least23 (b cap : Nat) (L : List Cd) (cur : Array Value) (w : World) (B : Nat) (hB : B ≤ b) (hBw : B ≤ w.heap.size) (hne : L ≠ []) (hr : RowC w b cap L cur) (hok : AllOk w B L) :
    Calls Try.prog 46 #[.slice (some ⟨b, 0, none⟩) L.length cap, .func (.func 49) #[] #[]] w fun e w' => e = .returned (.slice (some ⟨b, 0, none⟩) (leastOf' f23 L).length cap) ∧ (∃ cur', RowC w' b cap (leastOf' f23 L) cur') ∧ But w w' [b] := by
  obtain ⟨n, hn⟩ : ∃ n, n = L.length := ⟨_, rfl⟩
  rw [← hn]
  have hn0 : 0 < n := by rw [hn]; exact List.length_pos_iff.2 hne
  have hm : n ≤ 9223372036854775807 := by have h1 := hr.le; have h2 := hr.max; unfold maxLen at h2; omega
  have hcap : cap ≤ 9223372036854775807 := by have h2 := hr.max; unfold maxLen at h2; omega
  have hncap : n ≤ cap := by have h1 := hr.le; omega
  have lb := lt_of_blk hr.blk
  obtain ⟨c0, c1, c2, c3, c4, c5, c6, c7, c8, c9, c10⟩ := hr.at (i := 0) (by omega)
  have hmem : L.getD 0 default ∈ L := by rw [List.getD_eq_getElem?_getD, List.getElem?_eq_getElem (by omega : 0 < L.length)]; exact List.getElem_mem _
  have hc := fun (w' : World) (h : Below w.heap.size w w') => of23 (L.getD 0 default).1 (L.getD 0 default).2 w' B (Nat.le_trans hBw h.size) ((hok _ hmem).1.below (h.mono hBw)) (hok _ hmem).2
  have HD := Lib.hid (And.intro hr (And.intro hok hn))
  have hz : ((n : Int) == 0) = false := by simp; omega
  have hz2 : (0 : Int) < (n : Int) := by omega
  generalize hq : L.getD 0 default = q at *
  obtain ⟨x, m⟩ := q
  simp only [Nat.zero_mul, Nat.zero_add] at c0 c1 c2 c3 c4 c5 c6 c7 c8 c9 c10 hc
  unfold Rt.cand at hc
  have HQ := Lib.hid hq
  have HC := Lib.hid hc
  clear hr hok hn hne hq hc hmem
  have hneb : w.heap.size + 1 ≠ b := by omega
  have hneb' : b ≠ w.heap.size + 1 := by omega
  have hneb2 : w.heap.size ≠ b := by omega
  go_enter Try.func46, Try.ntmps46
  go_wp2_with fail
  go_region_held3 (fun w' => w'.cell? ⟨w.heap.size, 0, none⟩ = some (.func (.func 49) #[] #[]) ∧ w'.cell? ⟨b, 0, none⟩ = some (.int .i64 x.r) ∧ w'.cell? ⟨b, 1, none⟩ = some (.int .u32 x.a) ∧ w'.cell? ⟨b, 2, none⟩ = some (.int .i64 x.l) ∧ w'.cell? ⟨b, 3, none⟩ = some (.int .i64 x.i) ∧ w'.cell? ⟨b, 4, none⟩ = some (.int .i64 x.o) ∧ w'.cell? ⟨b, 5, none⟩ = some (.slice x.pa x.pn x.pc) ∧ w'.cell? ⟨b, 6, none⟩ = some (.int .u32 x.nx) ∧ w'.cell? ⟨b, 7, none⟩ = some (.int .i64 x.md) ∧ w'.cell? ⟨b, 8, none⟩ = some (.int .i64 x.pf) ∧ w'.cell? ⟨b, 9, none⟩ = some (.slice x.ca x.cn x.cc) ∧ w'.cell? ⟨b, 10, none⟩ = some (.int .i64 m)) (first | go_keep | ((repeat' apply And.intro) <;> (refine (hb.cell ?_).trans ?_ <;> first | (with_reducible assumption) | (simp; omega) | (simp; done) | (simp [*]; done))) | (go_split_ands; (repeat' apply And.intro) <;> first | (with_reducible assumption) | (refine cell_hold ?_ _; with_reducible assumption) | (refine cell_realloc (by with_reducible assumption) ?_; have := hb.size; simp at this; dsimp only; omega) | (refine cell_far ?_ ?_ <;> first | (with_reducible assumption) | (simp; omega) | (simp; done))) | (go_split_ands; simp; (repeat' apply And.intro) <;> first | (with_reducible assumption) | (refine cell_far ?_ ?_ <;> first | (with_reducible assumption) | (simp; omega) | (simp; done)))) ((first | (go_at_call 49; refine (HC.out _ ?_).mono ?_; (repeat (first | exact Below.refl _ _ | refine Below.drew ?_ | refine Below.alloc ?_ (by simp) _)); rintro e w1 ⟨rfl, hb⟩; have hbb := fun o => hb.cell (p := ⟨w.heap.size + 1, o, none⟩); have hbf := fun o => hb.frozen (p := ⟨w.heap.size + 1, o, none⟩); simp only [World.size_alloc, World.size_drew] at hbb hbf)))
  all_goals
    clear c0 c1 c2 c3 c4 c5 c6 c7 c8 c9 c10
  · have F : LSt23 w (w1.alloc (.cells #[.int .i64 (f23 x)] 3)) w1.heap.size (f23 x) :=
      ⟨((((But.refl w []).alloc _).drew).trans (But.of_below hb [])).alloc _, hold ((hb.block _ (by simp)).trans (hnew _ _)), hnew _ _, by have := hb.size; simp at this; omega⟩
    have HF := Lib.hid F
    clear F hb hbb hbf hneb hneb' hneb2
    generalize w1.alloc (.cells #[.int .i64 (f23 x)] 3) = wx at *
    generalize w1.heap.size = bb at *
    go_split_ands
    by_cases hc1 : cap = 1
    · subst hc1
      obtain ⟨hr, hok, hn⟩ := HD.out
      have hn1 : n = 1 := by omega
      subst hn1
      have hF := HF.out
      have e1 : minOf f23 L = f23 x := by
        cases hL : L with
        | nil => rw [hL] at hn; simp at hn
        | cons c r =>
          have := HQ.out
          rw [hL] at this hn
          simp at this hn
          rw [hn]
          simp [minOf, this]
      have hrw := hr.keep (hF.but.block b lb (by simp))
      have hdel := deletea w.heap.size bb (fun c => f23 c.1 != minOf f23 L) b 1 L cur wx hrw (by
        intro w' hw' c hc
        have hb1 : Below B w w' := (hF.but.below hBw (by simp)).trans (hw'.below (Nat.le_trans hBw hF.but.size) (by simpa using hB))
        have hib := hF.ib
        rw [← e1] at hib
        exact neq23 c.1 c.2 _ w.heap.size bb w' B (Nat.le_trans hBw (Nat.le_trans hF.but.size hw'.size)) ((hok c hc).1.below hb1) (hok c hc).2 ((hw'.block _ (lt_of_blk hF.fb) (by simp; omega)).trans hF.fb) ((hw'.block _ (lt_of_blk hib) (by simp; have := hF.ge; omega)).trans hib))
      rw [← hn] at hdel
      have HDL := Lib.hid hdel
      have HFB := Lib.hid (And.intro hF.but hn)
      clear hdel hF hr hok hn hrw e1
      go_wp2_with fail
      refine wp_loop_rounds 1 ?_
      rw [rounds_succ]
      go_wp2_with fail
      refine (HDL.out).mono ?_
      rintro e w2 ⟨rfl, hrow, hbut⟩
      go_wp2_with fail
      go_ret
      obtain ⟨hb1, hn⟩ := HFB.out
      exact ⟨rfl, hrow, (hb1.mono (by simp)).trans hbut⟩
    · have hc1' : ¬ (cap = 1) := hc1
      have hcap1 : 1 ≤ cap := by omega
      go_wp2_with fail
      go_loopw [19] (fun i wr => ∃ k : Nat, k ≤ n - 1 ∧ i = .int .i64 k ∧ LSt23 w wr bb (minOf f23 (L.take (k + 1)))) (fun i _ => (n - 1) - (intOf i).toNat)
      case atStart =>
        refine ⟨0, Nat.zero_le _, rfl, ?_⟩
        have e1 : minOf f23 (L.take (0 + 1)) = f23 x := by
          have hn := HD.out.2.2
          cases hL : L with
          | nil => rw [hL] at hn; simp at hn; omega
          | cons c r =>
            have := HQ.out
            rw [hL] at this
            simp at this
            simp [minOf, this]
        rw [e1]; exact HF.out
      case round =>
        obtain ⟨k, hk, rfl, hF⟩ := hrel
        obtain ⟨hr, hok, hn⟩ := HD.out
        by_cases hlt : k < n - 1
        · have hrw := hr.keep (hF.but.block b lb (by simp))
          obtain ⟨c0, c1, c2, c3, c4, c5, c6, c7, c8, c9, c10⟩ := hrw.at (i := k + 1) (by omega)
          rw [show (k + 1) * 11 = 11 + k * 11 by omega] at c0 c1 c2 c3 c4 c5 c6 c7 c8 c9 c10
          have hmem : L.getD (k + 1) default ∈ L := by rw [List.getD_eq_getElem?_getD, List.getElem?_eq_getElem (by omega : k + 1 < L.length)]; exact List.getElem_mem _
          have hc := fun (w' : World) (h : But w w' []) => of23 (L.getD (k + 1) default).1 (L.getD (k + 1) default).2 w' B (Nat.le_trans hBw h.size) ((hok _ hmem).1.below (h.below hBw (by simp))) (hok _ hmem).2
          have hmt := minOf_take f23 L k (by omega)
          have lbr := lt_of_blk hrw.blk
          have lbb := lt_of_blk hF.ib
          have lws := hF.ge
          have hbst : wr.cell? ⟨bb, 0, none⟩ = some (.int .i64 (minOf f23 (L.take (k + 1)))) := cell_of hF.ib rfl
          have hfr : wr.frozen? ⟨bb, 0, none⟩ = false := free_of hF.ib
          have hfn : wr.cell? ⟨w.heap.size, 0, none⟩ = some (.func (.func 49) #[] #[]) := cell_of hF.fb rfl
          generalize hq : L.getD (k + 1) default = q at *
          obtain ⟨y, my⟩ := q
          dsimp only at c0 c1 c2 c3 c4 c5 c6 c7 c8 c9 c10 hc hmt
          unfold Rt.cand at hc
          generalize minOf f23 (L.take (k + 1)) = mv at *
          have HC2 := Lib.hid hc
          have HM := Lib.hid (And.intro hmt (And.intro hF hn))
          have n1 : bb ≠ wr.heap.size := by omega
          have n2 : wr.heap.size ≠ bb := by omega
          have n3 : w.heap.size ≠ bb := by omega
          have n4 : bb ≠ w.heap.size := by omega
          have n5 : w.heap.size ≠ wr.heap.size := by omega
          have n6 : wr.heap.size ≠ w.heap.size := by omega
          clear hq hr hok hmem hc hmt hF hn hrw
          by_cases ht : f23 y < mv
          all_goals
            have HT := Lib.hid ht
            go_wp2_with fail
            have hCC : ∀ w', Below (wr.heap.size + 1) (wr.alloc (.cells #[.int .i64 y.r,.int .u32 y.a,.int .i64 y.l,.int .i64 y.i,.int .i64 y.o,.slice y.pa y.pn y.pc,.int .u32 y.nx,.int .i64 y.md,.int .i64 y.pf,.slice y.ca y.cn y.cc,.int .i64 my] 119)) w' → w'.cell? ⟨bb, 0, none⟩ = some (.int .i64 mv) := fun w' h => (h.cell (p := ⟨bb, 0, none⟩) (by dsimp only; omega)).trans (cell_hold hbst _)
            have hCF : ∀ w', Below (wr.heap.size + 1) (wr.alloc (.cells #[.int .i64 y.r,.int .u32 y.a,.int .i64 y.l,.int .i64 y.i,.int .i64 y.o,.slice y.pa y.pn y.pc,.int .u32 y.nx,.int .i64 y.md,.int .i64 y.pf,.slice y.ca y.cn y.cc,.int .i64 my] 119)) w' → w'.frozen? ⟨bb, 0, none⟩ = false := fun w' h => free_of ((h.block bb (by omega)).trans (hold HM.out.2.1.ib))
            have hCD : ∀ w', Below (wr.heap.size + 1) (wr.alloc (.cells #[.int .i64 y.r,.int .u32 y.a,.int .i64 y.l,.int .i64 y.i,.int .i64 y.o,.slice y.pa y.pn y.pc,.int .u32 y.nx,.int .i64 y.md,.int .i64 y.pf,.slice y.ca y.cn y.cc,.int .i64 my] 119)) w' → w'.cell? ⟨w.heap.size, 0, none⟩ = some (.func (.func 49) #[] #[]) := fun w' h => (h.cell (p := ⟨w.heap.size, 0, none⟩) (by dsimp only; omega)).trans (cell_hold hfn _)
            have hCE0 : ∀ w', Below (wr.heap.size + 1) (wr.alloc (.cells #[.int .i64 y.r,.int .u32 y.a,.int .i64 y.l,.int .i64 y.i,.int .i64 y.o,.slice y.pa y.pn y.pc,.int .u32 y.nx,.int .i64 y.md,.int .i64 y.pf,.slice y.ca y.cn y.cc,.int .i64 my] 119)) w' → w'.cell? ⟨wr.heap.size, 0, none⟩ = some (.int .i64 y.r) := fun w' h => (h.cell (p := ⟨wr.heap.size, 0, none⟩) (by dsimp only; omega)).trans (cell_of (hnew _ _) rfl)
            have hCE1 : ∀ w', Below (wr.heap.size + 1) (wr.alloc (.cells #[.int .i64 y.r,.int .u32 y.a,.int .i64 y.l,.int .i64 y.i,.int .i64 y.o,.slice y.pa y.pn y.pc,.int .u32 y.nx,.int .i64 y.md,.int .i64 y.pf,.slice y.ca y.cn y.cc,.int .i64 my] 119)) w' → w'.cell? ⟨wr.heap.size, 1, none⟩ = some (.int .u32 y.a) := fun w' h => (h.cell (p := ⟨wr.heap.size, 1, none⟩) (by dsimp only; omega)).trans (cell_of (hnew _ _) rfl)
            have hCE2 : ∀ w', Below (wr.heap.size + 1) (wr.alloc (.cells #[.int .i64 y.r,.int .u32 y.a,.int .i64 y.l,.int .i64 y.i,.int .i64 y.o,.slice y.pa y.pn y.pc,.int .u32 y.nx,.int .i64 y.md,.int .i64 y.pf,.slice y.ca y.cn y.cc,.int .i64 my] 119)) w' → w'.cell? ⟨wr.heap.size, 2, none⟩ = some (.int .i64 y.l) := fun w' h => (h.cell (p := ⟨wr.heap.size, 2, none⟩) (by dsimp only; omega)).trans (cell_of (hnew _ _) rfl)
            have hCE3 : ∀ w', Below (wr.heap.size + 1) (wr.alloc (.cells #[.int .i64 y.r,.int .u32 y.a,.int .i64 y.l,.int .i64 y.i,.int .i64 y.o,.slice y.pa y.pn y.pc,.int .u32 y.nx,.int .i64 y.md,.int .i64 y.pf,.slice y.ca y.cn y.cc,.int .i64 my] 119)) w' → w'.cell? ⟨wr.heap.size, 3, none⟩ = some (.int .i64 y.i) := fun w' h => (h.cell (p := ⟨wr.heap.size, 3, none⟩) (by dsimp only; omega)).trans (cell_of (hnew _ _) rfl)
            have hCE4 : ∀ w', Below (wr.heap.size + 1) (wr.alloc (.cells #[.int .i64 y.r,.int .u32 y.a,.int .i64 y.l,.int .i64 y.i,.int .i64 y.o,.slice y.pa y.pn y.pc,.int .u32 y.nx,.int .i64 y.md,.int .i64 y.pf,.slice y.ca y.cn y.cc,.int .i64 my] 119)) w' → w'.cell? ⟨wr.heap.size, 4, none⟩ = some (.int .i64 y.o) := fun w' h => (h.cell (p := ⟨wr.heap.size, 4, none⟩) (by dsimp only; omega)).trans (cell_of (hnew _ _) rfl)
            have hCE5 : ∀ w', Below (wr.heap.size + 1) (wr.alloc (.cells #[.int .i64 y.r,.int .u32 y.a,.int .i64 y.l,.int .i64 y.i,.int .i64 y.o,.slice y.pa y.pn y.pc,.int .u32 y.nx,.int .i64 y.md,.int .i64 y.pf,.slice y.ca y.cn y.cc,.int .i64 my] 119)) w' → w'.cell? ⟨wr.heap.size, 5, none⟩ = some (.slice y.pa y.pn y.pc) := fun w' h => (h.cell (p := ⟨wr.heap.size, 5, none⟩) (by dsimp only; omega)).trans (cell_of (hnew _ _) rfl)
            have hCE6 : ∀ w', Below (wr.heap.size + 1) (wr.alloc (.cells #[.int .i64 y.r,.int .u32 y.a,.int .i64 y.l,.int .i64 y.i,.int .i64 y.o,.slice y.pa y.pn y.pc,.int .u32 y.nx,.int .i64 y.md,.int .i64 y.pf,.slice y.ca y.cn y.cc,.int .i64 my] 119)) w' → w'.cell? ⟨wr.heap.size, 6, none⟩ = some (.int .u32 y.nx) := fun w' h => (h.cell (p := ⟨wr.heap.size, 6, none⟩) (by dsimp only; omega)).trans (cell_of (hnew _ _) rfl)
            have hCE7 : ∀ w', Below (wr.heap.size + 1) (wr.alloc (.cells #[.int .i64 y.r,.int .u32 y.a,.int .i64 y.l,.int .i64 y.i,.int .i64 y.o,.slice y.pa y.pn y.pc,.int .u32 y.nx,.int .i64 y.md,.int .i64 y.pf,.slice y.ca y.cn y.cc,.int .i64 my] 119)) w' → w'.cell? ⟨wr.heap.size, 7, none⟩ = some (.int .i64 y.md) := fun w' h => (h.cell (p := ⟨wr.heap.size, 7, none⟩) (by dsimp only; omega)).trans (cell_of (hnew _ _) rfl)
            have hCE8 : ∀ w', Below (wr.heap.size + 1) (wr.alloc (.cells #[.int .i64 y.r,.int .u32 y.a,.int .i64 y.l,.int .i64 y.i,.int .i64 y.o,.slice y.pa y.pn y.pc,.int .u32 y.nx,.int .i64 y.md,.int .i64 y.pf,.slice y.ca y.cn y.cc,.int .i64 my] 119)) w' → w'.cell? ⟨wr.heap.size, 8, none⟩ = some (.int .i64 y.pf) := fun w' h => (h.cell (p := ⟨wr.heap.size, 8, none⟩) (by dsimp only; omega)).trans (cell_of (hnew _ _) rfl)
            have hCE9 : ∀ w', Below (wr.heap.size + 1) (wr.alloc (.cells #[.int .i64 y.r,.int .u32 y.a,.int .i64 y.l,.int .i64 y.i,.int .i64 y.o,.slice y.pa y.pn y.pc,.int .u32 y.nx,.int .i64 y.md,.int .i64 y.pf,.slice y.ca y.cn y.cc,.int .i64 my] 119)) w' → w'.cell? ⟨wr.heap.size, 9, none⟩ = some (.slice y.ca y.cn y.cc) := fun w' h => (h.cell (p := ⟨wr.heap.size, 9, none⟩) (by dsimp only; omega)).trans (cell_of (hnew _ _) rfl)
            have hCE10 : ∀ w', Below (wr.heap.size + 1) (wr.alloc (.cells #[.int .i64 y.r,.int .u32 y.a,.int .i64 y.l,.int .i64 y.i,.int .i64 y.o,.slice y.pa y.pn y.pc,.int .u32 y.nx,.int .i64 y.md,.int .i64 y.pf,.slice y.ca y.cn y.cc,.int .i64 my] 119)) w' → w'.cell? ⟨wr.heap.size, 10, none⟩ = some (.int .i64 my) := fun w' h => (h.cell (p := ⟨wr.heap.size, 10, none⟩) (by dsimp only; omega)).trans (cell_of (hnew _ _) rfl)
            refine wp_region_quiet_tail (fun w' => Below (wr.heap.size + 1) (wr.alloc (.cells #[.int .i64 y.r,.int .u32 y.a,.int .i64 y.l,.int .i64 y.i,.int .i64 y.o,.slice y.pa y.pn y.pc,.int .u32 y.nx,.int .i64 y.md,.int .i64 y.pf,.slice y.ca y.cn y.cc,.int .i64 my] 119)) w') 4 (by kernel_rfl) (by kernel_rfl) (Below.refl _ _).drew ?_
            simp only [List.take_succ_cons, List.take_zero, List.drop_succ_cons, List.drop_zero]
            iterate 4 (refine wpQuiet_step (fun K hK => ?_); go_simp; first | (refine hK _ ?_; clear hK K) | (apply Exists.intro; refine ⟨fun w' hw' => ?_, hK _ ?_⟩; first | (go_simp; first | exact rfl | exact ⟨rfl, rfl⟩) | (go_at_call 49; refine (HC2.out _ ?_).mono ?_; exact (HM.out.2.1.but.alloc _).trans (But.of_below (hw'.mono (by simp)) []); rintro e w2 ⟨rfl, hb⟩; exact ⟨rfl, hw'.trans (hb.mono (by have := hw'.size; simp at this; exact this))⟩); clear hK K))
            refine wpQuiet_nil ?_
            intro wq hq
            have hbq := hCC wq hq
            have hfq := hCF wq hq
            clear hCC hCF hCD hCE0 hCE1 hCE2 hCE3 hCE4 hCE5 hCE6 hCE7 hCE8 hCE9 hCE10
            go_wp2_with fail
            obtain ⟨hmt, hF, hn⟩ := HM.out
            have hB1 := ((hF.but.alloc (.cells #[.int .i64 y.r,.int .u32 y.a,.int .i64 y.l,.int .i64 y.i,.int .i64 y.o,.slice y.pa y.pn y.pc,.int .u32 y.nx,.int .i64 y.md,.int .i64 y.pf,.slice y.ca y.cn y.cc,.int .i64 my] 119)).trans (But.of_below (hq.mono (by simp)) []))
            have hT := HT.out
            go_roundw
            case rel =>
              refine ⟨k + 1, by omega, by go_num, ?_⟩
              rw [hmt]
              first
                | (rw [show min mv (f23 y) = f23 y by omega]; exact ⟨hB1.setCell (.inl (by dsimp only; omega)) _, (Below.heap_setCell _ _ _ _ (by dsimp only; omega)).trans ((hq.block _ (by omega)).trans (hold hF.fb)), setCell_blk ((hq.block bb (by omega)).trans (hold hF.ib)) 0 _, hF.ge⟩)
                | (rw [show min mv (f23 y) = mv by omega]; exact ⟨hB1.setCell (.inl (by dsimp only; omega)) _, (Below.heap_setCell _ _ _ _ (by dsimp only; omega)).trans ((hq.block _ (by omega)).trans (hold hF.fb)), setCell_blk ((hq.block bb (by omega)).trans (hold hF.ib)) 0 _, hF.ge⟩)
            case measure => simp [intOf]; omega
        · have hf : ¬ ((k : Int) < ((n - 1 : Nat) : Int)) := by omega
          have hkn : k + 1 = n := by omega
          have hrw := hr.keep (hF.but.block b lb (by simp))
          have hdel := deletea w.heap.size bb (fun c => f23 c.1 != minOf f23 L) b cap L cur wr hrw (by
            intro w' hw' c hc
            have hb1 : Below B w w' := (hF.but.below hBw (by simp)).trans (hw'.below (Nat.le_trans hBw hF.but.size) (by simpa using hB))
            have e1 : minOf f23 (L.take (k + 1)) = minOf f23 L := by rw [hkn, hn, List.take_length]
            have hib := hF.ib
            rw [e1] at hib
            exact neq23 c.1 c.2 _ w.heap.size bb w' B (Nat.le_trans hBw (Nat.le_trans hF.but.size hw'.size)) ((hok c hc).1.below hb1) (hok c hc).2 ((hw'.block _ (lt_of_blk hF.fb) (by simp; omega)).trans hF.fb) ((hw'.block _ (lt_of_blk hib) (by simp; have := hF.ge; omega)).trans hib))
          rw [← hn] at hdel
          have HDL := Lib.hid hdel
          have HFB := Lib.hid (And.intro hF.but hn)
          clear hdel hF hr hok hn hrw
          go_wp2_with fail
          refine (HDL.out).mono ?_
          rintro e w2 ⟨rfl, hrow, hbut⟩
          go_wp2_with fail
          go_ret
          obtain ⟨hb1, hn⟩ := HFB.out
          exact ⟨rfl, hrow, (hb1.mono (by simp)).trans hbut⟩
    
  · have F : LSt23 w (w1.setCell ⟨w.heap.size + 1, 0, none⟩ (.int .i64 (f23 x))) (w.heap.size + 1) (f23 x) :=
      ⟨(((((But.refl w []).alloc _).alloc _).drew).trans (But.of_below hb [])).setCell (.inl (by simp)) _, (Below.heap_setCell _ _ _ _ (by simp)).trans ((hb.block _ (by simp; omega)).trans (hold (hnew _ _))), setCell_blk ((hb.block (w.heap.size + 1) (by simp)).trans (hnewAt (by simp))) 0 _, by omega⟩
    have HF := Lib.hid F
    clear F hb hbb hbf hneb hneb' hneb2
    generalize w1.setCell ⟨w.heap.size + 1, 0, none⟩ (.int .i64 (f23 x)) = wx at *
    generalize w.heap.size + 1 = bb at *
    go_split_ands
    by_cases hc1 : cap = 1
    · subst hc1
      obtain ⟨hr, hok, hn⟩ := HD.out
      have hn1 : n = 1 := by omega
      subst hn1
      have hF := HF.out
      have e1 : minOf f23 L = f23 x := by
        cases hL : L with
        | nil => rw [hL] at hn; simp at hn
        | cons c r =>
          have := HQ.out
          rw [hL] at this hn
          simp at this hn
          rw [hn]
          simp [minOf, this]
      have hrw := hr.keep (hF.but.block b lb (by simp))
      have hdel := deletea w.heap.size bb (fun c => f23 c.1 != minOf f23 L) b 1 L cur wx hrw (by
        intro w' hw' c hc
        have hb1 : Below B w w' := (hF.but.below hBw (by simp)).trans (hw'.below (Nat.le_trans hBw hF.but.size) (by simpa using hB))
        have hib := hF.ib
        rw [← e1] at hib
        exact neq23 c.1 c.2 _ w.heap.size bb w' B (Nat.le_trans hBw (Nat.le_trans hF.but.size hw'.size)) ((hok c hc).1.below hb1) (hok c hc).2 ((hw'.block _ (lt_of_blk hF.fb) (by simp; omega)).trans hF.fb) ((hw'.block _ (lt_of_blk hib) (by simp; have := hF.ge; omega)).trans hib))
      rw [← hn] at hdel
      have HDL := Lib.hid hdel
      have HFB := Lib.hid (And.intro hF.but hn)
      clear hdel hF hr hok hn hrw e1
      go_wp2_with fail
      refine wp_loop_rounds 1 ?_
      rw [rounds_succ]
      go_wp2_with fail
      refine (HDL.out).mono ?_
      rintro e w2 ⟨rfl, hrow, hbut⟩
      go_wp2_with fail
      go_ret
      obtain ⟨hb1, hn⟩ := HFB.out
      exact ⟨rfl, hrow, (hb1.mono (by simp)).trans hbut⟩
    · have hc1' : ¬ (cap = 1) := hc1
      have hcap1 : 1 ≤ cap := by omega
      go_wp2_with fail
      go_loopw [19] (fun i wr => ∃ k : Nat, k ≤ n - 1 ∧ i = .int .i64 k ∧ LSt23 w wr bb (minOf f23 (L.take (k + 1)))) (fun i _ => (n - 1) - (intOf i).toNat)
      case atStart =>
        refine ⟨0, Nat.zero_le _, rfl, ?_⟩
        have e1 : minOf f23 (L.take (0 + 1)) = f23 x := by
          have hn := HD.out.2.2
          cases hL : L with
          | nil => rw [hL] at hn; simp at hn; omega
          | cons c r =>
            have := HQ.out
            rw [hL] at this
            simp at this
            simp [minOf, this]
        rw [e1]; exact HF.out
      case round =>
        obtain ⟨k, hk, rfl, hF⟩ := hrel
        obtain ⟨hr, hok, hn⟩ := HD.out
        by_cases hlt : k < n - 1
        · have hrw := hr.keep (hF.but.block b lb (by simp))
          obtain ⟨c0, c1, c2, c3, c4, c5, c6, c7, c8, c9, c10⟩ := hrw.at (i := k + 1) (by omega)
          rw [show (k + 1) * 11 = 11 + k * 11 by omega] at c0 c1 c2 c3 c4 c5 c6 c7 c8 c9 c10
          have hmem : L.getD (k + 1) default ∈ L := by rw [List.getD_eq_getElem?_getD, List.getElem?_eq_getElem (by omega : k + 1 < L.length)]; exact List.getElem_mem _
          have hc := fun (w' : World) (h : But w w' []) => of23 (L.getD (k + 1) default).1 (L.getD (k + 1) default).2 w' B (Nat.le_trans hBw h.size) ((hok _ hmem).1.below (h.below hBw (by simp))) (hok _ hmem).2
          have hmt := minOf_take f23 L k (by omega)
          have lbr := lt_of_blk hrw.blk
          have lbb := lt_of_blk hF.ib
          have lws := hF.ge
          have hbst : wr.cell? ⟨bb, 0, none⟩ = some (.int .i64 (minOf f23 (L.take (k + 1)))) := cell_of hF.ib rfl
          have hfr : wr.frozen? ⟨bb, 0, none⟩ = false := free_of hF.ib
          have hfn : wr.cell? ⟨w.heap.size, 0, none⟩ = some (.func (.func 49) #[] #[]) := cell_of hF.fb rfl
          generalize hq : L.getD (k + 1) default = q at *
          obtain ⟨y, my⟩ := q
          dsimp only at c0 c1 c2 c3 c4 c5 c6 c7 c8 c9 c10 hc hmt
          unfold Rt.cand at hc
          generalize minOf f23 (L.take (k + 1)) = mv at *
          have HC2 := Lib.hid hc
          have HM := Lib.hid (And.intro hmt (And.intro hF hn))
          have n1 : bb ≠ wr.heap.size := by omega
          have n2 : wr.heap.size ≠ bb := by omega
          have n3 : w.heap.size ≠ bb := by omega
          have n4 : bb ≠ w.heap.size := by omega
          have n5 : w.heap.size ≠ wr.heap.size := by omega
          have n6 : wr.heap.size ≠ w.heap.size := by omega
          clear hq hr hok hmem hc hmt hF hn hrw
          by_cases ht : f23 y < mv
          all_goals
            have HT := Lib.hid ht
            go_wp2_with fail
            have hCC : ∀ w', Below (wr.heap.size + 1) (wr.alloc (.cells #[.int .i64 y.r,.int .u32 y.a,.int .i64 y.l,.int .i64 y.i,.int .i64 y.o,.slice y.pa y.pn y.pc,.int .u32 y.nx,.int .i64 y.md,.int .i64 y.pf,.slice y.ca y.cn y.cc,.int .i64 my] 119)) w' → w'.cell? ⟨bb, 0, none⟩ = some (.int .i64 mv) := fun w' h => (h.cell (p := ⟨bb, 0, none⟩) (by dsimp only; omega)).trans (cell_hold hbst _)
            have hCF : ∀ w', Below (wr.heap.size + 1) (wr.alloc (.cells #[.int .i64 y.r,.int .u32 y.a,.int .i64 y.l,.int .i64 y.i,.int .i64 y.o,.slice y.pa y.pn y.pc,.int .u32 y.nx,.int .i64 y.md,.int .i64 y.pf,.slice y.ca y.cn y.cc,.int .i64 my] 119)) w' → w'.frozen? ⟨bb, 0, none⟩ = false := fun w' h => free_of ((h.block bb (by omega)).trans (hold HM.out.2.1.ib))
            have hCD : ∀ w', Below (wr.heap.size + 1) (wr.alloc (.cells #[.int .i64 y.r,.int .u32 y.a,.int .i64 y.l,.int .i64 y.i,.int .i64 y.o,.slice y.pa y.pn y.pc,.int .u32 y.nx,.int .i64 y.md,.int .i64 y.pf,.slice y.ca y.cn y.cc,.int .i64 my] 119)) w' → w'.cell? ⟨w.heap.size, 0, none⟩ = some (.func (.func 49) #[] #[]) := fun w' h => (h.cell (p := ⟨w.heap.size, 0, none⟩) (by dsimp only; omega)).trans (cell_hold hfn _)
            have hCE0 : ∀ w', Below (wr.heap.size + 1) (wr.alloc (.cells #[.int .i64 y.r,.int .u32 y.a,.int .i64 y.l,.int .i64 y.i,.int .i64 y.o,.slice y.pa y.pn y.pc,.int .u32 y.nx,.int .i64 y.md,.int .i64 y.pf,.slice y.ca y.cn y.cc,.int .i64 my] 119)) w' → w'.cell? ⟨wr.heap.size, 0, none⟩ = some (.int .i64 y.r) := fun w' h => (h.cell (p := ⟨wr.heap.size, 0, none⟩) (by dsimp only; omega)).trans (cell_of (hnew _ _) rfl)
            have hCE1 : ∀ w', Below (wr.heap.size + 1) (wr.alloc (.cells #[.int .i64 y.r,.int .u32 y.a,.int .i64 y.l,.int .i64 y.i,.int .i64 y.o,.slice y.pa y.pn y.pc,.int .u32 y.nx,.int .i64 y.md,.int .i64 y.pf,.slice y.ca y.cn y.cc,.int .i64 my] 119)) w' → w'.cell? ⟨wr.heap.size, 1, none⟩ = some (.int .u32 y.a) := fun w' h => (h.cell (p := ⟨wr.heap.size, 1, none⟩) (by dsimp only; omega)).trans (cell_of (hnew _ _) rfl)
            have hCE2 : ∀ w', Below (wr.heap.size + 1) (wr.alloc (.cells #[.int .i64 y.r,.int .u32 y.a,.int .i64 y.l,.int .i64 y.i,.int .i64 y.o,.slice y.pa y.pn y.pc,.int .u32 y.nx,.int .i64 y.md,.int .i64 y.pf,.slice y.ca y.cn y.cc,.int .i64 my] 119)) w' → w'.cell? ⟨wr.heap.size, 2, none⟩ = some (.int .i64 y.l) := fun w' h => (h.cell (p := ⟨wr.heap.size, 2, none⟩) (by dsimp only; omega)).trans (cell_of (hnew _ _) rfl)
            have hCE3 : ∀ w', Below (wr.heap.size + 1) (wr.alloc (.cells #[.int .i64 y.r,.int .u32 y.a,.int .i64 y.l,.int .i64 y.i,.int .i64 y.o,.slice y.pa y.pn y.pc,.int .u32 y.nx,.int .i64 y.md,.int .i64 y.pf,.slice y.ca y.cn y.cc,.int .i64 my] 119)) w' → w'.cell? ⟨wr.heap.size, 3, none⟩ = some (.int .i64 y.i) := fun w' h => (h.cell (p := ⟨wr.heap.size, 3, none⟩) (by dsimp only; omega)).trans (cell_of (hnew _ _) rfl)
            have hCE4 : ∀ w', Below (wr.heap.size + 1) (wr.alloc (.cells #[.int .i64 y.r,.int .u32 y.a,.int .i64 y.l,.int .i64 y.i,.int .i64 y.o,.slice y.pa y.pn y.pc,.int .u32 y.nx,.int .i64 y.md,.int .i64 y.pf,.slice y.ca y.cn y.cc,.int .i64 my] 119)) w' → w'.cell? ⟨wr.heap.size, 4, none⟩ = some (.int .i64 y.o) := fun w' h => (h.cell (p := ⟨wr.heap.size, 4, none⟩) (by dsimp only; omega)).trans (cell_of (hnew _ _) rfl)
            have hCE5 : ∀ w', Below (wr.heap.size + 1) (wr.alloc (.cells #[.int .i64 y.r,.int .u32 y.a,.int .i64 y.l,.int .i64 y.i,.int .i64 y.o,.slice y.pa y.pn y.pc,.int .u32 y.nx,.int .i64 y.md,.int .i64 y.pf,.slice y.ca y.cn y.cc,.int .i64 my] 119)) w' → w'.cell? ⟨wr.heap.size, 5, none⟩ = some (.slice y.pa y.pn y.pc) := fun w' h => (h.cell (p := ⟨wr.heap.size, 5, none⟩) (by dsimp only; omega)).trans (cell_of (hnew _ _) rfl)
            have hCE6 : ∀ w', Below (wr.heap.size + 1) (wr.alloc (.cells #[.int .i64 y.r,.int .u32 y.a,.int .i64 y.l,.int .i64 y.i,.int .i64 y.o,.slice y.pa y.pn y.pc,.int .u32 y.nx,.int .i64 y.md,.int .i64 y.pf,.slice y.ca y.cn y.cc,.int .i64 my] 119)) w' → w'.cell? ⟨wr.heap.size, 6, none⟩ = some (.int .u32 y.nx) := fun w' h => (h.cell (p := ⟨wr.heap.size, 6, none⟩) (by dsimp only; omega)).trans (cell_of (hnew _ _) rfl)
            have hCE7 : ∀ w', Below (wr.heap.size + 1) (wr.alloc (.cells #[.int .i64 y.r,.int .u32 y.a,.int .i64 y.l,.int .i64 y.i,.int .i64 y.o,.slice y.pa y.pn y.pc,.int .u32 y.nx,.int .i64 y.md,.int .i64 y.pf,.slice y.ca y.cn y.cc,.int .i64 my] 119)) w' → w'.cell? ⟨wr.heap.size, 7, none⟩ = some (.int .i64 y.md) := fun w' h => (h.cell (p := ⟨wr.heap.size, 7, none⟩) (by dsimp only; omega)).trans (cell_of (hnew _ _) rfl)
            have hCE8 : ∀ w', Below (wr.heap.size + 1) (wr.alloc (.cells #[.int .i64 y.r,.int .u32 y.a,.int .i64 y.l,.int .i64 y.i,.int .i64 y.o,.slice y.pa y.pn y.pc,.int .u32 y.nx,.int .i64 y.md,.int .i64 y.pf,.slice y.ca y.cn y.cc,.int .i64 my] 119)) w' → w'.cell? ⟨wr.heap.size, 8, none⟩ = some (.int .i64 y.pf) := fun w' h => (h.cell (p := ⟨wr.heap.size, 8, none⟩) (by dsimp only; omega)).trans (cell_of (hnew _ _) rfl)
            have hCE9 : ∀ w', Below (wr.heap.size + 1) (wr.alloc (.cells #[.int .i64 y.r,.int .u32 y.a,.int .i64 y.l,.int .i64 y.i,.int .i64 y.o,.slice y.pa y.pn y.pc,.int .u32 y.nx,.int .i64 y.md,.int .i64 y.pf,.slice y.ca y.cn y.cc,.int .i64 my] 119)) w' → w'.cell? ⟨wr.heap.size, 9, none⟩ = some (.slice y.ca y.cn y.cc) := fun w' h => (h.cell (p := ⟨wr.heap.size, 9, none⟩) (by dsimp only; omega)).trans (cell_of (hnew _ _) rfl)
            have hCE10 : ∀ w', Below (wr.heap.size + 1) (wr.alloc (.cells #[.int .i64 y.r,.int .u32 y.a,.int .i64 y.l,.int .i64 y.i,.int .i64 y.o,.slice y.pa y.pn y.pc,.int .u32 y.nx,.int .i64 y.md,.int .i64 y.pf,.slice y.ca y.cn y.cc,.int .i64 my] 119)) w' → w'.cell? ⟨wr.heap.size, 10, none⟩ = some (.int .i64 my) := fun w' h => (h.cell (p := ⟨wr.heap.size, 10, none⟩) (by dsimp only; omega)).trans (cell_of (hnew _ _) rfl)
            refine wp_region_quiet_tail (fun w' => Below (wr.heap.size + 1) (wr.alloc (.cells #[.int .i64 y.r,.int .u32 y.a,.int .i64 y.l,.int .i64 y.i,.int .i64 y.o,.slice y.pa y.pn y.pc,.int .u32 y.nx,.int .i64 y.md,.int .i64 y.pf,.slice y.ca y.cn y.cc,.int .i64 my] 119)) w') 4 (by kernel_rfl) (by kernel_rfl) (Below.refl _ _).drew ?_
            simp only [List.take_succ_cons, List.take_zero, List.drop_succ_cons, List.drop_zero]
            iterate 4 (refine wpQuiet_step (fun K hK => ?_); go_simp; first | (refine hK _ ?_; clear hK K) | (apply Exists.intro; refine ⟨fun w' hw' => ?_, hK _ ?_⟩; first | (go_simp; first | exact rfl | exact ⟨rfl, rfl⟩) | (go_at_call 49; refine (HC2.out _ ?_).mono ?_; exact (HM.out.2.1.but.alloc _).trans (But.of_below (hw'.mono (by simp)) []); rintro e w2 ⟨rfl, hb⟩; exact ⟨rfl, hw'.trans (hb.mono (by have := hw'.size; simp at this; exact this))⟩); clear hK K))
            refine wpQuiet_nil ?_
            intro wq hq
            have hbq := hCC wq hq
            have hfq := hCF wq hq
            clear hCC hCF hCD hCE0 hCE1 hCE2 hCE3 hCE4 hCE5 hCE6 hCE7 hCE8 hCE9 hCE10
            go_wp2_with fail
            obtain ⟨hmt, hF, hn⟩ := HM.out
            have hB1 := ((hF.but.alloc (.cells #[.int .i64 y.r,.int .u32 y.a,.int .i64 y.l,.int .i64 y.i,.int .i64 y.o,.slice y.pa y.pn y.pc,.int .u32 y.nx,.int .i64 y.md,.int .i64 y.pf,.slice y.ca y.cn y.cc,.int .i64 my] 119)).trans (But.of_below (hq.mono (by simp)) []))
            have hT := HT.out
            go_roundw
            case rel =>
              refine ⟨k + 1, by omega, by go_num, ?_⟩
              rw [hmt]
              first
                | (rw [show min mv (f23 y) = f23 y by omega]; exact ⟨hB1.setCell (.inl (by dsimp only; omega)) _, (Below.heap_setCell _ _ _ _ (by dsimp only; omega)).trans ((hq.block _ (by omega)).trans (hold hF.fb)), setCell_blk ((hq.block bb (by omega)).trans (hold hF.ib)) 0 _, hF.ge⟩)
                | (rw [show min mv (f23 y) = mv by omega]; exact ⟨hB1.setCell (.inl (by dsimp only; omega)) _, (Below.heap_setCell _ _ _ _ (by dsimp only; omega)).trans ((hq.block _ (by omega)).trans (hold hF.fb)), setCell_blk ((hq.block bb (by omega)).trans (hold hF.ib)) 0 _, hF.ge⟩)
            case measure => simp [intOf]; omega
        · have hf : ¬ ((k : Int) < ((n - 1 : Nat) : Int)) := by omega
          have hkn : k + 1 = n := by omega
          have hrw := hr.keep (hF.but.block b lb (by simp))
          have hdel := deletea w.heap.size bb (fun c => f23 c.1 != minOf f23 L) b cap L cur wr hrw (by
            intro w' hw' c hc
            have hb1 : Below B w w' := (hF.but.below hBw (by simp)).trans (hw'.below (Nat.le_trans hBw hF.but.size) (by simpa using hB))
            have e1 : minOf f23 (L.take (k + 1)) = minOf f23 L := by rw [hkn, hn, List.take_length]
            have hib := hF.ib
            rw [e1] at hib
            exact neq23 c.1 c.2 _ w.heap.size bb w' B (Nat.le_trans hBw (Nat.le_trans hF.but.size hw'.size)) ((hok c hc).1.below hb1) (hok c hc).2 ((hw'.block _ (lt_of_blk hF.fb) (by simp; omega)).trans hF.fb) ((hw'.block _ (lt_of_blk hib) (by simp; have := hF.ge; omega)).trans hib))
          rw [← hn] at hdel
          have HDL := Lib.hid hdel
          have HFB := Lib.hid (And.intro hF.but hn)
          clear hdel hF hr hok hn hrw
          go_wp2_with fail
          refine (HDL.out).mono ?_
          rintro e w2 ⟨rfl, hrow, hbut⟩
          go_wp2_with fail
          go_ret
          obtain ⟨hb1, hn⟩ := HFB.out
          exact ⟨rfl, hrow, (hb1.mono (by simp)).trans hbut⟩
    
end Go.Proofs.Ytgainkgbodmciaa
/- What least and meds leave, as keep. -/
namespace Go.Proofs.Ytgainkgbodmciaa

def lookOf (x : Rt) : Look := ⟨prefOf x, plen x.path, x.o, pfirst x.path, medOf x, x.r, x.i⟩
def lookC (c : Cd) : Look := lookOf c.1

theorem minOf_le (f : Rt → Int) (L : List Cd) (c : Cd) (h : c ∈ L) : minOf f L ≤ f c.1 := by
  have key : ∀ (r : List Cd) (a : Int), (r.foldl (fun a d => min a (f d.1)) a ≤ a) ∧ ∀ c ∈ r, r.foldl (fun a d => min a (f d.1)) a ≤ f c.1 := by
    intro r
    induction r with
    | nil => intro a; simp
    | cons d r ih =>
      intro a
      simp only [List.foldl_cons]
      obtain ⟨h1, h2⟩ := ih (min a (f d.1))
      refine ⟨by omega, ?_⟩
      intro c hc
      rcases List.mem_cons.1 hc with rfl | hc
      · omega
      · exact h2 c hc
  cases L with
  | nil => cases h
  | cons d r =>
    obtain ⟨h1, h2⟩ := key r (f d.1)
    rcases List.mem_cons.1 h with rfl | hc
    · exact h1
    · exact h2 c hc
theorem minOf_mem (f : Rt → Int) (L : List Cd) (hne : L ≠ []) : ∃ c ∈ L, f c.1 = minOf f L := by
  have key : ∀ (r : List Cd) (a : Int), r.foldl (fun a d => min a (f d.1)) a = a ∨ ∃ c ∈ r, f c.1 = r.foldl (fun a d => min a (f d.1)) a := by
    intro r
    induction r with
    | nil => intro a; simp
    | cons d r ih =>
      intro a
      simp only [List.foldl_cons]
      rcases ih (min a (f d.1)) with h | ⟨c, hc, h⟩
      · rw [h]
        by_cases hm : a ≤ f d.1
        · exact .inl (by omega)
        · exact .inr ⟨d, by simp, by omega⟩
      · exact .inr ⟨c, List.mem_cons_of_mem _ hc, h⟩
  cases L with
  | nil => exact absurd rfl hne
  | cons d r =>
    rcases key r (f d.1) with h | ⟨c, hc, h⟩
    · exact ⟨d, by simp, h.symm⟩
    · exact ⟨c, List.mem_cons_of_mem _ hc, h⟩
theorem leastOf_keep (f : Rt → Int) (s : Nat) (hs : ∀ x y, worse s (lookOf x) (lookOf y) = decide (f y < f x)) (L : List Cd) : leastOf' f L = keep lookC s L := by
  unfold leastOf' keep
  apply List.filter_congr
  intro c hc
  rw [Bool.eq_iff_iff]
  simp only [Bool.not_eq_true', bne_eq_false_iff_eq, List.all_eq_true]
  unfold lookC
  simp only [hs, decide_eq_false_iff_not]
  constructor
  · intro h k hk
    have := minOf_le f L k hk
    omega
  · intro h
    have hne : L ≠ [] := by intro e; rw [e] at hc; cases hc
    obtain ⟨k, hk, e⟩ := minOf_mem f L hne
    have h1 := h k hk
    have h2 := minOf_le f L c hc
    omega
theorem least31_keep (L : List Cd) : leastOf' f31 L = keep lookC 0 L := leastOf_keep f31 0 (by intro x y; unfold worse lookOf f31; simp) L
theorem least32_keep (L : List Cd) : leastOf' f32 L = keep lookC 1 L := leastOf_keep f32 1 (by intro x y; unfold worse lookOf f32; simp) L
theorem least34_keep (L : List Cd) : leastOf' f34 L = keep lookC 2 L := leastOf_keep f34 2 (by intro x y; unfold worse lookOf f34; simp) L
theorem least22_keep (L : List Cd) : leastOf' f22 L = keep lookC 4 L := leastOf_keep f22 4 (by intro x y; unfold worse lookOf f22; simp) L
theorem least23_keep (L : List Cd) : leastOf' f23 L = keep lookC 5 L := leastOf_keep f23 5 (by intro x y; unfold worse lookOf f23; simp) L

/-- the least Med of those that begin with a -/
def mmStep (a : Int) (o : Option Int) (c : Cd) : Option Int :=
  if pfirst c.1.path = a then (match o with | none => some (medOf c.1) | some n => if medOf c.1 < n then some (medOf c.1) else some n) else o
def mm (a : Int) (L : List Cd) : Option Int := L.foldl (mmStep a) none
theorem mm_take (a : Int) (L : List Cd) (k : Nat) (h : k < L.length) : mm a (L.take (k + 1)) = mmStep a (mm a (L.take k)) (L.getD k default) := by
  unfold mm
  rw [List.take_succ_eq_append_getElem h, List.foldl_append]
  simp [h]
theorem mm_spec (a : Int) (L : List Cd) : (∀ n, mm a L = some n → (∃ c ∈ L, pfirst c.1.path = a ∧ medOf c.1 = n) ∧ ∀ c ∈ L, pfirst c.1.path = a → n ≤ medOf c.1) ∧ (mm a L = none → ∀ c ∈ L, pfirst c.1.path ≠ a) := by
  have key : ∀ (R P : List Cd) (o : Option Int), ((∀ n, o = some n → (∃ c ∈ P, pfirst c.1.path = a ∧ medOf c.1 = n) ∧ ∀ c ∈ P, pfirst c.1.path = a → n ≤ medOf c.1) ∧ (o = none → ∀ c ∈ P, pfirst c.1.path ≠ a)) →
      ((∀ n, R.foldl (mmStep a) o = some n → (∃ c ∈ P ++ R, pfirst c.1.path = a ∧ medOf c.1 = n) ∧ ∀ c ∈ P ++ R, pfirst c.1.path = a → n ≤ medOf c.1) ∧ (R.foldl (mmStep a) o = none → ∀ c ∈ P ++ R, pfirst c.1.path ≠ a)) := by
    intro R
    induction R with
    | nil => intro P o h; simpa using h
    | cons d R ih =>
      intro P o h
      obtain ⟨h1, h2⟩ := h
      have := ih (P ++ [d]) (mmStep a o d) ?_
      · simpa using this
      · unfold mmStep
        by_cases hp : pfirst d.1.path = a
        · rw [if_pos hp]
          cases o with
          | none =>
            refine ⟨?_, by simp⟩
            rintro n ⟨⟩
            refine ⟨⟨d, by simp, hp, rfl⟩, ?_⟩
            intro c hc hpc
            rcases List.mem_append.1 hc with hc | hc
            · exact absurd hpc (h2 rfl c hc)
            · simp at hc; rw [hc]; exact Int.le_refl _
          | some m =>
            obtain ⟨⟨c0, hc0, hq0, hm0⟩, hl⟩ := h1 m rfl
            dsimp only
            by_cases hlt : medOf d.1 < m
            · rw [if_pos hlt]
              refine ⟨?_, by simp⟩
              rintro n ⟨⟩
              refine ⟨⟨d, by simp, hp, rfl⟩, ?_⟩
              intro c hc hpc
              rcases List.mem_append.1 hc with hc | hc
              · have := hl c hc hpc; omega
              · simp at hc; rw [hc]; exact Int.le_refl _
            · rw [if_neg hlt]
              refine ⟨?_, by simp⟩
              rintro n ⟨⟩
              refine ⟨⟨c0, by simp [hc0], hq0, hm0⟩, ?_⟩
              intro c hc hpc
              rcases List.mem_append.1 hc with hc | hc
              · exact hl c hc hpc
              · simp at hc; rw [hc]; omega
        · rw [if_neg hp]
          refine ⟨?_, ?_⟩
          · intro n hn
            obtain ⟨⟨c0, hc0, hq0, hm0⟩, hl⟩ := h1 n hn
            refine ⟨⟨c0, by simp [hc0], hq0, hm0⟩, ?_⟩
            intro c hc hpc
            rcases List.mem_append.1 hc with hc | hc
            · exact hl c hc hpc
            · simp at hc; rw [hc] at hpc; exact absurd hpc hp
          · intro hn c hc
            rcases List.mem_append.1 hc with hc | hc
            · exact h2 hn c hc
            · simp at hc; rw [hc]; exact hp
  have := key L [] none ⟨by simp, by simp⟩
  simpa [mm] using this
def medsOf (L : List Cd) : List Cd := L.filter (fun c => !(medOf c.1 != (mm (pfirst c.1.path) L).getD 0))
theorem medsOf_keep (L : List Cd) : medsOf L = keep lookC 3 L := by
  unfold medsOf keep
  apply List.filter_congr
  intro c hc
  rw [Bool.eq_iff_iff]
  simp only [Bool.not_eq_true', bne_eq_false_iff_eq, List.all_eq_true]
  unfold lookC lookOf worse
  simp only [Bool.and_eq_false_iff, decide_eq_false_iff_not]
  obtain ⟨h1, h2⟩ := mm_spec (pfirst c.1.path) L
  cases hm : mm (pfirst c.1.path) L with
  | none => exact absurd rfl (h2 hm c hc)
  | some n =>
    obtain ⟨⟨c0, hc0, hq0, hm0⟩, hl⟩ := h1 n hm
    simp only [Option.getD_some]
    constructor
    · intro h k hk
      by_cases hp : pfirst c.1.path = pfirst k.1.path
      · exact .inr (by have := hl k hk hp.symm; omega)
      · exact .inl hp
    · intro h
      have h3 := hl c hc rfl
      rcases h c0 hc0 with h | h
      · exact absurd hq0.symm h
      · omega
end Go.Proofs.Ytgainkgbodmciaa
/- Maps, as lists of entries: look-up, store, delete, length, and the steps of a range. -/
namespace Go.Proofs.Ytgainkgbodmciaa.MR
open Go.Maps Go.MapKept
open Go.ChangeMaps (setBlock)

/-- how keys are written in memory -/
structure Enc (P : Program) (K : TypeId) (κ : Type) where
  enc : κ → Value
  ok : κ → Prop
  law : Keyed P K
  reads : ∀ k, ok k → ∃ l, keyOf P K (enc k) = some l
  inj : ∀ a b, enc a = enc b → a = b

abbrev Ent (κ : Type) := κ × Value × Nat
def ents {κ : Type} (enc : κ → Value) (l : List (Ent κ)) : List MapEntry := l.map fun e => ⟨enc e.1, e.2.1, e.2.2⟩

section
variable {P : Program} {K : TypeId} {κ : Type} (N : Enc P K κ)

structure MapAt (w : World) (b : Nat) (l : List (Ent κ)) (clock : Nat) : Prop where
  blk : w.heap[b]? = some (.map (ents N.enc l).toArray clock)
  ok : ∀ e ∈ l, N.ok e.1
  nodup : (l.map (·.1)).Nodup
  born : ∀ e ∈ l, e.2.2 < clock
  bnodup : (l.map (·.2.2)).Nodup

theorem ents_length (enc : κ → Value) (l : List (Ent κ)) : (ents enc l).length = l.length := by simp [ents]

theorem find_cases {w w' : World} {b clock : Nat} {l : List (Ent κ)} (h : MapAt N w b l clock) {x : κ} (hx : N.ok x) :
    ((Instr.findKey K (N.enc x) (ents N.enc l)).run P w' = .ok none w' ∧ x ∉ l.map (·.1)) ∨
    ∃ j v bn, (Instr.findKey K (N.enc x) (ents N.enc l)).run P w' = .ok (some (j, v)) w' ∧ l[j]? = some (x, v, bn) := by
  obtain ⟨lx, hlx⟩ := N.reads x hx
  have hr : ∀ e ∈ ents N.enc l, ∃ l', keyOf P K e.key = some l' := by
    intro e he
    obtain ⟨y, hy, rfl⟩ := List.mem_map.1 he
    exact N.reads _ (h.ok y hy)
  rcases N.law.find w' hlx (ents N.enc l) hr with ⟨h1, h2⟩ | ⟨j, e, h1, h2, h3⟩
  · left
    refine ⟨h1, fun hm => ?_⟩
    obtain ⟨y, hy, rfl⟩ := List.mem_map.1 hm
    exact h2 ⟨N.enc y.1, y.2.1, y.2.2⟩ (List.mem_map.2 ⟨y, hy, rfl⟩) rfl
  · right
    simp only [ents, List.getElem?_map, Option.map_eq_some_iff] at h2
    obtain ⟨⟨yk, yv, yb⟩, hy, rfl⟩ := h2
    obtain rfl : yk = x := N.inj _ _ h3
    exact ⟨j, yv, yb, h1, hy⟩

theorem run_len {w : World} {b clock : Nat} {l : List (Ent κ)} (h : MapAt N w b l clock) {T E : TypeId} (ht : P.underlying T = some (.map K E)) (ty : TypeId) :
    (Builtin.len_ #[T] ty #[.map (some b)]).run P w = .ok (.int .i64 l.length) w := by
  unfold Builtin.len_
  simp [run_underlying ht, Result.andThen, getObj, Sem.run, h.blk, goInt, ents]

theorem MapAt.blk_iff {w w' : World} {b clock : Nat} {l : List (Ent κ)} (h : MapAt N w b l clock) (e : w'.heap[b]? = w.heap[b]?) : MapAt N w' b l clock := ⟨e.trans h.blk, h.ok, h.nodup, h.born, h.bnodup⟩
theorem mapAt_made {w : World} {b : Nat} (h : w.heap[b]? = some (.map #[] 0)) : MapAt N w b [] 0 := ⟨h, by simp, by simp, by simp, by simp⟩
section
variable [DecidableEq κ]
def get? (l : List (Ent κ)) (x : κ) : Option Value := (l.find? (fun e => decide (e.1 = x))).map (·.2.1)
def put (l : List (Ent κ)) (x : κ) (v : Value) (clock : Nat) : List (Ent κ) :=
  if x ∈ l.map (·.1) then l.map (fun e => if e.1 = x then (x, v, e.2.2) else e) else l ++ [(x, v, clock)]
def clock' (l : List (Ent κ)) (x : κ) (clock : Nat) : Nat := if x ∈ l.map (·.1) then clock else clock + 1
def del (l : List (Ent κ)) (x : κ) : List (Ent κ) := l.filter (fun e => decide (e.1 ≠ x))

theorem get?_none {l : List (Ent κ)} {x : κ} (h : x ∉ l.map (·.1)) : get? l x = none := by
  unfold get?
  rw [List.find?_eq_none.2]
  · rfl
  · intro e he
    simp only [decide_eq_true_eq]
    rintro rfl
    exact h (List.mem_map.2 ⟨e, he, rfl⟩)
theorem get?_mem {l : List (Ent κ)} (hn : (l.map (·.1)).Nodup) {e : Ent κ} (he : e ∈ l) : get? l e.1 = some e.2.1 := by
  induction l with
  | nil => cases he
  | cons y r ih =>
    simp only [List.map_cons, List.nodup_cons] at hn
    unfold get?
    rw [List.find?_cons]
    rcases List.mem_cons.1 he with rfl | he'
    · simp
    · have hne : y.1 ≠ e.1 := fun h => hn.1 (List.mem_map.2 ⟨e, he', h.symm⟩)
      simp only [hne, decide_false]
      exact ih hn.2 he'
theorem mem_of_get? {l : List (Ent κ)} {x : κ} {v : Value} (h : get? l x = some v) : ∃ e ∈ l, e.1 = x ∧ e.2.1 = v := by
  unfold get? at h
  simp only [Option.map_eq_some_iff] at h
  obtain ⟨e, he, rfl⟩ := h
  have h1 := List.find?_some he
  exact ⟨e, List.mem_of_find?_eq_some he, by simpa using h1, rfl⟩

theorem get?_put (l : List (Ent κ)) (x y : κ) (v : Value) (c : Nat) : get? (put l x v c) y = if y = x then some v else get? l y := by
  unfold put
  split
  · rename_i hx
    clear c
    induction l with
    | nil => simp at hx
    | cons e r ih =>
      unfold get?
      simp only [List.map_cons, List.find?_cons]
      by_cases he : e.1 = x
      · by_cases hy : y = x
        · subst hy; simp [he]
        · have : ¬ (x = y) := fun h => hy h.symm
          have hey : ¬ (e.1 = y) := by rw [he]; exact this
          simp only [he, if_true, this, decide_false, hy, if_false]
          by_cases hxr : x ∈ r.map (·.1)
          · have := ih hxr
            unfold get? at this
            rw [this, if_neg hy]
          · have : r.map (fun e => if e.1 = x then (x, v, e.2.2) else e) = r := by
              conv => rhs; rw [← List.map_id r]
              refine List.map_congr_left fun e' he' => ?_
              rw [if_neg]
              · rfl
              · rintro rfl; exact hxr (List.mem_map.2 ⟨e', he', rfl⟩)
            rw [this]
      · simp only [he, if_false]
        have hxr : x ∈ r.map (·.1) := by
          simp only [List.map_cons, List.mem_cons] at hx
          rcases hx with h | h
          · exact absurd h.symm he
          · exact h
        have ih' := ih hxr
        unfold get? at ih'
        by_cases hey : e.1 = y
        · have : y ≠ x := by rintro rfl; exact he hey
          simp [hey, this]
        · simp only [hey, decide_false]
          exact ih'
  · rename_i hx
    unfold get?
    rw [List.find?_append]
    by_cases hy : y = x
    · subst hy
      have := get?_none hx
      unfold get? at this
      simp only [Option.map_eq_none_iff] at this
      simp [this]
    · have : ¬ (x = y) := fun h => hy h.symm
      simp [hy, this]

theorem get?_del (l : List (Ent κ)) (x y : κ) : get? (del l x) y = if y = x then none else get? l y := by
  unfold del get?
  rw [List.find?_filter]
  by_cases hy : y = x
  · subst hy
    rw [if_pos rfl, List.find?_eq_none.2]
    · rfl
    · intro e he; simp
  · rw [if_neg hy]
    congr 2
    funext e
    by_cases h : e.1 = y
    · have : ¬ (e.1 = x) := by rw [h]; exact hy
      simp [h, hy]
    · simp [h]

theorem run_lookup {w : World} {b clock : Nat} {l : List (Ent κ)} (h : MapAt N w b l clock) {x : κ} (hx : N.ok x) {T E : TypeId} (ht : P.underlying T = some (.map K E)) {z : Value} (hz : ∀ w, (zeroValue E).run P w = .ok z w) (ok : Bool) :
    (Instr.lookup T (.map (some b)) (N.enc x) ok).run P w = .ok (if ok then .tuple #[(get? l x).getD z, .bool (get? l x).isSome] else (get? l x).getD z) w := by
  obtain ⟨lx, hlx⟩ := N.reads x hx
  unfold Instr.lookup
  simp only [Sem.run_bind, run_underlying ht, Result.andThen, getObj, Sem.run, h.blk, N.law.check w _ hlx, Sem.run_pure]
  rcases find_cases N h (w' := w) hx with ⟨h1, h2⟩ | ⟨j, v, bn, h1, h2⟩
  · simp only [h1, Sem.run_bind, Result.andThen, hz, Sem.run_pure, get?_none h2]
    cases ok <;> rfl
  · have hm : (x, v, bn) ∈ l := List.mem_of_getElem? h2
    have := get?_mem h.nodup hm
    simp only [h1, this]
    cases ok <;> rfl

theorem setBlock_heap (w : World) (b : Nat) (o : Obj) (hb : b < w.heap.size) : (setBlock w b o).heap[b]? = some o := by
  simp [setBlock, hb]

theorem ents_put_old (enc : κ → Value) (_inj : ∀ a b, enc a = enc b → a = b) {l : List (Ent κ)} (hn : (l.map (·.1)).Nodup) {j : Nat} {x : κ} {u v : Value} {bn : Nat} (hj : l[j]? = some (x, u, bn)) :
    (ents enc l).toArray.modify j (fun e => { e with key := enc x, val := v }) = (ents enc (l.map fun e => if e.1 = x then (x, v, e.2.2) else e)).toArray := by
  apply Array.ext_getElem?
  intro i
  simp only [Array.getElem?_modify, List.getElem?_toArray, ents, List.getElem?_map]
  by_cases hij : j = i
  · subst hij
    simp [hj]
  · rw [if_neg hij]
    cases hi : l[i]? with
    | none => rfl
    | some e =>
      have hne : ¬ (e.1 = x) := by
        rintro rfl
        have hi' := List.getElem?_eq_some_iff.1 hi
        have hj' := List.getElem?_eq_some_iff.1 hj
        obtain ⟨a1, a2⟩ := hi'
        obtain ⟨b1, b2⟩ := hj'
        have h1 : (l.map (·.1))[i]'(by simpa using a1) = (l.map (·.1))[j]'(by simpa using b1) := by simp [a2, b2]
        exact hij ((List.getElem_inj hn).1 h1.symm)
      simp [hne]

theorem mapAt_put {w' : World} {b clock : Nat} {l : List (Ent κ)} {w : World} (h : MapAt N w b l clock) {x : κ} (hx : N.ok x) (v : Value) (hw : w'.heap[b]? = some (.map (ents N.enc (put l x v clock)).toArray (clock' l x clock))) : MapAt N w' b (put l x v clock) (clock' l x clock) := by
  refine ⟨hw, ?_, ?_, ?_, ?_⟩
  all_goals unfold put
  all_goals try unfold clock'
  all_goals split
  · intro e he
    obtain ⟨y, hy, rfl⟩ := List.mem_map.1 he
    split
    · exact hx
    · exact h.ok y hy
  · intro e he
    rcases List.mem_append.1 he with he | he
    · exact h.ok e he
    · simp at he; subst he; exact hx
  · have : (l.map fun e => if e.1 = x then (x, v, e.2.2) else e).map (·.1) = l.map (·.1) := by
      rw [List.map_map]
      refine List.map_congr_left fun e _ => ?_
      simp only [Function.comp]
      split
      · rename_i h'; exact h'.symm
      · rfl
    rw [this]; exact h.nodup
  · rename_i hni
    rw [List.map_append, List.nodup_append]
    refine ⟨h.nodup, by simp, ?_⟩
    intro a ha c hc
    simp at hc
    subst hc
    rintro rfl
    exact hni ha
  · intro e he
    obtain ⟨y, hy, rfl⟩ := List.mem_map.1 he
    have := h.born y hy
    split <;> exact this
  · intro e he
    rcases List.mem_append.1 he with he | he
    · have := h.born e he; omega
    · simp at he; subst he; simp
  · have : (l.map fun e => if e.1 = x then (x, v, e.2.2) else e).map (·.2.2) = l.map (·.2.2) := by
      rw [List.map_map]
      refine List.map_congr_left fun e _ => ?_
      simp only [Function.comp]
      split <;> rfl
    rw [this]; exact h.bnodup
  · rw [List.map_append, List.nodup_append]
    refine ⟨h.bnodup, by simp, ?_⟩
    intro a ha c hc
    simp at hc
    subst hc
    obtain ⟨y, hy, rfl⟩ := List.mem_map.1 ha
    have := h.born y hy
    omega

theorem run_update {w : World} {b clock : Nat} {l : List (Ent κ)} (h : MapAt N w b l clock) {x : κ} (hx : N.ok x) {T E : TypeId} (ht : P.underlying T = some (.map K E)) (v : Value) :
    (Instr.mapUpdate T (.map (some b)) (N.enc x) v).run P w = .ok () (setBlock w b (.map (ents N.enc (put l x v clock)).toArray (clock' l x clock))) ∧
    MapAt N (setBlock w b (.map (ents N.enc (put l x v clock)).toArray (clock' l x clock))) b (put l x v clock) (clock' l x clock) := by
  have hlt : b < w.heap.size := by
    rcases Nat.lt_or_ge b w.heap.size with h' | h'
    · exact h'
    · have := h.blk; rw [Array.getElem?_eq_none h'] at this; cases this
  refine ⟨?_, mapAt_put N h hx v (setBlock_heap _ _ _ hlt)⟩
  obtain ⟨lx, hlx⟩ := N.reads x hx
  unfold Instr.mapUpdate
  simp only [Sem.run_bind, run_underlying ht, Result.andThen, getObj, Sem.run, h.blk, N.law.check w _ hlx]
  have hset : ∀ o : Obj, (setObj b o).run P w = .ok () (setBlock w b o) := by
    intro o; simp [setObj, Sem.run, h.blk, setBlock]
  rcases find_cases N h (w' := w) hx with ⟨h1, h2⟩ | ⟨j, u, bn, h1, h2⟩
  · simp only [h1, hset]
    unfold put clock'
    rw [if_neg h2, if_neg h2]
    simp [ents]
  · have hm : x ∈ l.map (·.1) := List.mem_map.2 ⟨_, List.mem_of_getElem? h2, rfl⟩
    have hk : ((((ents N.enc l).toArray[j]?).map (·.key)).getD (N.enc x)) = N.enc x := by simp [ents, h2]
    simp only [h1, Sem.run_bind, hk, N.law.stays w hlx, Result.andThen, hset]
    unfold put clock'
    rw [if_pos hm, if_pos hm, ents_put_old N.enc N.inj h.nodup h2]

theorem ents_del (_enc : κ → Value) {l : List (Ent κ)} (hn : (l.map (·.1)).Nodup) {j : Nat} {x : κ} {u : Value} {bn : Nat} (hj : l[j]? = some (x, u, bn)) :
    l.eraseIdx j = del l x := by
  induction l generalizing j with
  | nil => simp at hj
  | cons y r ih =>
    simp only [List.map_cons, List.nodup_cons] at hn
    cases j with
    | zero =>
      simp at hj
      subst hj
      simp only [List.eraseIdx_zero, List.tail_cons, del, List.filter_cons]
      simp only [ne_eq, not_true_eq_false, decide_false, Bool.false_eq_true, if_false]
      symm
      rw [List.filter_eq_self]
      intro e he
      simp only [decide_eq_true_eq]
      rintro rfl
      exact hn.1 (List.mem_map.2 ⟨e, he, rfl⟩)
    | succ j =>
      simp at hj
      have hne : y.1 ≠ x := by
        rintro rfl
        exact hn.1 (List.mem_map.2 ⟨_, List.mem_of_getElem? hj, rfl⟩)
      simp only [List.eraseIdx_cons_succ, del, List.filter_cons]
      simp only [ne_eq, hne, not_false_eq_true, decide_true, if_true]
      rw [ih hn.2 hj]
      rfl

theorem mapAt_del {w w' : World} {b clock : Nat} {l : List (Ent κ)} (h : MapAt N w b l clock) (x : κ) (hw : w'.heap[b]? = some (.map (ents N.enc (del l x)).toArray clock)) : MapAt N w' b (del l x) clock :=
  ⟨hw, fun e he => h.ok e (List.mem_filter.1 he).1, (List.filter_sublist.map _).nodup h.nodup, fun e he => h.born e (List.mem_filter.1 he).1, (List.filter_sublist.map _).nodup h.bnodup⟩

theorem del_none {l : List (Ent κ)} {x : κ} (h : x ∉ l.map (·.1)) : del l x = l := by
  unfold del
  rw [List.filter_eq_self]
  intro e he
  simp only [decide_eq_true_eq]
  rintro rfl
  exact h (List.mem_map.2 ⟨e, he, rfl⟩)

theorem run_delete {w : World} {b clock : Nat} {l : List (Ent κ)} (h : MapAt N w b l clock) {x : κ} (hx : N.ok x) {T E K' : TypeId} (ht : P.underlying T = some (.map K E)) (ty : TypeId) :
    (Builtin.delete_ #[T, K'] ty #[.map (some b), N.enc x]).run P w = .ok (.tuple #[]) (setBlock w b (.map (ents N.enc (del l x)).toArray clock)) ∧
    MapAt N (setBlock w b (.map (ents N.enc (del l x)).toArray clock)) b (del l x) clock := by
  have hlt : b < w.heap.size := by
    rcases Nat.lt_or_ge b w.heap.size with h' | h'
    · exact h'
    · have := h.blk; rw [Array.getElem?_eq_none h'] at this; cases this
  refine ⟨?_, mapAt_del N h x (setBlock_heap _ _ _ hlt)⟩
  obtain ⟨lx, hlx⟩ := N.reads x hx
  have hset : ∀ o : Obj, (setObj b o).run P w = .ok () (setBlock w b o) := by
    intro o; simp [setObj, Sem.run, h.blk, setBlock]
  unfold Builtin.delete_
  simp only [Sem.run_bind, run_underlying ht, Result.andThen, getObj, Sem.run, h.blk, N.law.check w _ hlx, List.getElem?_toArray, List.getElem?_cons_zero, List.getElem?_cons_succ]
  rcases find_cases N h (w' := w) hx with ⟨h1, h2⟩ | ⟨j, u, bn, h1, h2⟩
  · simp only [h1, Sem.run_bind, Result.andThen, hset, del_none h2, Sem.run_pure]
  · have := ents_del N.enc h.nodup h2
    simp only [h1, Sem.run_bind, Result.andThen, hset, Sem.run_pure]
    rw [show (ents N.enc l).toArray.eraseIdxIfInBounds j = (ents N.enc (del l x)).toArray by
      rw [← this]; simp [ents, ChangeMaps.map_eraseIdx]]

end
end
end Go.Proofs.Ytgainkgbodmciaa.MR
