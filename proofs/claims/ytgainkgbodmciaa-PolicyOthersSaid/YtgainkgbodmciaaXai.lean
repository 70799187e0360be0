/- meds: the map of the least Meds, and what is deleted by it. -/
import Derived.Test.YtgainkgbodmciaaXah
import Derived.Test.YtgainkgbodmciaaXaa
import Derived.Carry
import Derived.Test.YtgainkgbodmciaaXac
import Derived.Test.YtgainkgbodmciaaXad
import Derived.Test.YtgainkgbodmciaaXae
import Derived.Test.YtgainkgbodmciaaXaf
import Derived.Test.YtgainkgbodmciaaXag
namespace Go.Proofs.Ytgainkgbodmciaa
open Go.RowKit Go.Maps

def I64 (a : Int) : Prop := -9223372036854775808 ≤ a ∧ a ≤ 9223372036854775807
def KI : MR.Enc Try.prog 3 Int where
  enc := fun a => .int .i64 a
  ok := I64
  law := int_keyed Try.underlying3
  reads := fun a h => ⟨_, keyOf_int_mk Try.underlying3 ((by unfold I64 at h; simp only [Lit.wf, IntKind.min, IntKind.max, IntKind.signed, IntKind.bits, Bool.and_eq_true, decide_eq_true_eq]; simpa using h))⟩
  inj a b h := by injection h
theorem zero3 (w : World) : (zeroValue 3).run Try.prog w = .ok (.int .i64 0) w := by kernel_rfl

set_option maxHeartbeats 1000000 in
theorem neqm (x : Rt) (m v : Int) (bf mb clock : Nat) (l : List (MR.Ent Int)) (w : World) (B : Nat) (hB : B ≤ w.heap.size) (hx : RtOk w B x) (hf : w.heap[bf]? = some (.cells #[.map (some mb)] 160 (0, 0))) (hm : MR.MapAt KI w mb l clock) (hg : (MR.get? l (pfirst x.path)).getD (.int .i64 0) = .int .i64 v) :
    Calls Try.prog 92 #[x.cand m, .pointer (some ⟨bf, 0, none⟩)] w fun e w' => e = .returned (.bool (medOf x != v)) ∧ Below w.heap.size w w' := by
  have HM := Lib.hid (fun w' => med_any x w')
  have HF := Lib.hid (fun w' (h : Below w.heap.size w w') => first_any x w' B (Nat.le_trans hB h.size) (hx.below (h.mono hB)))
  have lf := lt_of_blk hf
  have lm := lt_of_blk hm.blk
  have hok : KI.ok (pfirst x.path) := hx.fr
  have hlk := fun (w' : World) (h : Below (w.heap.size + 1) (w.alloc (.cells #[.int .i64 x.r, .int .u32 x.a, .int .i64 x.l, .int .i64 x.i, .int .i64 x.o, .slice x.pa x.pn x.pc, .int .u32 x.nx, .int .i64 x.md, .int .i64 x.pf, .slice x.ca x.cn x.cc, .int .i64 m] 119)) w') => MR.run_lookup KI (hm.blk_iff KI ((h.block mb (by omega)).trans (hold (w := w) (o := (.cells #[.int .i64 x.r, .int .u32 x.a, .int .i64 x.l, .int .i64 x.i, .int .i64 x.o, .slice x.pa x.pn x.pc, .int .u32 x.nx, .int .i64 x.md, .int .i64 x.pf, .slice x.ca x.cn x.cc, .int .i64 m] 119)) hm.blk |>.trans hm.blk.symm))) hok Try.underlying160 zero3 false
  rw [hg] at hlk
  simp only [KI, Bool.false_eq_true, if_false] at hlk
  have hCF : ∀ w', Below (w.heap.size + 1) (w.alloc (.cells #[.int .i64 x.r, .int .u32 x.a, .int .i64 x.l, .int .i64 x.i, .int .i64 x.o, .slice x.pa x.pn x.pc, .int .u32 x.nx, .int .i64 x.md, .int .i64 x.pf, .slice x.ca x.cn x.cc, .int .i64 m] 119)) w' → w'.cell? ⟨bf, 0, none⟩ = some (.map (some mb)) := fun w' h => (h.cell (p := ⟨bf, 0, none⟩) (by dsimp only; omega)).trans (cell_hold (cell_of hf rfl) _)
  have hCE0 : ∀ w', Below (w.heap.size + 1) (w.alloc (.cells #[.int .i64 x.r, .int .u32 x.a, .int .i64 x.l, .int .i64 x.i, .int .i64 x.o, .slice x.pa x.pn x.pc, .int .u32 x.nx, .int .i64 x.md, .int .i64 x.pf, .slice x.ca x.cn x.cc, .int .i64 m] 119)) w' → w'.cell? ⟨w.heap.size, 0, none⟩ = some (.int .i64 x.r) := fun w' h => (h.cell (p := ⟨w.heap.size, 0, none⟩) (by dsimp only; omega)).trans (cell_of (hnew _ _) rfl)
  have hCE1 : ∀ w', Below (w.heap.size + 1) (w.alloc (.cells #[.int .i64 x.r, .int .u32 x.a, .int .i64 x.l, .int .i64 x.i, .int .i64 x.o, .slice x.pa x.pn x.pc, .int .u32 x.nx, .int .i64 x.md, .int .i64 x.pf, .slice x.ca x.cn x.cc, .int .i64 m] 119)) w' → w'.cell? ⟨w.heap.size, 1, none⟩ = some (.int .u32 x.a) := fun w' h => (h.cell (p := ⟨w.heap.size, 1, none⟩) (by dsimp only; omega)).trans (cell_of (hnew _ _) rfl)
  have hCE2 : ∀ w', Below (w.heap.size + 1) (w.alloc (.cells #[.int .i64 x.r, .int .u32 x.a, .int .i64 x.l, .int .i64 x.i, .int .i64 x.o, .slice x.pa x.pn x.pc, .int .u32 x.nx, .int .i64 x.md, .int .i64 x.pf, .slice x.ca x.cn x.cc, .int .i64 m] 119)) w' → w'.cell? ⟨w.heap.size, 2, none⟩ = some (.int .i64 x.l) := fun w' h => (h.cell (p := ⟨w.heap.size, 2, none⟩) (by dsimp only; omega)).trans (cell_of (hnew _ _) rfl)
  have hCE3 : ∀ w', Below (w.heap.size + 1) (w.alloc (.cells #[.int .i64 x.r, .int .u32 x.a, .int .i64 x.l, .int .i64 x.i, .int .i64 x.o, .slice x.pa x.pn x.pc, .int .u32 x.nx, .int .i64 x.md, .int .i64 x.pf, .slice x.ca x.cn x.cc, .int .i64 m] 119)) w' → w'.cell? ⟨w.heap.size, 3, none⟩ = some (.int .i64 x.i) := fun w' h => (h.cell (p := ⟨w.heap.size, 3, none⟩) (by dsimp only; omega)).trans (cell_of (hnew _ _) rfl)
  have hCE4 : ∀ w', Below (w.heap.size + 1) (w.alloc (.cells #[.int .i64 x.r, .int .u32 x.a, .int .i64 x.l, .int .i64 x.i, .int .i64 x.o, .slice x.pa x.pn x.pc, .int .u32 x.nx, .int .i64 x.md, .int .i64 x.pf, .slice x.ca x.cn x.cc, .int .i64 m] 119)) w' → w'.cell? ⟨w.heap.size, 4, none⟩ = some (.int .i64 x.o) := fun w' h => (h.cell (p := ⟨w.heap.size, 4, none⟩) (by dsimp only; omega)).trans (cell_of (hnew _ _) rfl)
  have hCE5 : ∀ w', Below (w.heap.size + 1) (w.alloc (.cells #[.int .i64 x.r, .int .u32 x.a, .int .i64 x.l, .int .i64 x.i, .int .i64 x.o, .slice x.pa x.pn x.pc, .int .u32 x.nx, .int .i64 x.md, .int .i64 x.pf, .slice x.ca x.cn x.cc, .int .i64 m] 119)) w' → w'.cell? ⟨w.heap.size, 5, none⟩ = some (.slice x.pa x.pn x.pc) := fun w' h => (h.cell (p := ⟨w.heap.size, 5, none⟩) (by dsimp only; omega)).trans (cell_of (hnew _ _) rfl)
  have hCE6 : ∀ w', Below (w.heap.size + 1) (w.alloc (.cells #[.int .i64 x.r, .int .u32 x.a, .int .i64 x.l, .int .i64 x.i, .int .i64 x.o, .slice x.pa x.pn x.pc, .int .u32 x.nx, .int .i64 x.md, .int .i64 x.pf, .slice x.ca x.cn x.cc, .int .i64 m] 119)) w' → w'.cell? ⟨w.heap.size, 6, none⟩ = some (.int .u32 x.nx) := fun w' h => (h.cell (p := ⟨w.heap.size, 6, none⟩) (by dsimp only; omega)).trans (cell_of (hnew _ _) rfl)
  have hCE7 : ∀ w', Below (w.heap.size + 1) (w.alloc (.cells #[.int .i64 x.r, .int .u32 x.a, .int .i64 x.l, .int .i64 x.i, .int .i64 x.o, .slice x.pa x.pn x.pc, .int .u32 x.nx, .int .i64 x.md, .int .i64 x.pf, .slice x.ca x.cn x.cc, .int .i64 m] 119)) w' → w'.cell? ⟨w.heap.size, 7, none⟩ = some (.int .i64 x.md) := fun w' h => (h.cell (p := ⟨w.heap.size, 7, none⟩) (by dsimp only; omega)).trans (cell_of (hnew _ _) rfl)
  have hCE8 : ∀ w', Below (w.heap.size + 1) (w.alloc (.cells #[.int .i64 x.r, .int .u32 x.a, .int .i64 x.l, .int .i64 x.i, .int .i64 x.o, .slice x.pa x.pn x.pc, .int .u32 x.nx, .int .i64 x.md, .int .i64 x.pf, .slice x.ca x.cn x.cc, .int .i64 m] 119)) w' → w'.cell? ⟨w.heap.size, 8, none⟩ = some (.int .i64 x.pf) := fun w' h => (h.cell (p := ⟨w.heap.size, 8, none⟩) (by dsimp only; omega)).trans (cell_of (hnew _ _) rfl)
  have hCE9 : ∀ w', Below (w.heap.size + 1) (w.alloc (.cells #[.int .i64 x.r, .int .u32 x.a, .int .i64 x.l, .int .i64 x.i, .int .i64 x.o, .slice x.pa x.pn x.pc, .int .u32 x.nx, .int .i64 x.md, .int .i64 x.pf, .slice x.ca x.cn x.cc, .int .i64 m] 119)) w' → w'.cell? ⟨w.heap.size, 9, none⟩ = some (.slice x.ca x.cn x.cc) := fun w' h => (h.cell (p := ⟨w.heap.size, 9, none⟩) (by dsimp only; omega)).trans (cell_of (hnew _ _) rfl)
  have hCE10 : ∀ w', Below (w.heap.size + 1) (w.alloc (.cells #[.int .i64 x.r, .int .u32 x.a, .int .i64 x.l, .int .i64 x.i, .int .i64 x.o, .slice x.pa x.pn x.pc, .int .u32 x.nx, .int .i64 x.md, .int .i64 x.pf, .slice x.ca x.cn x.cc, .int .i64 m] 119)) w' → w'.cell? ⟨w.heap.size, 10, none⟩ = some (.int .i64 m) := fun w' h => (h.cell (p := ⟨w.heap.size, 10, none⟩) (by dsimp only; omega)).trans (cell_of (hnew _ _) rfl)
  clear hx hf hm hg hok
  unfold Rt.cand Rt.attrs at *
  go_enter Try.func92, Try.ntmps92
  go_wp2_with fail
  refine wp_region_quiet_tail (fun w' => Below (w.heap.size + 1) (w.alloc (.cells #[.int .i64 x.r, .int .u32 x.a, .int .i64 x.l, .int .i64 x.i, .int .i64 x.o, .slice x.pa x.pn x.pc, .int .u32 x.nx, .int .i64 x.md, .int .i64 x.pf, .slice x.ca x.cn x.cc, .int .i64 m] 119)) w') 11 (by kernel_rfl) (by kernel_rfl) (Below.refl _ _).drew ?_
  simp only [List.take_succ_cons, List.take_zero, List.drop_succ_cons, List.drop_zero]
  iterate 11 (refine wpQuiet_step (fun K hK => ?_); go_simp; first | (refine hK _ ?_; clear hK K) | (apply Exists.intro; refine ⟨fun w' hw' => ?_, hK _ ?_⟩; first | (go_simp; first | exact rfl | exact ⟨rfl, rfl⟩) | (go_at_call 91; refine (HM.out _).mono ?_; rintro e w2 ⟨rfl, hb⟩; exact ⟨rfl, hw'.trans (hb.mono (by have := hw'.size; simp at this; exact this))⟩) | (go_at_call 90; refine (HF.out _ (((Below.refl _ _).alloc (Nat.le_refl _) _).trans (hw'.mono (by simp)))).mono ?_; rintro e w2 ⟨rfl, hb⟩; exact ⟨rfl, hw'.trans (hb.mono (by have := hw'.size; simp at this; exact this))⟩); clear hK K))
  refine wpQuiet_nil ?_
  intro wq hq
  clear hCF hCE0 hCE1 hCE2 hCE3 hCE4 hCE5 hCE6 hCE7 hCE8 hCE9 hCE10 hlk
  go_wp2_with fail
  go_ret
  exact ⟨rfl, ((Below.refl _ _).alloc (Nat.le_refl _) _).trans (hq.mono (by simp))⟩
end Go.Proofs.Ytgainkgbodmciaa
/- meds: the walk. -/
namespace Go.Proofs.Ytgainkgbodmciaa
open Go.RowKit Go.Maps

/-- what the map holds behind some candidates -/
structure MSt (w wx : World) (L' : List Cd) : Prop where
  but : But w wx []
  fb : wx.heap[w.heap.size + 1]? = some (.cells #[.map (some w.heap.size)] 160 (0, 0))
  map : ∃ l clock, MR.MapAt KI wx w.heap.size l clock ∧ ∀ a, MR.get? l a = (mm a L').map (.int .i64 ·)

set_option maxHeartbeats 2000000 in
theorem meds (b cap : Nat) (L : List Cd) (cur : Array Value) (w : World) (B : Nat) (hB : B ≤ b) (hBw : B ≤ w.heap.size) (hr : RowC w b cap L cur) (hok : AllOk w B L) :
    Calls Try.prog 76 #[.slice (some ⟨b, 0, none⟩) L.length cap] w fun e w' => e = .returned (.slice (some ⟨b, 0, none⟩) (medsOf L).length cap) ∧ (∃ cur', RowC w' b cap (medsOf L) cur') ∧ But w w' [b] := by
  obtain ⟨n, hn⟩ : ∃ n, n = L.length := ⟨_, rfl⟩
  rw [← hn]
  have hm : n ≤ 9223372036854775807 := by have h1 := hr.le; have h2 := hr.max; unfold maxLen at h2; omega
  have lb := lt_of_blk hr.blk
  have HD := Lib.hid (And.intro hr (And.intro hok hn))
  clear hr hok hn
  have hmm := @run_makeMap Try.prog
  go_enter Try.func76, Try.ntmps76
  go_wp2_with fail
  go_loopw [12] (fun i wr => ∃ k : Nat, k ≤ n ∧ i = .int .i64 k ∧ MSt w wr (L.take k)) (fun i _ => n - (intOf i).toNat)
  case atStart =>
    refine ⟨0, Nat.zero_le _, rfl, ?_⟩
    refine ⟨((But.refl w []).alloc _).alloc _, hnewAt (by simp), [], 0, MR.mapAt_made KI (hold (hnew _ _)), ?_⟩
    intro a; rfl
  case round =>
    obtain ⟨k, hk, rfl, hF⟩ := hrel
    obtain ⟨hr, hok, hn⟩ := HD.out
    by_cases hlt : k < n
    · have hrw := hr.keep (hF.but.block b lb (by simp))
      obtain ⟨c0, c1, c2, c3, c4, c5, c6, c7, c8, c9, c10⟩ := hrw.at (i := k) (by omega)
      have hmem : L.getD k default ∈ L := by rw [List.getD_eq_getElem?_getD, List.getElem?_eq_getElem (by omega : k < L.length)]; exact List.getElem_mem _
      have hmt := fun a => mm_take a L k (by omega)
      generalize hq : L.getD k default = q at *
      obtain ⟨y, my⟩ := q
      dsimp only at c0 c1 c2 c3 c4 c5 c6 c7 c8 c9 c10
      have hy := (hok _ hmem).1
      dsimp only at hy
      have HF1 := Lib.hid (fun w' (h : But w w' []) => first_any y w' B (Nat.le_trans hBw h.size) (hy.below (h.below hBw (by simp))))
      have HM1 := Lib.hid (fun w' => med_any y w')
      obtain ⟨l, clock, hM, hget⟩ := hF.map
      have hB0 := hF.but
      have hfb := hF.fb
      have hki : KI.ok (pfirst y.path) := hy.fr
      have lm := lt_of_blk hM.blk
      have lf := lt_of_blk hfb
      have hMq := fun (w' : World) (h : Below (wr.heap.size + 1) (wr.alloc (.cells #[.int .i64 y.r, .int .u32 y.a, .int .i64 y.l, .int .i64 y.i, .int .i64 y.o, .slice y.pa y.pn y.pc, .int .u32 y.nx, .int .i64 y.md, .int .i64 y.pf, .slice y.ca y.cn y.cc, .int .i64 my] 119)) w') => hM.blk_iff KI ((h.block w.heap.size (by omega)).trans (hold (w := wr) (o := (.cells #[.int .i64 y.r, .int .u32 y.a, .int .i64 y.l, .int .i64 y.i, .int .i64 y.o, .slice y.pa y.pn y.pc, .int .u32 y.nx, .int .i64 y.md, .int .i64 y.pf, .slice y.ca y.cn y.cc, .int .i64 my] 119)) hM.blk |>.trans hM.blk.symm))
      have hlk := fun (w' : World) (h : Below (wr.heap.size + 1) (wr.alloc (.cells #[.int .i64 y.r, .int .u32 y.a, .int .i64 y.l, .int .i64 y.i, .int .i64 y.o, .slice y.pa y.pn y.pc, .int .u32 y.nx, .int .i64 y.md, .int .i64 y.pf, .slice y.ca y.cn y.cc, .int .i64 my] 119)) w') => MR.run_lookup KI (hMq w' h) hki Try.underlying160 zero3 true
      rw [hget] at hlk
      have hCM : ∀ w', Below (wr.heap.size + 1) (wr.alloc (.cells #[.int .i64 y.r, .int .u32 y.a, .int .i64 y.l, .int .i64 y.i, .int .i64 y.o, .slice y.pa y.pn y.pc, .int .u32 y.nx, .int .i64 y.md, .int .i64 y.pf, .slice y.ca y.cn y.cc, .int .i64 my] 119)) w' → w'.cell? ⟨w.heap.size + 1, 0, none⟩ = some (.map (some w.heap.size)) := fun w' h => (h.cell (p := ⟨w.heap.size + 1, 0, none⟩) (by dsimp only; omega)).trans (cell_hold (cell_of hfb rfl) _)
      have hCE0 : ∀ w', Below (wr.heap.size + 1) (wr.alloc (.cells #[.int .i64 y.r, .int .u32 y.a, .int .i64 y.l, .int .i64 y.i, .int .i64 y.o, .slice y.pa y.pn y.pc, .int .u32 y.nx, .int .i64 y.md, .int .i64 y.pf, .slice y.ca y.cn y.cc, .int .i64 my] 119)) w' → w'.cell? ⟨wr.heap.size, 0, none⟩ = some (.int .i64 y.r) := fun w' h => (h.cell (p := ⟨wr.heap.size, 0, none⟩) (by dsimp only; omega)).trans (cell_of (hnew _ _) rfl)
      have hCE1 : ∀ w', Below (wr.heap.size + 1) (wr.alloc (.cells #[.int .i64 y.r, .int .u32 y.a, .int .i64 y.l, .int .i64 y.i, .int .i64 y.o, .slice y.pa y.pn y.pc, .int .u32 y.nx, .int .i64 y.md, .int .i64 y.pf, .slice y.ca y.cn y.cc, .int .i64 my] 119)) w' → w'.cell? ⟨wr.heap.size, 1, none⟩ = some (.int .u32 y.a) := fun w' h => (h.cell (p := ⟨wr.heap.size, 1, none⟩) (by dsimp only; omega)).trans (cell_of (hnew _ _) rfl)
      have hCE2 : ∀ w', Below (wr.heap.size + 1) (wr.alloc (.cells #[.int .i64 y.r, .int .u32 y.a, .int .i64 y.l, .int .i64 y.i, .int .i64 y.o, .slice y.pa y.pn y.pc, .int .u32 y.nx, .int .i64 y.md, .int .i64 y.pf, .slice y.ca y.cn y.cc, .int .i64 my] 119)) w' → w'.cell? ⟨wr.heap.size, 2, none⟩ = some (.int .i64 y.l) := fun w' h => (h.cell (p := ⟨wr.heap.size, 2, none⟩) (by dsimp only; omega)).trans (cell_of (hnew _ _) rfl)
      have hCE3 : ∀ w', Below (wr.heap.size + 1) (wr.alloc (.cells #[.int .i64 y.r, .int .u32 y.a, .int .i64 y.l, .int .i64 y.i, .int .i64 y.o, .slice y.pa y.pn y.pc, .int .u32 y.nx, .int .i64 y.md, .int .i64 y.pf, .slice y.ca y.cn y.cc, .int .i64 my] 119)) w' → w'.cell? ⟨wr.heap.size, 3, none⟩ = some (.int .i64 y.i) := fun w' h => (h.cell (p := ⟨wr.heap.size, 3, none⟩) (by dsimp only; omega)).trans (cell_of (hnew _ _) rfl)
      have hCE4 : ∀ w', Below (wr.heap.size + 1) (wr.alloc (.cells #[.int .i64 y.r, .int .u32 y.a, .int .i64 y.l, .int .i64 y.i, .int .i64 y.o, .slice y.pa y.pn y.pc, .int .u32 y.nx, .int .i64 y.md, .int .i64 y.pf, .slice y.ca y.cn y.cc, .int .i64 my] 119)) w' → w'.cell? ⟨wr.heap.size, 4, none⟩ = some (.int .i64 y.o) := fun w' h => (h.cell (p := ⟨wr.heap.size, 4, none⟩) (by dsimp only; omega)).trans (cell_of (hnew _ _) rfl)
      have hCE5 : ∀ w', Below (wr.heap.size + 1) (wr.alloc (.cells #[.int .i64 y.r, .int .u32 y.a, .int .i64 y.l, .int .i64 y.i, .int .i64 y.o, .slice y.pa y.pn y.pc, .int .u32 y.nx, .int .i64 y.md, .int .i64 y.pf, .slice y.ca y.cn y.cc, .int .i64 my] 119)) w' → w'.cell? ⟨wr.heap.size, 5, none⟩ = some (.slice y.pa y.pn y.pc) := fun w' h => (h.cell (p := ⟨wr.heap.size, 5, none⟩) (by dsimp only; omega)).trans (cell_of (hnew _ _) rfl)
      have hCE6 : ∀ w', Below (wr.heap.size + 1) (wr.alloc (.cells #[.int .i64 y.r, .int .u32 y.a, .int .i64 y.l, .int .i64 y.i, .int .i64 y.o, .slice y.pa y.pn y.pc, .int .u32 y.nx, .int .i64 y.md, .int .i64 y.pf, .slice y.ca y.cn y.cc, .int .i64 my] 119)) w' → w'.cell? ⟨wr.heap.size, 6, none⟩ = some (.int .u32 y.nx) := fun w' h => (h.cell (p := ⟨wr.heap.size, 6, none⟩) (by dsimp only; omega)).trans (cell_of (hnew _ _) rfl)
      have hCE7 : ∀ w', Below (wr.heap.size + 1) (wr.alloc (.cells #[.int .i64 y.r, .int .u32 y.a, .int .i64 y.l, .int .i64 y.i, .int .i64 y.o, .slice y.pa y.pn y.pc, .int .u32 y.nx, .int .i64 y.md, .int .i64 y.pf, .slice y.ca y.cn y.cc, .int .i64 my] 119)) w' → w'.cell? ⟨wr.heap.size, 7, none⟩ = some (.int .i64 y.md) := fun w' h => (h.cell (p := ⟨wr.heap.size, 7, none⟩) (by dsimp only; omega)).trans (cell_of (hnew _ _) rfl)
      have hCE8 : ∀ w', Below (wr.heap.size + 1) (wr.alloc (.cells #[.int .i64 y.r, .int .u32 y.a, .int .i64 y.l, .int .i64 y.i, .int .i64 y.o, .slice y.pa y.pn y.pc, .int .u32 y.nx, .int .i64 y.md, .int .i64 y.pf, .slice y.ca y.cn y.cc, .int .i64 my] 119)) w' → w'.cell? ⟨wr.heap.size, 8, none⟩ = some (.int .i64 y.pf) := fun w' h => (h.cell (p := ⟨wr.heap.size, 8, none⟩) (by dsimp only; omega)).trans (cell_of (hnew _ _) rfl)
      have hCE9 : ∀ w', Below (wr.heap.size + 1) (wr.alloc (.cells #[.int .i64 y.r, .int .u32 y.a, .int .i64 y.l, .int .i64 y.i, .int .i64 y.o, .slice y.pa y.pn y.pc, .int .u32 y.nx, .int .i64 y.md, .int .i64 y.pf, .slice y.ca y.cn y.cc, .int .i64 my] 119)) w' → w'.cell? ⟨wr.heap.size, 9, none⟩ = some (.slice y.ca y.cn y.cc) := fun w' h => (h.cell (p := ⟨wr.heap.size, 9, none⟩) (by dsimp only; omega)).trans (cell_of (hnew _ _) rfl)
      have hCE10 : ∀ w', Below (wr.heap.size + 1) (wr.alloc (.cells #[.int .i64 y.r, .int .u32 y.a, .int .i64 y.l, .int .i64 y.i, .int .i64 y.o, .slice y.pa y.pn y.pc, .int .u32 y.nx, .int .i64 y.md, .int .i64 y.pf, .slice y.ca y.cn y.cc, .int .i64 my] 119)) w' → w'.cell? ⟨wr.heap.size, 10, none⟩ = some (.int .i64 my) := fun w' h => (h.cell (p := ⟨wr.heap.size, 10, none⟩) (by dsimp only; omega)).trans (cell_of (hnew _ _) rfl)
      have HQ := Lib.hid (And.intro hmt (And.intro hget (And.intro hki (And.intro hMq (And.intro hB0 (And.intro hfb hn))))))
      clear hmt hget hki hMq hB0 hfb hn hy hmem hok hr hrw hq hF hM
      unfold Rt.attrs at HF1 HM1
      cases ho : mm (pfirst y.path) (L.take k) with
      | none =>
        rw [ho] at hlk
        simp only [KI, if_true, Option.map_none, Option.getD_none, Option.isSome_none] at hlk
        have HO := Lib.hid ho
        clear ho
        go_wp2_with fail
        refine (HF1.out _ (HQ.out.2.2.2.2.1.alloc _)).mono ?_
        rintro e w1 ⟨rfl, hb⟩
        simp only [World.size_alloc] at hb
        have hlk1 := hlk w1 hb
        have hCM1 := hCM w1 hb
        go_wp2_with fail
        refine wp_region_quiet_tail (fun w' => Below (wr.heap.size + 1) (wr.alloc (.cells #[.int .i64 y.r, .int .u32 y.a, .int .i64 y.l, .int .i64 y.i, .int .i64 y.o, .slice y.pa y.pn y.pc, .int .u32 y.nx, .int .i64 y.md, .int .i64 y.pf, .slice y.ca y.cn y.cc, .int .i64 my] 119)) w') 6 (by kernel_rfl) (by kernel_rfl) (by first | exact hb | exact hb.drew) ?_
        simp only [List.take_succ_cons, List.take_zero, List.drop_succ_cons, List.drop_zero]
        iterate 6 (refine wpQuiet_step (fun K hK => ?_); go_simp; first | (refine hK _ ?_; clear hK K) | (apply Exists.intro; refine ⟨fun w' hw' => ?_, hK _ ?_⟩; first | (go_simp; first | exact rfl | exact ⟨rfl, rfl⟩) | (go_at_call 91; refine (HM1.out _).mono ?_; rintro e w2 ⟨rfl, hb⟩; exact ⟨rfl, hw'.trans (hb.mono (by have := hw'.size; simp at this; exact this))⟩); clear hK K))
        refine wpQuiet_nil ?_
        intro wq hq
        have hMw := HQ.out.2.2.2.1 wq hq
        obtain ⟨u1, u2⟩ := MR.run_update KI hMw HQ.out.2.2.1 Try.underlying160 (.int .i64 (medOf y))
        have u3 : But w (Go.ChangeMaps.setBlock wq w.heap.size (.map (MR.ents KI.enc (MR.put l (pfirst y.path) (.int .i64 (medOf y)) clock)).toArray (MR.clock' l (pfirst y.path) clock))) [] := ((HQ.out.2.2.2.2.1.alloc _).trans (But.of_below (hq.mono (by simp)) [])).setBlock (.inl (Nat.le_refl _)) _
        have u4 : (Go.ChangeMaps.setBlock wq w.heap.size (.map (MR.ents KI.enc (MR.put l (pfirst y.path) (.int .i64 (medOf y)) clock)).toArray (MR.clock' l (pfirst y.path) clock))).heap[w.heap.size + 1]? = some (.cells #[.map (some w.heap.size)] 160 (0, 0)) := by
          simp only [Go.ChangeMaps.setBlock, Array.getElem?_setIfInBounds]
          rw [if_neg (by omega)]
          exact (hq.block _ (by omega)).trans (hold HQ.out.2.2.2.2.2.1)
        generalize Go.ChangeMaps.setBlock wq w.heap.size (.map (MR.ents KI.enc (MR.put l (pfirst y.path) (.int .i64 (medOf y)) clock)).toArray (MR.clock' l (pfirst y.path) clock)) = wz at u1 u2 u3 u4
        change (Instr.mapUpdate 160 (.map (some w.heap.size)) (.int .i64 (pfirst y.path)) (.int .i64 (medOf y))).run Try.prog wq = .ok () wz at u1
        have HU := Lib.hid (And.intro u2 (And.intro u3 u4))
        clear u2 u3 u4 hMw hlk hCM hCE0 hCE1 hCE2 hCE3 hCE4 hCE5 hCE6 hCE7 hCE8 hCE9 hCE10
        go_wp2_with fail
        go_roundw
        case rel =>
          obtain ⟨u2, u3, u4⟩ := HU.out
          obtain ⟨hmt, hget, -⟩ := HQ.out
          refine ⟨k + 1, by omega, by go_num, u3, u4, _, _, u2, ?_⟩
          intro a
          rw [hmt a, MR.get?_put, hget]
          unfold mmStep
          by_cases ha : a = pfirst y.path
          · subst ha
            rw [HO.out]
            simp
          · rw [if_neg ha, if_neg (fun h => ha h.symm)]
        case measure => simp [intOf]; omega
      | some nv =>
        rw [ho] at hlk
        simp only [KI, if_true, Option.map_some, Option.getD_some, Option.isSome_some] at hlk
        have HO := Lib.hid ho
        clear ho
        by_cases ht : medOf y < nv
        · have HT := Lib.hid ht
          go_wp2_with fail
          refine (HF1.out _ (HQ.out.2.2.2.2.1.alloc _)).mono ?_
          rintro e w1 ⟨rfl, hb⟩
          simp only [World.size_alloc] at hb
          have hlk1 := hlk w1 hb
          have hCM1 := hCM w1 hb
          have e4 := hCE4 w1 hb
          have e5 := hCE5 w1 hb
          have e6 := hCE6 w1 hb
          have e7 := hCE7 w1 hb
          have e8 := hCE8 w1 hb
          have e9 := hCE9 w1 hb
          go_wp2_with fail
          refine (HM1.out _).mono ?_
          rintro e w2 ⟨rfl, hb2⟩
          have hbb := hb.trans (hb2.mono (by have := hb.size; simpa using this))
          clear hb hb2 e4 e5 e6 e7 e8 e9 hlk1 hCM1
          have hb := hbb
          clear hbb
          go_wp2_with fail
          refine wp_region_quiet_tail (fun w' => Below (wr.heap.size + 1) (wr.alloc (.cells #[.int .i64 y.r, .int .u32 y.a, .int .i64 y.l, .int .i64 y.i, .int .i64 y.o, .slice y.pa y.pn y.pc, .int .u32 y.nx, .int .i64 y.md, .int .i64 y.pf, .slice y.ca y.cn y.cc, .int .i64 my] 119)) w') 6 (by kernel_rfl) (by kernel_rfl) (by first | exact hb | exact hb.drew) ?_
          simp only [List.take_succ_cons, List.take_zero, List.drop_succ_cons, List.drop_zero]
          iterate 6 (refine wpQuiet_step (fun K hK => ?_); go_simp; first | (refine hK _ ?_; clear hK K) | (apply Exists.intro; refine ⟨fun w' hw' => ?_, hK _ ?_⟩; first | (go_simp; first | exact rfl | exact ⟨rfl, rfl⟩) | (go_at_call 91; refine (HM1.out _).mono ?_; rintro e w2 ⟨rfl, hb⟩; exact ⟨rfl, hw'.trans (hb.mono (by have := hw'.size; simp at this; exact this))⟩); clear hK K))
          refine wpQuiet_nil ?_
          intro wq hq
          have hMw := HQ.out.2.2.2.1 wq hq
          obtain ⟨u1, u2⟩ := MR.run_update KI hMw HQ.out.2.2.1 Try.underlying160 (.int .i64 (medOf y))
          have u3 : But w (Go.ChangeMaps.setBlock wq w.heap.size (.map (MR.ents KI.enc (MR.put l (pfirst y.path) (.int .i64 (medOf y)) clock)).toArray (MR.clock' l (pfirst y.path) clock))) [] := ((HQ.out.2.2.2.2.1.alloc _).trans (But.of_below (hq.mono (by simp)) [])).setBlock (.inl (Nat.le_refl _)) _
          have u4 : (Go.ChangeMaps.setBlock wq w.heap.size (.map (MR.ents KI.enc (MR.put l (pfirst y.path) (.int .i64 (medOf y)) clock)).toArray (MR.clock' l (pfirst y.path) clock))).heap[w.heap.size + 1]? = some (.cells #[.map (some w.heap.size)] 160 (0, 0)) := by
            simp only [Go.ChangeMaps.setBlock, Array.getElem?_setIfInBounds]
            rw [if_neg (by omega)]
            exact (hq.block _ (by omega)).trans (hold HQ.out.2.2.2.2.2.1)
          generalize Go.ChangeMaps.setBlock wq w.heap.size (.map (MR.ents KI.enc (MR.put l (pfirst y.path) (.int .i64 (medOf y)) clock)).toArray (MR.clock' l (pfirst y.path) clock)) = wz at u1 u2 u3 u4
          change (Instr.mapUpdate 160 (.map (some w.heap.size)) (.int .i64 (pfirst y.path)) (.int .i64 (medOf y))).run Try.prog wq = .ok () wz at u1
          have HU := Lib.hid (And.intro u2 (And.intro u3 u4))
          clear u2 u3 u4 hMw hlk hCM hCE0 hCE1 hCE2 hCE3 hCE4 hCE5 hCE6 hCE7 hCE8 hCE9 hCE10
          go_wp2_with fail
          go_roundw
          case rel =>
            obtain ⟨u2, u3, u4⟩ := HU.out
            obtain ⟨hmt, hget, -⟩ := HQ.out
            refine ⟨k + 1, by omega, by go_num, u3, u4, _, _, u2, ?_⟩
            intro a
            rw [hmt a, MR.get?_put, hget]
            unfold mmStep
            by_cases ha : a = pfirst y.path
            · subst ha
              rw [HO.out]
              simp [HT.out]
            · rw [if_neg ha, if_neg (fun h => ha h.symm)]
          case measure => simp [intOf]; omega
        · have HT := Lib.hid ht
          go_wp2_with fail
          refine (HF1.out _ (HQ.out.2.2.2.2.1.alloc _)).mono ?_
          rintro e w1 ⟨rfl, hb⟩
          simp only [World.size_alloc] at hb
          have hlk1 := hlk w1 hb
          have hCM1 := hCM w1 hb
          have e4 := hCE4 w1 hb
          have e5 := hCE5 w1 hb
          have e6 := hCE6 w1 hb
          have e7 := hCE7 w1 hb
          have e8 := hCE8 w1 hb
          have e9 := hCE9 w1 hb
          go_wp2_with fail
          refine (HM1.out _).mono ?_
          rintro e w2 ⟨rfl, hb2⟩
          have hbb := hb.trans (hb2.mono (by have := hb.size; simpa using this))
          clear hb hb2 e4 e5 e6 e7 e8 e9 hlk1 hCM1
          have hb := hbb
          clear hbb
          go_wp2_with fail
          have hMw := HQ.out.2.2.2.1 w2 hb
          have u3 : But w w2 [] := (HQ.out.2.2.2.2.1.alloc _).trans (But.of_below (hb.mono (by simp)) [])
          have u4 : w2.heap[w.heap.size + 1]? = some (.cells #[.map (some w.heap.size)] 160 (0, 0)) := (hb.block _ (by omega)).trans (hold HQ.out.2.2.2.2.2.1)
          go_roundw
          case rel =>
            obtain ⟨hmt, hget, -⟩ := HQ.out
            refine ⟨k + 1, by omega, by go_num, u3, u4, _, _, hMw, ?_⟩
            intro a
            rw [hmt a, hget]
            unfold mmStep
            by_cases ha : a = pfirst y.path
            · subst ha
              rw [HO.out]
              rw [if_pos rfl]
              dsimp only
              rw [if_neg (by have := HT.out; omega)]
            · rw [if_neg (fun h => ha h.symm)]
          case measure => simp [intOf]; omega
    · have hf : ¬ ((k : Int) < n) := by omega
      have hkn : k = n := by omega
      obtain ⟨l, clock, hM, hget⟩ := hF.map
      have hrw := hr.keep (hF.but.block b lb (by simp))
      have hdel := deletem (w.heap.size + 1) (fun c => medOf c.1 != (mm (pfirst c.1.path) L).getD 0) b cap L cur wr hrw (by
        intro w' hw' c hc
        have hb1 : Below B w w' := (hF.but.below hBw (by simp)).trans (hw'.below (Nat.le_trans hBw hF.but.size) (by simpa using hB))
        refine neqm c.1 c.2 _ (w.heap.size + 1) w.heap.size clock l w' B (Nat.le_trans hBw (Nat.le_trans hF.but.size hw'.size)) ((hok c hc).1.below hb1) ((hw'.block _ (lt_of_blk hF.fb) (by simp; omega)).trans hF.fb) (hM.blk_iff KI (hw'.block _ (lt_of_blk hM.blk) (by simp; omega))) ?_
        rw [hget, hkn, hn, List.take_length]
        cases mm (pfirst c.1.path) L <;> rfl)
      rw [← hn] at hdel
      have HDL := Lib.hid hdel
      have HFB := Lib.hid (And.intro hF.but hn)
      clear hdel hF hr hok hn hrw hM hget
      go_wp2_with fail
      refine (HDL.out).mono ?_
      rintro e w2 ⟨rfl, hrow, hbut⟩
      go_wp2_with fail
      go_ret
      obtain ⟨hb1, hn⟩ := HFB.out
      exact ⟨rfl, hrow, (hb1.mono (by simp)).trans hbut⟩
end Go.Proofs.Ytgainkgbodmciaa
/- Slices of routes in memory, and the candidates that left makes of them. -/
namespace Go.Proofs.Ytgainkgbodmciaa
open Go.RowKit

structure Cells10 (w : World) (b o : Nat) (x : Rt) : Prop where
  c0 : w.cell? ⟨b, o, none⟩ = some (.int .i64 x.r)
  c1 : w.cell? ⟨b, o + 1, none⟩ = some (.int .u32 x.a)
  c2 : w.cell? ⟨b, o + 2, none⟩ = some (.int .i64 x.l)
  c3 : w.cell? ⟨b, o + 3, none⟩ = some (.int .i64 x.i)
  c4 : w.cell? ⟨b, o + 4, none⟩ = some (.int .i64 x.o)
  c5 : w.cell? ⟨b, o + 5, none⟩ = some (.slice x.pa x.pn x.pc)
  c6 : w.cell? ⟨b, o + 6, none⟩ = some (.int .u32 x.nx)
  c7 : w.cell? ⟨b, o + 7, none⟩ = some (.int .i64 x.md)
  c8 : w.cell? ⟨b, o + 8, none⟩ = some (.int .i64 x.pf)
  c9 : w.cell? ⟨b, o + 9, none⟩ = some (.slice x.ca x.cn x.cc)
/-- the routes of a slice, from a place of a block on -/
structure RtsAt (w : World) (b off : Nat) (L : List Rt) : Prop where
  lt : b < w.heap.size
  max : L.length ≤ maxLen
  get : ∀ i, i < L.length → Cells10 w b (off + i * 10) (L.getD i default)
theorem Cells10.keep {w w' : World} {b o : Nat} {x : Rt} (h : Cells10 w b o x) (e : ∀ o', w'.cell? ⟨b, o', none⟩ = w.cell? ⟨b, o', none⟩) : Cells10 w' b o x :=
  ⟨(e _).trans h.c0, (e _).trans h.c1, (e _).trans h.c2, (e _).trans h.c3, (e _).trans h.c4, (e _).trans h.c5, (e _).trans h.c6, (e _).trans h.c7, (e _).trans h.c8, (e _).trans h.c9⟩
theorem RtsAt.below {w w' : World} {b off : Nat} {L : List Rt} (h : RtsAt w b off L) (hb : Below w.heap.size w w') : RtsAt w' b off L :=
  ⟨Nat.lt_of_lt_of_le h.lt hb.size, h.max, fun i hi => (h.get i hi).keep fun o' => hb.cell (p := ⟨b, o', none⟩) h.lt⟩
theorem RtsAt.tail {w : World} {b off : Nat} {L : List Rt} (h : RtsAt w b off L) (k : Nat) (hk : k ≤ L.length) : RtsAt w b (off + k * 10) (L.drop k) := by
  refine ⟨h.lt, by have := h.max; simp; omega, fun i hi => ?_⟩
  simp at hi
  have := h.get (k + i) (by omega)
  rw [show off + k * 10 + i * 10 = off + (k + i) * 10 by omega]
  have e : (L.drop k).getD i default = L.getD (k + i) default := by simp [List.getD_eq_getElem?_getD]
  rw [e]; exact this
/-- routes, and where they stand -/
def withAt (L : List Rt) : List Cd := L.zipIdx.map fun p => (p.1, (p.2 : Int))
theorem withAt_length (L : List Rt) : (withAt L).length = L.length := by simp [withAt]
theorem withAt_take (L : List Rt) (k : Nat) (h : k < L.length) : withAt (L.take (k + 1)) = withAt (L.take k) ++ [(L.getD k default, (k : Int))] := by
  unfold withAt
  rw [List.take_succ_eq_append_getElem h, List.zipIdx_append, List.map_append]
  simp [h, Nat.min_eq_left (Nat.le_of_lt h)]
end Go.Proofs.Ytgainkgbodmciaa
/- left: the candidates, and what is left of them. -/
namespace Go.Proofs.Ytgainkgbodmciaa
open Go.RowKit

def R50 : Rep Cd := ⟨119, 11, by decide, cdCells, cdCells_length, fun _ => rfl⟩
def R40 : Rep Rt := ⟨44, 10, by decide, Rt.cells, fun _ => rfl, fun _ => rfl⟩
theorem T46 : Rep.Ty Try.prog 115 R50 120 := Rep.Ty.mk' Try.underlying115 (z := .agg #[.int .i64 0, .int .u32 0, .int .i64 0, .int .i64 0, .int .i64 0, .slice none 0 0, .int .u32 0, .int .i64 0, .int .i64 0, .slice none 0 0, .int .i64 0]) (by kernel_rfl) rfl
theorem T22 : Rep.Ty Try.prog 28 R40 112 := Rep.Ty.mk' Try.underlying28 (z := .agg #[.int .i64 0, .int .u32 0, .int .i64 0, .int .i64 0, .int .i64 0, .slice none 0 0, .int .u32 0, .int .i64 0, .int .i64 0, .slice none 0 0]) (by kernel_rfl) rfl

def leftOf (L : List Rt) : List Cd := cut lookC 4 (withAt L)
/-- candidates that are being cut, in a block of the call's own -/
structure LSt (B : Nat) (L : List Cd) (W : World) (g cap : Nat) (M : List Cd) (w : World) : Prop where
  row : ∃ cur, RowC w g cap M cur
  sub : ∀ c ∈ M, c ∈ L
  ne : M ≠ []
  below : Below W.heap.size W w
  hg : W.heap.size ≤ g
  ok : AllOk W B L
  hB : B ≤ W.heap.size
theorem LSt.step {B : Nat} {L : List Cd} {W : World} {g cap : Nat} {M M' : List Cd} {w w' : World} (h : LSt B L W g cap M w) (hr : ∃ cur, RowC w' g cap M' cur) (hs : ∀ c ∈ M', c ∈ M) (hne : M' ≠ []) (hb : But w w' [g]) : LSt B L W g cap M' w' :=
  ⟨hr, fun c hc => h.sub c (hs c hc), hne, h.below.trans (hb.below h.below.size (by simpa using h.hg)), h.hg, h.ok, h.hB⟩
theorem LSt.all {B : Nat} {L : List Cd} {W : World} {g cap : Nat} {M : List Cd} {w : World} (h : LSt B L W g cap M w) : AllOk w B M := fun c hc => ⟨(h.ok c (h.sub c hc)).1.below (h.below.mono h.hB), (h.ok c (h.sub c hc)).2⟩
theorem lst31 {B : Nat} {L : List Cd} {W : World} {g cap : Nat} {M : List Cd} {w : World} (h : LSt B L W g cap M w) : Calls Try.prog 46 #[.slice (some ⟨g, 0, none⟩) M.length cap, .func (.func 71) #[] #[]] w fun e w' => e = .returned (.slice (some ⟨g, 0, none⟩) (keep lookC 0 M).length cap) ∧ LSt B L W g cap (keep lookC 0 M) w' := by
  obtain ⟨cur, hr⟩ := h.row
  refine (least31 g cap M cur w B (Nat.le_trans h.hB h.hg) (Nat.le_trans h.hB h.below.size) h.ne hr h.all).mono ?_
  rintro e w' ⟨rfl, hr', hb⟩
  rw [least31_keep] at hr' ⊢
  exact ⟨rfl, h.step hr' (fun c hc => (mem_keep (f := lookC)).1 hc |>.1) (keep_ne (f := lookC) h.ne) hb⟩
theorem lst32 {B : Nat} {L : List Cd} {W : World} {g cap : Nat} {M : List Cd} {w : World} (h : LSt B L W g cap M w) : Calls Try.prog 46 #[.slice (some ⟨g, 0, none⟩) M.length cap, .func (.func 73) #[] #[]] w fun e w' => e = .returned (.slice (some ⟨g, 0, none⟩) (keep lookC 1 M).length cap) ∧ LSt B L W g cap (keep lookC 1 M) w' := by
  obtain ⟨cur, hr⟩ := h.row
  refine (least32 g cap M cur w B (Nat.le_trans h.hB h.hg) (Nat.le_trans h.hB h.below.size) h.ne hr h.all).mono ?_
  rintro e w' ⟨rfl, hr', hb⟩
  rw [least32_keep] at hr' ⊢
  exact ⟨rfl, h.step hr' (fun c hc => (mem_keep (f := lookC)).1 hc |>.1) (keep_ne (f := lookC) h.ne) hb⟩
theorem lst34 {B : Nat} {L : List Cd} {W : World} {g cap : Nat} {M : List Cd} {w : World} (h : LSt B L W g cap M w) : Calls Try.prog 46 #[.slice (some ⟨g, 0, none⟩) M.length cap, .func (.func 75) #[] #[]] w fun e w' => e = .returned (.slice (some ⟨g, 0, none⟩) (keep lookC 2 M).length cap) ∧ LSt B L W g cap (keep lookC 2 M) w' := by
  obtain ⟨cur, hr⟩ := h.row
  refine (least34 g cap M cur w B (Nat.le_trans h.hB h.hg) (Nat.le_trans h.hB h.below.size) h.ne hr h.all).mono ?_
  rintro e w' ⟨rfl, hr', hb⟩
  rw [least34_keep] at hr' ⊢
  exact ⟨rfl, h.step hr' (fun c hc => (mem_keep (f := lookC)).1 hc |>.1) (keep_ne (f := lookC) h.ne) hb⟩
theorem lst22 {B : Nat} {L : List Cd} {W : World} {g cap : Nat} {M : List Cd} {w : World} (h : LSt B L W g cap M w) : Calls Try.prog 46 #[.slice (some ⟨g, 0, none⟩) M.length cap, .func (.func 48) #[] #[]] w fun e w' => e = .returned (.slice (some ⟨g, 0, none⟩) (keep lookC 4 M).length cap) ∧ LSt B L W g cap (keep lookC 4 M) w' := by
  obtain ⟨cur, hr⟩ := h.row
  refine (least22 g cap M cur w B (Nat.le_trans h.hB h.hg) (Nat.le_trans h.hB h.below.size) h.ne hr h.all).mono ?_
  rintro e w' ⟨rfl, hr', hb⟩
  rw [least22_keep] at hr' ⊢
  exact ⟨rfl, h.step hr' (fun c hc => (mem_keep (f := lookC)).1 hc |>.1) (keep_ne (f := lookC) h.ne) hb⟩
theorem lst23 {B : Nat} {L : List Cd} {W : World} {g cap : Nat} {M : List Cd} {w : World} (h : LSt B L W g cap M w) : Calls Try.prog 46 #[.slice (some ⟨g, 0, none⟩) M.length cap, .func (.func 49) #[] #[]] w fun e w' => e = .returned (.slice (some ⟨g, 0, none⟩) (keep lookC 5 M).length cap) ∧ LSt B L W g cap (keep lookC 5 M) w' := by
  obtain ⟨cur, hr⟩ := h.row
  refine (least23 g cap M cur w B (Nat.le_trans h.hB h.hg) (Nat.le_trans h.hB h.below.size) h.ne hr h.all).mono ?_
  rintro e w' ⟨rfl, hr', hb⟩
  rw [least23_keep] at hr' ⊢
  exact ⟨rfl, h.step hr' (fun c hc => (mem_keep (f := lookC)).1 hc |>.1) (keep_ne (f := lookC) h.ne) hb⟩
theorem lstm {B : Nat} {L : List Cd} {W : World} {g cap : Nat} {M : List Cd} {w : World} (h : LSt B L W g cap M w) : Calls Try.prog 76 #[.slice (some ⟨g, 0, none⟩) M.length cap] w fun e w' => e = .returned (.slice (some ⟨g, 0, none⟩) (keep lookC 3 M).length cap) ∧ LSt B L W g cap (keep lookC 3 M) w' := by
  obtain ⟨cur, hr⟩ := h.row
  refine (meds g cap M cur w B (Nat.le_trans h.hB h.hg) (Nat.le_trans h.hB h.below.size) hr h.all).mono ?_
  rintro e w' ⟨rfl, hr', hb⟩
  rw [medsOf_keep] at hr' ⊢
  exact ⟨rfl, h.step hr' (fun c hc => (mem_keep (f := lookC)).1 hc |>.1) (keep_ne (f := lookC) h.ne) hb⟩
theorem mem_of_withAt {L : List Rt} {c : Cd} (h : c ∈ withAt L) : c.1 ∈ L := by
  unfold withAt at h
  obtain ⟨p, hp, rfl⟩ := List.mem_map.1 h
  exact (List.mem_zipIdx' hp).2 ▸ List.getElem_mem _

set_option maxHeartbeats 2000000 in
theorem left_some (b off cap n : Nat) (L : List Rt) (w : World) (B : Nat) (hL : L ≠ []) (hn : L.length = n) (hB : B ≤ w.heap.size) (hr : R40.Row w b off L) (hok : ∀ x ∈ L, RtOk w B x ∧ Small x) (h60 : n ≤ 60) :
    Calls Try.prog 47 #[.slice (some ⟨b, off, none⟩) n cap] w fun e w' => ∃ g cap', e = .returned (.slice (some ⟨g, 0, none⟩) (leftOf L).length cap') ∧ LSt B (withAt L) w g cap' (leftOf L) w' := by
  have HD := Lib.hid (And.intro hr (And.intro hok hn))
  have lb := hr.lt
  clear hr hok
  go_enter Try.func47, Try.ntmps47
  go_wp2_with fail
  go_loopw [3, 8] (fun v i wr => ∃ k : Nat, k ≤ n ∧ i = .int .i64 k ∧ R50.Own wr w.heap.size v (withAt (L.take k)) ∧ Below w.heap.size w wr) (fun _ i _ => n - (intOf i).toNat)
  case atStart => exact ⟨0, Nat.zero_le _, rfl, Rep.Own.nil _ _, Below.refl _ _⟩
  case round =>
    obtain ⟨k, hk, rfl, hown, hb⟩ := hrel
    obtain ⟨hr, hok, hn⟩ := HD.out
    have hsz := hb.size
    by_cases hlt : k < n
    · have hat := (hr.below hb).get k (by omega)
      have hlk := withAt_take L k (by omega)
      generalize hx : L.getD k default = x at *
      have c0 := hat 0 (by decide)
      have c1 := hat 1 (by decide)
      have c2 := hat 2 (by decide)
      have c3 := hat 3 (by decide)
      have c4 := hat 4 (by decide)
      have c5 := hat 5 (by decide)
      have c6 := hat 6 (by decide)
      have c7 := hat 7 (by decide)
      have c8 := hat 8 (by decide)
      have c9 := hat 9 (by decide)
      simp only [R40, Rt.cells, Nat.add_zero, List.getElem?_cons_zero, List.getElem?_cons_succ] at c0 c1 c2 c3 c4 c5 c6 c7 c8 c9
      have HK := Lib.hid (And.intro hlk (And.intro hown (And.intro hb (And.intro hn hx))))
      clear hlk hown hb hn hx hat hr hok
      go_wp2_with (at_builtin; refine halt ?_)
      refine Halted.go ?_
      have hlen : (withAt (L.take k)).length = k := by
        have := HK.out.2.2.2.1
        rw [withAt_length, List.length_take]; omega
      refine Rep.append_one T46 rfl _ _ rfl rfl ((HK.out.2.1.alloc _).alloc _) (x, (k : Int)) (wr.heap.size + 1) 1 rfl (hnewAt ?_) hlen (by unfold maxLen; omega) (by omega) ?_ ?_
      · simp
      · simp; omega
      intro v' w1 hown' hb1 _
      have HO := Lib.hid (And.intro hown' hb1)
      clear hown' hb1 hlen c0 c1 c2 c3 c4 c5 c6 c7 c8 c9
      go_wp2_with fail
      go_roundw
      case rel =>
        refine ⟨k + 1, by omega, by go_num, ?_, ?_⟩
        · rw [HK.out.1]; exact HO.out.1
        · exact ((HK.out.2.2.1.alloc hsz _).alloc (by simp; omega) _).trans HO.out.2
      case measure => simp [intOf]; omega
    · have hf : ¬ ((k : Int) < n) := by omega
      have hkn : L.take k = L := List.take_of_length_le (by omega)
      rw [hkn] at hown
      have hne : withAt L ≠ [] := fun h => hL (List.length_eq_zero_iff.1 (by rw [← withAt_length, h]; rfl))
      have hall : ∀ w', Below B w w' → AllOk w' B (withAt L) := fun w' hw' c hc => by
        have hm : c.1 ∈ L := mem_of_withAt hc
        exact ⟨(hok _ hm).1.below hw', (hok _ hm).2⟩
      rcases hown.cases with ⟨_, he⟩ | ⟨g, cap2, rfl, hg, hgl, h1, h2, -, -, cur, hblk, hcs⟩
      · exact absurd he hne
      obtain ⟨cur1, hr1, -⟩ := RowC.of_owns (base := w.heap.size) hown
      have H0 : LSt B (withAt L) w g cap2 (withAt L) wr := ⟨⟨cur1, hr1⟩, fun _ h => h, hne, hb, hg, fun c hc => hok _ (mem_of_withAt hc), hB⟩
      have S0 := Lib.hid H0
      clear H0 hr1 hne hb hown hkn hblk hcs hr hok hn
      go_wp2_with fail
      refine (lst31 S0.out).mono ?_
      rintro e w1 ⟨rfl, h1⟩
      have S1 := Lib.hid h1
      clear h1
      go_wp2_with fail
      refine (lst32 S1.out).mono ?_
      rintro e w2 ⟨rfl, h1⟩
      have S2 := Lib.hid h1
      clear h1
      go_wp2_with fail
      refine (lst34 S2.out).mono ?_
      rintro e w3 ⟨rfl, h1⟩
      have S3 := Lib.hid h1
      clear h1
      go_wp2_with fail
      refine (lstm S3.out).mono ?_
      rintro e w4 ⟨rfl, h1⟩
      have S4 := Lib.hid h1
      clear h1
      go_wp2_with fail
      go_ret
      have h4 := S4.out
      rw [show keep lookC 3 (keep lookC 2 (keep lookC 1 (keep lookC 0 (withAt L)))) = leftOf L from rfl] at h4 ⊢
      exact ⟨g, cap2, rfl, h4⟩
end Go.Proofs.Ytgainkgbodmciaa
/- An empty slice of routes; Left, Best. -/
namespace Go.Proofs.Ytgainkgbodmciaa
open Go.RowKit

theorem least31_nil (oa : Option Addr) (c : Nat) (w : World) : Calls Try.prog 46 #[.slice oa 0 c, .func (.func 71) #[] #[]] w fun e w' => e = .returned (.slice none 0 0) ∧ Below w.heap.size w w' := by
  go_enter Try.func46, Try.ntmps46
  go_wp2_with fail
  go_ret
  exact ⟨rfl, (Below.refl _ _).alloc (Nat.le_refl _) _⟩
theorem least32_nil (oa : Option Addr) (c : Nat) (w : World) : Calls Try.prog 46 #[.slice oa 0 c, .func (.func 73) #[] #[]] w fun e w' => e = .returned (.slice none 0 0) ∧ Below w.heap.size w w' := by
  go_enter Try.func46, Try.ntmps46
  go_wp2_with fail
  go_ret
  exact ⟨rfl, (Below.refl _ _).alloc (Nat.le_refl _) _⟩
theorem least34_nil (oa : Option Addr) (c : Nat) (w : World) : Calls Try.prog 46 #[.slice oa 0 c, .func (.func 75) #[] #[]] w fun e w' => e = .returned (.slice none 0 0) ∧ Below w.heap.size w w' := by
  go_enter Try.func46, Try.ntmps46
  go_wp2_with fail
  go_ret
  exact ⟨rfl, (Below.refl _ _).alloc (Nat.le_refl _) _⟩
theorem least22_nil (oa : Option Addr) (c : Nat) (w : World) : Calls Try.prog 46 #[.slice oa 0 c, .func (.func 48) #[] #[]] w fun e w' => e = .returned (.slice none 0 0) ∧ Below w.heap.size w w' := by
  go_enter Try.func46, Try.ntmps46
  go_wp2_with fail
  go_ret
  exact ⟨rfl, (Below.refl _ _).alloc (Nat.le_refl _) _⟩
theorem least23_nil (oa : Option Addr) (c : Nat) (w : World) : Calls Try.prog 46 #[.slice oa 0 c, .func (.func 49) #[] #[]] w fun e w' => e = .returned (.slice none 0 0) ∧ Below w.heap.size w w' := by
  go_enter Try.func46, Try.ntmps46
  go_wp2_with fail
  go_ret
  exact ⟨rfl, (Below.refl _ _).alloc (Nat.le_refl _) _⟩
theorem index_nil (oa : Option Addr) (c : Nat) (fv : Value) (w : World) : Calls Try.prog 89 #[.slice oa 0 c, fv] w fun e w' => e = .returned (.int .i64 (-1)) ∧ w' = w := by
  go_enter Try.func89, Try.ntmps89
  go_wp2_with fail
  refine wp_loop_once ?_
  go_wp2_with fail
  go_ret
  exact ⟨rfl, rfl⟩
theorem delete_nil (oa : Option Addr) (c : Nat) (fv : Value) (w : World) : Calls Try.prog 69 #[.slice oa 0 c, fv] w fun e w' => e = .returned (.slice oa 0 c) ∧ w' = w := by
  go_enter Try.func69, Try.ntmps69
  go_wp2_with (go_at_call 89; refine (index_nil _ _ _ _).mono ?_; rintro e w' ⟨rfl, rfl⟩)
  go_ret
  exact ⟨rfl, rfl⟩
theorem meds_nil (w : World) : Calls Try.prog 76 #[.slice none 0 0] w fun e w' => e = .returned (.slice none 0 0) ∧ Below w.heap.size w w' := by
  have hmm := @run_makeMap Try.prog
  go_enter Try.func76, Try.ntmps76
  go_wp2_with fail
  refine wp_loop_once ?_
  go_wp2_with (go_at_call 69; refine (delete_nil _ _ _ _).mono ?_; rintro e w' ⟨rfl, rfl⟩)
  go_ret
  exact ⟨rfl, ((Below.refl _ _).alloc (Nat.le_refl _) _).alloc (by simp) _⟩
theorem left_nil (oa : Option Addr) (c : Nat) (w : World) : Calls Try.prog 47 #[.slice oa 0 c] w fun e w' => e = .returned (.slice none 0 0) ∧ Below w.heap.size w w' := by
  have H31 := Lib.hid (fun w => least31_nil none 0 w)
  have H32 := Lib.hid (fun w => least32_nil none 0 w)
  have H34 := Lib.hid (fun w => least34_nil none 0 w)
  go_enter Try.func47, Try.ntmps47
  go_wp2_with fail
  refine wp_loop_once ?_
  go_wp2_with fail
  refine (H31.out _).mono ?_
  rintro e w1 ⟨rfl, h1⟩
  go_wp2_with fail
  refine (H32.out _).mono ?_
  rintro e w2 ⟨rfl, h2⟩
  go_wp2_with fail
  refine (H34.out _).mono ?_
  rintro e w3 ⟨rfl, h3⟩
  go_wp2_with fail
  refine (meds_nil _).mono ?_
  rintro e w4 ⟨rfl, h4⟩
  go_wp2_with fail
  go_ret
  exact ⟨rfl, ((h1.trans (h2.mono h1.size)).trans (h3.mono (Nat.le_trans h1.size h2.size))).trans (h4.mono (Nat.le_trans (Nat.le_trans h1.size h2.size) h3.size))⟩

end Go.Proofs.Ytgainkgbodmciaa
/- Best, Clone, Delete, Rank. -/
namespace Go.Proofs.Ytgainkgbodmciaa
open Go.RowKit

def bestN (L : List Rt) : Nat := ((cut lookC 6 (withAt L)).headD default).2.toNat
theorem withAt_mem {L : List Rt} {c : Cd} (h : c ∈ withAt L) : ∃ i : Nat, i < L.length ∧ c = (L.getD i default, (i : Int)) := by
  unfold withAt at h
  obtain ⟨p, hp, rfl⟩ := List.mem_map.1 h
  obtain ⟨x, i⟩ := p
  obtain ⟨h1, h2⟩ := List.mem_zipIdx' hp
  exact ⟨i, h1, by simp [List.getD_eq_getElem?_getD, h1, h2]⟩
theorem best_head (L : List Rt) (hL : L ≠ []) : bestN L < L.length ∧ (cut lookC 6 (withAt L)).headD default = (L.getD (bestN L) default, (bestN L : Int)) := by
  have hne : withAt L ≠ [] := fun h => hL (List.length_eq_zero_iff.1 (by rw [← withAt_length, h]; rfl))
  have hc := cut_ne (f := lookC) hne 6
  unfold bestN
  cases hm : cut lookC 6 (withAt L) with
  | nil => exact absurd hm hc
  | cons c r =>
    have hmem : c ∈ withAt L := (cut_sub (f := lookC) (withAt L) 6).subset (by rw [hm]; simp)
    obtain ⟨i, hi, rfl⟩ := withAt_mem hmem
    exact ⟨by simpa using hi, by simp⟩

set_option maxHeartbeats 1000000 in
theorem best_some (b off cap n : Nat) (L : List Rt) (w : World) (B : Nat) (hL : L ≠ []) (hn : L.length = n) (hB : B ≤ w.heap.size) (hr : R40.Row w b off L) (hok : ∀ x ∈ L, RtOk w B x ∧ Small x) (h60 : n ≤ 60) :
    Calls Try.prog 27 #[.slice (some ⟨b, off, none⟩) n cap] w fun e w' => e = .returned (.tuple #[.int .i64 (bestN L), .bool true]) ∧ Below w.heap.size w w' := by
  have HL := Lib.hid (left_some b off cap n L w B hL hn hB hr hok h60)
  have HB := Lib.hid (best_head L hL)
  have hlen : (cut lookC 6 (withAt L)).length ≤ 60 := by
    have := (cut_sub (f := lookC) (withAt L) 6).length_le
    rw [withAt_length] at this; omega
  clear hr hok hL hn
  go_enter Try.func27, Try.ntmps27
  go_wp2_with fail
  refine (HL.out).mono ?_
  rintro e w1 ⟨g, cap', rfl, h1⟩
  have S1 := Lib.hid h1
  clear h1
  go_wp2_with fail
  refine (lst22 S1.out).mono ?_
  rintro e w2 ⟨rfl, h1⟩
  have S2 := Lib.hid h1
  clear h1
  go_wp2_with fail
  refine (lst23 S2.out).mono ?_
  rintro e w3 ⟨rfl, h1⟩
  rw [show keep lookC 5 (keep lookC 4 (leftOf L)) = cut lookC 6 (withAt L) from rfl] at h1
  have hM : cut lookC 6 (withAt L) = cut lookC 6 (withAt L) := rfl
  obtain ⟨m, hm⟩ : ∃ m, m = (cut lookC 6 (withAt L)).length := ⟨_, rfl⟩
  have hm0 : 0 < m := by rw [hm]; exact List.length_pos_iff.2 h1.ne
  obtain ⟨cur, hrow⟩ := h1.row
  have hc := (hrow.at (i := 0) (by omega)).c10
  rw [show (cut lookC 6 (withAt L)).getD 0 default = (cut lookC 6 (withAt L)).headD default by cases cut lookC 6 (withAt L) <;> rfl, HB.out.2] at hc
  dsimp only at hc
  simp only [Nat.zero_mul, Nat.zero_add] at hc
  have S3 := Lib.hid h1.below
  have hmm : (cut lookC 6 (withAt L)).length = m := hm.symm
  rw [show (keep lookC 5 (keep lookC 4 (leftOf L))).length = m from hmm]
  clear h1 hM hrow hmm hm HL
  go_wp2_with fail
  go_ret2
  exact ⟨rfl, S3.out⟩
end Go.Proofs.Ytgainkgbodmciaa
/- Best of an empty slice; Clone, Delete, Rank. -/
namespace Go.Proofs.Ytgainkgbodmciaa
open Go.RowKit

theorem best_nil (oa : Option Addr) (c : Nat) (w : World) : Calls Try.prog 27 #[.slice oa 0 c] w fun e w' => e = .returned (.tuple #[.int .i64 0, .bool false]) ∧ Below w.heap.size w w' := by
  have HL := Lib.hid (left_nil oa c w)
  have H1 := Lib.hid (fun w => least22_nil none 0 w)
  have H2 := Lib.hid (fun w => least23_nil none 0 w)
  go_enter Try.func27, Try.ntmps27
  go_wp2_with fail
  refine (HL.out).mono ?_
  rintro e w1 ⟨rfl, h1⟩
  go_wp2_with fail
  refine (H1.out _).mono ?_
  rintro e w2 ⟨rfl, h2⟩
  go_wp2_with fail
  refine (H2.out _).mono ?_
  rintro e w3 ⟨rfl, h3⟩
  go_wp2_with fail
  go_ret2
  exact ⟨rfl, (h1.trans (h2.mono h1.size)).trans (h3.mono (Nat.le_trans h1.size h2.size))⟩
/-- what is asked of routes that came in -/
structure Ins (w : World) (B : Nat) (L : List Rt) : Prop where
  hB : B ≤ w.heap.size
  ok : ∀ x ∈ L, RtOk w B x ∧ Small x
  h60 : L.length ≤ 60
theorem Ins.below {w w' : World} {B : Nat} {L : List Rt} (h : Ins w B L) (hb : Below B w w') : Ins w' B L := ⟨Nat.le_trans h.hB hb.size, fun x hx => ⟨(h.ok x hx).1.below hb, (h.ok x hx).2⟩, h.h60⟩
theorem Ins.sub {w : World} {B : Nat} {L M : List Rt} (h : Ins w B L) (hs : ∀ x ∈ M, x ∈ L) (hl : M.length ≤ 60) : Ins w B M := ⟨h.hB, fun x hx => h.ok x (hs x hx), hl⟩
theorem sl_nil {w : World} {oa : Option Addr} {n c : Nat} (h : R40.Sl w oa n c []) : n = 0 := h.len
theorem sl_some {w : World} {oa : Option Addr} {n c : Nat} {L : List Rt} (h : R40.Sl w oa n c L) (hL : L ≠ []) : ∃ b off, oa = some ⟨b, off, none⟩ ∧ R40.Row w b off L :=
  h.row (by rw [h.len]; exact List.length_pos_iff.2 hL)
theorem best_any (oa : Option Addr) (n c : Nat) (L : List Rt) (w : World) (B : Nat) (hs : R40.Sl w oa n c L) (hi : Ins w B L) :
    Calls Try.prog 27 #[.slice oa n c] w fun e w' => e = .returned (.tuple #[.int .i64 (bestN L), .bool (!L.isEmpty)]) ∧ Below w.heap.size w w' := by
  cases L with
  | nil => rw [sl_nil hs]; exact best_nil oa c w
  | cons x r =>
    obtain ⟨b, off, rfl, hr⟩ := sl_some hs (by simp)
    exact best_some b off c n (x :: r) w B (by simp) hs.len.symm hi.hB hr hi.ok (by rw [hs.len]; exact hi.h60)
def leftR (L : List Rt) : List Rt := (leftOf L).map Prod.fst
theorem clone_nil (w : World) : Calls Try.prog 50 #[.slice none 0 0] w fun e w' => e = .returned (.slice none 0 0) ∧ w' = w := by
  have hq := fun w oa n c => Lib.run_eql_slice_nil (P := Try.prog) w 28 44 oa n c 0 0 Try.underlying28
  go_enter Try.func50, Try.ntmps50
  go_wp2_with fail
  go_ret
  exact ⟨rfl, rfl⟩
theorem clone_some (ad : Addr) (n c : Nat) (L : List Rt) (w : World) (hs : R40.Sl w (some ad) n c L) (hm : n ≤ 1000) :
    Calls Try.prog 50 #[.slice (some ad) n c] w fun e w' => ∃ v, e = .returned v ∧ R40.Own w' w.heap.size v L ∧ Below w.heap.size w w' := by
  have HS := Lib.hid hs
  clear hs
  have hq := fun w oa n c => Lib.run_eql_slice_nil (P := Try.prog) w 28 44 oa n c 0 0 Try.underlying28
  go_enter Try.func50, Try.ntmps50
  go_wp2_with (at_builtin; refine halt ?_)
  refine Halted.go ?_
  refine Rep.append_list T22 rfl _ _ rfl (base := w.heap.size) (L := []) (M := L) rfl ?_ rfl (HS.out.keep ((Below.refl _ _).alloc (Nat.le_refl _) _)) (by simp) (by unfold maxLen; simp; omega) (by simp; omega) (by simp) ?_
  · exact ⟨rfl, .inr ⟨w.heap.size, 0, #[], rfl, Nat.le_refl _, hnew _ _, Nat.le_refl _, by unfold maxLen; omega, rfl, rfl⟩⟩
  intro v' w1 hown hb _
  have HO := Lib.hid (And.intro hown hb)
  clear hown hb
  go_wp2_with fail
  go_ret
  exact ⟨_, rfl, HO.out.1, ((Below.refl _ _).alloc (Nat.le_refl _) _).trans HO.out.2⟩
theorem clone_any (oa : Option Addr) (n c : Nat) (L : List Rt) (w : World) (hs : R40.Sl w oa n c L) (hc : oa = none → c = 0) (hm : n ≤ 1000) :
    Calls Try.prog 50 #[.slice oa n c] w fun e w' => ∃ v, e = .returned v ∧ R40.Own w' w.heap.size v L ∧ Below w.heap.size w w' := by
  cases oa with
  | none =>
    obtain rfl := hc rfl
    cases L with
    | nil => rw [sl_nil hs]; exact (clone_nil w).mono fun e w' ⟨h1, h2⟩ => ⟨_, h1, Rep.Own.nil _ _, h2 ▸ Below.refl _ _⟩
    | cons x r => obtain ⟨b, off, e, _⟩ := sl_some hs (by simp); cases e
  | some ad => exact clone_some ad n c L w hs hm

theorem zero40 (w : World) : (zeroValue 44).run Try.prog w = .ok (.agg #[.int .i64 0, .int .u32 0, .int .i64 0, .int .i64 0, .int .i64 0, .slice none 0 0, .int .u32 0, .int .i64 0, .int .i64 0, .slice none 0 0]) w := by kernel_rfl
/-- a block of the call's own that holds a list -/
structure Hold (w : World) (g cap : Nat) (L : List Rt) : Prop where
  blk : ∃ cur, w.heap[g]? = some (.cells cur 44 (0, 0)) ∧ cur.size = cap * 10
  row : R40.Row w g 0 L
  le : L.length ≤ cap
  max : cap ≤ maxLen
theorem Hold.keep {w w' : World} {g cap : Nat} {L : List Rt} (h : Hold w g cap L) (e : w'.heap[g]? = w.heap[g]?) : Hold w' g cap L := ⟨by rw [e]; exact h.blk, h.row.keep e, h.le, h.max⟩
set_option maxHeartbeats 1000000 in
theorem delete_any (g cap m i : Nat) (L : List Rt) (w : World) (hn : L.length = m + 1) (hi : i < m + 1) (h : Hold w g cap L) (h60 : m + 1 ≤ 1000) :
    Calls Try.prog 51 #[.slice (some ⟨g, 0, none⟩) (m + 1) cap, .int .i64 i, .int .i64 (i + 1)] w fun e w' => e = .returned (.slice (some ⟨g, 0, none⟩) m cap) ∧ Hold w' g cap (L.eraseIdx i) ∧ But w w' [g] := by
  have hcap : cap ≤ 9223372036854775807 := by have h2 := h.max; unfold maxLen at h2; omega
  have hnc : m + 1 ≤ cap := by have := h.le; omega
  by_cases hic : i + 1 = cap
  · subst hic
    have hmi : i = m := by omega
    subst hmi
    obtain ⟨w1, cur1, e1, hb1, hs1, hr1, hbut1⟩ := Rep.run_append_within (ty := 28) T22 hn h.blk (w := w.drew) ⟨h.row.lt, h.row.get⟩ (cap := (i + 1)) (i := i) (j := i + 1) (by omega) (by omega) (by omega) 0 0 (by omega) ⟨g, 0, none⟩ (by intro h0; omega)
    rw [show i + 0 = i by omega] at e1
    obtain ⟨w2, cur2, e2, hb2, hs2, hg2, hset⟩ := Rep.run_clear_in (P := Try.prog) (k := 10) (ty := 0) Try.underlying28 zero40 rfl (by simp [Value.oneCell', Value.cells]) w1 g i 1 1 (i + 1) cur1 hb1 hs1 (by omega)
    have hb : ((i : Int) == (i : Int) + 1) = false := by rw [beq_eq_false_iff_ne]; omega
    have hF : Hold w2 g (i + 1) (L.eraseIdx i) ∧ But w w2 [g] := by
      have hbw : But w w1 [g] := ⟨hbut1.os, hbut1.tape, hbut1.output, hbut1.size, hbut1.block⟩
      refine ⟨⟨⟨cur2, hb2, by rw [hs2, hs1]; rfl⟩, ?_, by rw [List.length_eraseIdx]; split <;> omega, h.max⟩, hbw.thenSet hset (.inr (by simp))⟩
      rw [List.eraseIdx_eq_take_drop_succ]
      refine ⟨lt_of_blk hb2, fun a ha j hj => ?_⟩
      rw [← hr1.get a ha j hj]
      have hlen : (L.take i ++ L.drop (i + 1)).length = i := by simp; omega
      rw [hlen] at ha
      have hlt : a * 10 + j < i * 10 := by have hj' : j < 10 := hj; omega
      simp only [World.cell?, hb1, hb2, Nat.zero_add]
      exact hg2 _ hlt
    have HF := Lib.hid hF
    have H1 := Lib.hid e1
    have H2 := Lib.hid e2
    have hi1 : i ≤ (i + 1) := by omega
    have hi2 : i ≤ i := by omega
    have hi3 : ((i : Int) + 1).toNat = i + 1 := by omega
    have hi4 : (0 : Int) ≤ (i : Int) + 1 := by omega
    have hi5 : (i : Int) ≤ (i : Nat) := by omega
    have hi6 : (i : Int) ≤ (i : Int) + 1 := by omega
    have hi7 : ((i : Nat) : Int) ≤ ((i : Nat) : Int) + 1 := by omega
    have hi8 : i + 1 ≤ (i + 1) := by omega
    have hi9 : ¬ (i + 1) = i := by omega
    clear hF e1 e2 h hb1 hs1 hr1 hbut1 hb2 hs2 hg2 hset hn
    go_enter Try.func51, Try.ntmps51
    go_wp2_with fail
    refine wp_region_quiet_tail (fun w' => w' = w.drew) 6 (by kernel_rfl) (by kernel_rfl) rfl ?_
    simp only [List.take_succ_cons, List.take_zero, List.drop_succ_cons, List.drop_zero]
    iterate 6 (refine wpQuiet_step (fun K hK => ?_); go_simp; refine hK _ ?_; clear hK K)
    refine wpQuiet_nil ?_
    rintro _ rfl
    refine Rep.step_append rfl _ _ rfl rfl rfl H1.out ?_
    have h2 := H2.out
    go_wp2_with fail
    go_ret
    exact ⟨rfl, HF.out⟩
  · obtain ⟨w1, cur1, e1, hb1, hs1, hr1, hbut1⟩ := Rep.run_append_within (ty := 28) T22 hn h.blk (w := w.drew) ⟨h.row.lt, h.row.get⟩ (cap := cap) (i := i) (j := i + 1) (by omega) (by omega) (by omega) (m - i) (cap - (i + 1)) (by omega) ⟨g, (i + 1) * 10, none⟩ (fun _ => rfl)
    rw [show i + (m - i) = m by omega] at e1
    obtain ⟨w2, cur2, e2, hb2, hs2, hg2, hset⟩ := Rep.run_clear_in (P := Try.prog) (k := 10) (ty := 0) Try.underlying28 zero40 rfl (by simp [Value.oneCell', Value.cells]) w1 g m 1 (cap - m) cap cur1 hb1 hs1 (by omega)
    have hb : ((i : Int) == (i : Int) + 1) = false := by rw [beq_eq_false_iff_ne]; omega
    have hF : Hold w2 g cap (L.eraseIdx i) ∧ But w w2 [g] := by
      have hbw : But w w1 [g] := ⟨hbut1.os, hbut1.tape, hbut1.output, hbut1.size, hbut1.block⟩
      refine ⟨⟨⟨cur2, hb2, by rw [hs2, hs1]; rfl⟩, ?_, by rw [List.length_eraseIdx]; split <;> omega, h.max⟩, hbw.thenSet hset (.inr (by simp))⟩
      rw [List.eraseIdx_eq_take_drop_succ]
      refine ⟨lt_of_blk hb2, fun a ha j hj => ?_⟩
      rw [← hr1.get a ha j hj]
      have hlen : (L.take i ++ L.drop (i + 1)).length = m := by simp; omega
      rw [hlen] at ha
      have hlt : a * 10 + j < m * 10 := by have hj' : j < 10 := hj; omega
      simp only [World.cell?, hb1, hb2, Nat.zero_add]
      exact hg2 _ hlt
    have HF := Lib.hid hF
    have H1 := Lib.hid e1
    have H2 := Lib.hid e2
    have hi1 : i ≤ cap := by omega
    have hi2 : i ≤ m := by omega
    have hi3 : ((i : Int) + 1).toNat = i + 1 := by omega
    have hi4 : (0 : Int) ≤ (i : Int) + 1 := by omega
    have hi5 : (i : Int) ≤ (m : Nat) := by omega
    have hi6 : (i : Int) ≤ (i : Int) + 1 := by omega
    have hi7 : ((m : Nat) : Int) ≤ ((m : Nat) : Int) + 1 := by omega
    have hi8 : m + 1 ≤ cap := by omega
    have hi9 : ¬ cap = m := by omega
    have hi10 : ¬ cap = i + 1 := by omega
    clear hF e1 e2 h hb1 hs1 hr1 hbut1 hb2 hs2 hg2 hset hn
    go_enter Try.func51, Try.ntmps51
    go_wp2_with fail
    refine wp_region_quiet_tail (fun w' => w' = w.drew) 6 (by kernel_rfl) (by kernel_rfl) rfl ?_
    simp only [List.take_succ_cons, List.take_zero, List.drop_succ_cons, List.drop_zero]
    iterate 6 (refine wpQuiet_step (fun K hK => ?_); go_simp; refine hK _ ?_; clear hK K)
    refine wpQuiet_nil ?_
    rintro _ rfl
    refine Rep.step_append rfl _ _ rfl rfl rfl H1.out ?_
    have h2 := H2.out
    go_wp2_with fail
    go_ret
    exact ⟨rfl, HF.out⟩
end Go.Proofs.Ytgainkgbodmciaa
