/- meds: the map of the least Meds, and what is deleted by it. -/
import Derived.Test.YtlgmoiilfigamaaPm
import Derived.Test.YtlgmoiilfigamaaMap
import Derived.Test.YtlgmoiilfigamaaQt
namespace Go.Proofs.Ytlgmoiilfigamaa
open Go.RowKit Go.Maps

def I64 (a : Int) : Prop := -9223372036854775808 ≤ a ∧ a ≤ 9223372036854775807
def KI : MR.Enc Try.prog 3 Int where
  enc := fun a => .int .i64 a
  ok := I64
  law := int_keyed Try.underlying3
  reads := fun a h => ⟨_, keyOf_int_mk Try.underlying3 ((by unfold I64 at h; simp only [Lit.wf, IntKind.min, IntKind.max, IntKind.signed, IntKind.bits, Bool.and_eq_true, decide_eq_true_eq]; simpa using h))⟩
  inj a b h := by injection h
theorem zero3 (w : World) : (zeroValue 3).run Try.prog w = .ok (.int .i64 0) w := by kernel_rfl

set_option maxHeartbeats 1000000 in
theorem neqm (x : Rt) (m v : Int) (bf mb clock : Nat) (l : List (MR.Ent Int)) (w : World) (B : Nat) (hB : B ≤ w.heap.size) (hx : RtOk w B x) (hf : w.heap[bf]? = some (.cells #[.map (some mb)] 62 (0, 0))) (hm : MR.MapAt KI w mb l clock) (hg : (MR.get? l (pfirst x.path)).getD (.int .i64 0) = .int .i64 v) :
    Calls Try.prog 41 #[x.cand m, .pointer (some ⟨bf, 0, none⟩)] w fun e w' => e = .returned (.bool (medOf x != v)) ∧ Below w.heap.size w w' := by
  have HM := Lib.hid (fun w' => med_any x w')
  have HF := Lib.hid (fun w' (h : Below w.heap.size w w') => first_any x w' B (Nat.le_trans hB h.size) (hx.below (h.mono hB)))
  have lf := lt_of_blk hf
  have lm := lt_of_blk hm.blk
  have hok : KI.ok (pfirst x.path) := hx.fr
  have hlk := fun (w' : World) (h : Below (w.heap.size + 1) (w.alloc (.cells #[.int .i64 x.r, .int .u32 x.a, .int .i64 x.l, .int .i64 x.i, .int .i64 x.o, .slice x.pa x.pn x.pc, .int .u32 x.nx, .int .i64 x.md, .int .i64 x.pf, .slice x.ca x.cn x.cc, .int .i64 m] 50)) w') => MR.run_lookup KI (hm.blk_iff KI ((h.block mb (by omega)).trans (hold (w := w) (o := (.cells #[.int .i64 x.r, .int .u32 x.a, .int .i64 x.l, .int .i64 x.i, .int .i64 x.o, .slice x.pa x.pn x.pc, .int .u32 x.nx, .int .i64 x.md, .int .i64 x.pf, .slice x.ca x.cn x.cc, .int .i64 m] 50)) hm.blk |>.trans hm.blk.symm))) hok Try.underlying62 zero3 false
  rw [hg] at hlk
  simp only [KI, Bool.false_eq_true, if_false] at hlk
  have hCF : ∀ w', Below (w.heap.size + 1) (w.alloc (.cells #[.int .i64 x.r, .int .u32 x.a, .int .i64 x.l, .int .i64 x.i, .int .i64 x.o, .slice x.pa x.pn x.pc, .int .u32 x.nx, .int .i64 x.md, .int .i64 x.pf, .slice x.ca x.cn x.cc, .int .i64 m] 50)) w' → w'.cell? ⟨bf, 0, none⟩ = some (.map (some mb)) := fun w' h => (h.cell (p := ⟨bf, 0, none⟩) (by dsimp only; omega)).trans (cell_hold (cell_of hf rfl) _)
  have hCE0 : ∀ w', Below (w.heap.size + 1) (w.alloc (.cells #[.int .i64 x.r, .int .u32 x.a, .int .i64 x.l, .int .i64 x.i, .int .i64 x.o, .slice x.pa x.pn x.pc, .int .u32 x.nx, .int .i64 x.md, .int .i64 x.pf, .slice x.ca x.cn x.cc, .int .i64 m] 50)) w' → w'.cell? ⟨w.heap.size, 0, none⟩ = some (.int .i64 x.r) := fun w' h => (h.cell (p := ⟨w.heap.size, 0, none⟩) (by dsimp only; omega)).trans (cell_of (hnew _ _) rfl)
  have hCE1 : ∀ w', Below (w.heap.size + 1) (w.alloc (.cells #[.int .i64 x.r, .int .u32 x.a, .int .i64 x.l, .int .i64 x.i, .int .i64 x.o, .slice x.pa x.pn x.pc, .int .u32 x.nx, .int .i64 x.md, .int .i64 x.pf, .slice x.ca x.cn x.cc, .int .i64 m] 50)) w' → w'.cell? ⟨w.heap.size, 1, none⟩ = some (.int .u32 x.a) := fun w' h => (h.cell (p := ⟨w.heap.size, 1, none⟩) (by dsimp only; omega)).trans (cell_of (hnew _ _) rfl)
  have hCE2 : ∀ w', Below (w.heap.size + 1) (w.alloc (.cells #[.int .i64 x.r, .int .u32 x.a, .int .i64 x.l, .int .i64 x.i, .int .i64 x.o, .slice x.pa x.pn x.pc, .int .u32 x.nx, .int .i64 x.md, .int .i64 x.pf, .slice x.ca x.cn x.cc, .int .i64 m] 50)) w' → w'.cell? ⟨w.heap.size, 2, none⟩ = some (.int .i64 x.l) := fun w' h => (h.cell (p := ⟨w.heap.size, 2, none⟩) (by dsimp only; omega)).trans (cell_of (hnew _ _) rfl)
  have hCE3 : ∀ w', Below (w.heap.size + 1) (w.alloc (.cells #[.int .i64 x.r, .int .u32 x.a, .int .i64 x.l, .int .i64 x.i, .int .i64 x.o, .slice x.pa x.pn x.pc, .int .u32 x.nx, .int .i64 x.md, .int .i64 x.pf, .slice x.ca x.cn x.cc, .int .i64 m] 50)) w' → w'.cell? ⟨w.heap.size, 3, none⟩ = some (.int .i64 x.i) := fun w' h => (h.cell (p := ⟨w.heap.size, 3, none⟩) (by dsimp only; omega)).trans (cell_of (hnew _ _) rfl)
  have hCE4 : ∀ w', Below (w.heap.size + 1) (w.alloc (.cells #[.int .i64 x.r, .int .u32 x.a, .int .i64 x.l, .int .i64 x.i, .int .i64 x.o, .slice x.pa x.pn x.pc, .int .u32 x.nx, .int .i64 x.md, .int .i64 x.pf, .slice x.ca x.cn x.cc, .int .i64 m] 50)) w' → w'.cell? ⟨w.heap.size, 4, none⟩ = some (.int .i64 x.o) := fun w' h => (h.cell (p := ⟨w.heap.size, 4, none⟩) (by dsimp only; omega)).trans (cell_of (hnew _ _) rfl)
  have hCE5 : ∀ w', Below (w.heap.size + 1) (w.alloc (.cells #[.int .i64 x.r, .int .u32 x.a, .int .i64 x.l, .int .i64 x.i, .int .i64 x.o, .slice x.pa x.pn x.pc, .int .u32 x.nx, .int .i64 x.md, .int .i64 x.pf, .slice x.ca x.cn x.cc, .int .i64 m] 50)) w' → w'.cell? ⟨w.heap.size, 5, none⟩ = some (.slice x.pa x.pn x.pc) := fun w' h => (h.cell (p := ⟨w.heap.size, 5, none⟩) (by dsimp only; omega)).trans (cell_of (hnew _ _) rfl)
  have hCE6 : ∀ w', Below (w.heap.size + 1) (w.alloc (.cells #[.int .i64 x.r, .int .u32 x.a, .int .i64 x.l, .int .i64 x.i, .int .i64 x.o, .slice x.pa x.pn x.pc, .int .u32 x.nx, .int .i64 x.md, .int .i64 x.pf, .slice x.ca x.cn x.cc, .int .i64 m] 50)) w' → w'.cell? ⟨w.heap.size, 6, none⟩ = some (.int .u32 x.nx) := fun w' h => (h.cell (p := ⟨w.heap.size, 6, none⟩) (by dsimp only; omega)).trans (cell_of (hnew _ _) rfl)
  have hCE7 : ∀ w', Below (w.heap.size + 1) (w.alloc (.cells #[.int .i64 x.r, .int .u32 x.a, .int .i64 x.l, .int .i64 x.i, .int .i64 x.o, .slice x.pa x.pn x.pc, .int .u32 x.nx, .int .i64 x.md, .int .i64 x.pf, .slice x.ca x.cn x.cc, .int .i64 m] 50)) w' → w'.cell? ⟨w.heap.size, 7, none⟩ = some (.int .i64 x.md) := fun w' h => (h.cell (p := ⟨w.heap.size, 7, none⟩) (by dsimp only; omega)).trans (cell_of (hnew _ _) rfl)
  have hCE8 : ∀ w', Below (w.heap.size + 1) (w.alloc (.cells #[.int .i64 x.r, .int .u32 x.a, .int .i64 x.l, .int .i64 x.i, .int .i64 x.o, .slice x.pa x.pn x.pc, .int .u32 x.nx, .int .i64 x.md, .int .i64 x.pf, .slice x.ca x.cn x.cc, .int .i64 m] 50)) w' → w'.cell? ⟨w.heap.size, 8, none⟩ = some (.int .i64 x.pf) := fun w' h => (h.cell (p := ⟨w.heap.size, 8, none⟩) (by dsimp only; omega)).trans (cell_of (hnew _ _) rfl)
  have hCE9 : ∀ w', Below (w.heap.size + 1) (w.alloc (.cells #[.int .i64 x.r, .int .u32 x.a, .int .i64 x.l, .int .i64 x.i, .int .i64 x.o, .slice x.pa x.pn x.pc, .int .u32 x.nx, .int .i64 x.md, .int .i64 x.pf, .slice x.ca x.cn x.cc, .int .i64 m] 50)) w' → w'.cell? ⟨w.heap.size, 9, none⟩ = some (.slice x.ca x.cn x.cc) := fun w' h => (h.cell (p := ⟨w.heap.size, 9, none⟩) (by dsimp only; omega)).trans (cell_of (hnew _ _) rfl)
  have hCE10 : ∀ w', Below (w.heap.size + 1) (w.alloc (.cells #[.int .i64 x.r, .int .u32 x.a, .int .i64 x.l, .int .i64 x.i, .int .i64 x.o, .slice x.pa x.pn x.pc, .int .u32 x.nx, .int .i64 x.md, .int .i64 x.pf, .slice x.ca x.cn x.cc, .int .i64 m] 50)) w' → w'.cell? ⟨w.heap.size, 10, none⟩ = some (.int .i64 m) := fun w' h => (h.cell (p := ⟨w.heap.size, 10, none⟩) (by dsimp only; omega)).trans (cell_of (hnew _ _) rfl)
  clear hx hf hm hg hok
  unfold Rt.cand Rt.attrs at *
  go_enter Try.func41, Try.ntmps41
  go_wp2_with fail
  refine wp_region_quiet_tail (fun w' => Below (w.heap.size + 1) (w.alloc (.cells #[.int .i64 x.r, .int .u32 x.a, .int .i64 x.l, .int .i64 x.i, .int .i64 x.o, .slice x.pa x.pn x.pc, .int .u32 x.nx, .int .i64 x.md, .int .i64 x.pf, .slice x.ca x.cn x.cc, .int .i64 m] 50)) w') 11 (by kernel_rfl) (by kernel_rfl) (Below.refl _ _).drew ?_
  simp only [List.take_succ_cons, List.take_zero, List.drop_succ_cons, List.drop_zero]
  iterate 11 (refine wpQuiet_step (fun K hK => ?_); go_simp; first | (refine hK _ ?_; clear hK K) | (apply Exists.intro; refine ⟨fun w' hw' => ?_, hK _ ?_⟩; first | (go_simp; first | exact rfl | exact ⟨rfl, rfl⟩) | (go_at_call 40; refine (HM.out _).mono ?_; rintro e w2 ⟨rfl, hb⟩; exact ⟨rfl, hw'.trans (hb.mono (by have := hw'.size; simp at this; exact this))⟩) | (go_at_call 39; refine (HF.out _ (((Below.refl _ _).alloc (Nat.le_refl _) _).trans (hw'.mono (by simp)))).mono ?_; rintro e w2 ⟨rfl, hb⟩; exact ⟨rfl, hw'.trans (hb.mono (by have := hw'.size; simp at this; exact this))⟩); clear hK K))
  refine wpQuiet_nil ?_
  intro wq hq
  clear hCF hCE0 hCE1 hCE2 hCE3 hCE4 hCE5 hCE6 hCE7 hCE8 hCE9 hCE10 hlk
  go_wp2_with fail
  go_ret
  exact ⟨rfl, ((Below.refl _ _).alloc (Nat.le_refl _) _).trans (hq.mono (by simp))⟩
end Go.Proofs.Ytlgmoiilfigamaa
