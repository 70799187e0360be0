/- Walks: what the criteria look at, as closures over candidates. -/
import Derived.Test.YtlgmoiilfigamaaWa
namespace Go.Proofs.Ytlgmoiilfigamaa
open Go.RowKit

def Rt.cand (x : Rt) (n : Int) : Value := .agg #[.int .i64 x.r, .int .u32 x.a, .int .i64 x.l, .int .i64 x.i, .int .i64 x.o, .slice x.pa x.pn x.pc, .int .u32 x.nx, .int .i64 x.md, .int .i64 x.pf, .slice x.ca x.cn x.cc, .int .i64 n]
theorem length_any (x : Rt) (w : World) (B : Nat) (hB : B ≤ w.heap.size) (hx : RtOk w B x) (hs : Small x) : Calls Try.prog 33 #[x.attrs] w fun e w' => e = .returned (.int .i64 (plen x.path)) ∧ Below w.heap.size w w' := length_walk _ _ _ _ _ _ _ _ _ _ _ w B hB hx.path hs.1 hs.2.2
theorem rlength_any (x : Rt) (w : World) (B : Nat) (hB : B ≤ w.heap.size) (hx : RtOk w B x) (hs : Small x) : Calls Try.prog 42 #[x.attrs] w fun e w' => e = .returned (.int .i64 (plen x.path)) ∧ Below w.heap.size w w' := rlength_walk _ _ _ _ _ _ _ _ _ _ _ w B hB hx.path hs.1 hs.2.2
theorem first_any (x : Rt) (w : World) (B : Nat) (hB : B ≤ w.heap.size) (hx : RtOk w B x) : Calls Try.prog 39 #[x.attrs] w fun e w' => e = .returned (.int .i64 (pfirst x.path)) ∧ Below w.heap.size w w' := first_walk _ _ _ _ _ _ _ _ _ _ _ w B hB hx.path
theorem rfirst_any (x : Rt) (w : World) (B : Nat) (hB : B ≤ w.heap.size) (hx : RtOk w B x) : Calls Try.prog 43 #[x.attrs] w fun e w' => e = .returned (.int .i64 (pfirst x.path)) ∧ Below w.heap.size w w' := rfirst_walk _ _ _ _ _ _ _ _ _ _ _ w B hB hx.path
theorem pref_any (x : Rt) (w : World) : Calls Try.prog 16 #[x.attrs] w fun e w' => e = .returned (.int .i64 (prefOf x)) ∧ Below w.heap.size w w' := pref_walk _ _ _ _ _ _ _ _ _ _ w
theorem rpref_any (x : Rt) (w : World) : Calls Try.prog 17 #[x.attrs] w fun e w' => e = .returned (.int .i64 (prefOf x)) ∧ Below w.heap.size w w' := rpref_walk _ _ _ _ _ _ _ _ _ _ w
theorem med_any (x : Rt) (w : World) : Calls Try.prog 40 #[x.attrs] w fun e w' => e = .returned (.int .i64 (medOf x)) ∧ Below w.heap.size w w' := med_walk _ _ _ _ _ _ _ _ _ _ w
theorem rmed_any (x : Rt) (w : World) : Calls Try.prog 44 #[x.attrs] w fun e w' => e = .returned (.int .i64 (medOf x)) ∧ Below w.heap.size w w' := rmed_walk _ _ _ _ _ _ _ _ _ _ w

theorem rtOk_alloc {w : World} {B : Nat} {x : Rt} (h : RtOk w B x) (hB : B ≤ w.heap.size) (o : Obj) : RtOk (w.alloc o) B x := h.below ((Below.refl B w).alloc hB o)

def f31 (x : Rt) : Int := -prefOf x
theorem of31 (x : Rt) (n : Int) (w : World) (B : Nat) (_hB : B ≤ w.heap.size) (hx : RtOk w B x) (_hs : Small x) : Calls Try.prog 31 #[x.cand n] w fun e w' => e = .returned (.int .i64 (f31 x)) ∧ Below w.heap.size w w' := by
  have hp : prefOf x ≤ 9223372036854775807 ∧ 0 ≤ prefOf x := by have := hx.pf1; unfold prefOf; split <;> omega
  obtain ⟨hp1, hp2⟩ := hp
  have HC := Lib.hid (fun w => pref_any x w)
  clear hx _hs
  unfold Rt.cand Rt.attrs at *
  go_enter Try.func31, Try.ntmps31
  go_wp2_with fail
  refine (HC.out _).mono ?_
  rintro e w1 ⟨rfl, hb⟩
  go_wp2_with fail
  go_ret
  exact ⟨ret_int (by unfold f31; first | rfl | omega), ((Below.refl _ _).alloc (Nat.le_refl _) _).trans (hb.mono (by simp))⟩

def f32 (x : Rt) : Int := plen x.path
theorem of32 (x : Rt) (n : Int) (w : World) (B : Nat) (hB : B ≤ w.heap.size) (hx : RtOk w B x) (hs : Small x) : Calls Try.prog 32 #[x.cand n] w fun e w' => e = .returned (.int .i64 (f32 x)) ∧ Below w.heap.size w w' := by
  have HC := Lib.hid (fun o => length_any x (w.alloc o) B (by simp; omega) (rtOk_alloc hx hB o) hs)
  clear hx hs
  unfold Rt.cand Rt.attrs at *
  go_enter Try.func32, Try.ntmps32
  go_wp2_with fail
  refine (HC.out _).mono ?_
  rintro e w1 ⟨rfl, hb⟩
  go_wp2_with fail
  go_ret
  exact ⟨rfl, ((Below.refl _ _).alloc (Nat.le_refl _) _).trans (hb.mono (by simp))⟩

def f34 (x : Rt) : Int := x.o
theorem of34 (x : Rt) (n : Int) (w : World) (B : Nat) (_hB : B ≤ w.heap.size) (_hx : RtOk w B x) (_hs : Small x) : Calls Try.prog 34 #[x.cand n] w fun e w' => e = .returned (.int .i64 (f34 x)) ∧ Below w.heap.size w w' := by
  clear _hx _hs
  unfold Rt.cand
  go_enter Try.func34, Try.ntmps34
  go_wp2_with fail
  go_ret
  exact ⟨rfl, (Below.refl _ _).alloc (Nat.le_refl _) _⟩

def f22 (x : Rt) : Int := x.r
theorem of22 (x : Rt) (n : Int) (w : World) (B : Nat) (_hB : B ≤ w.heap.size) (_hx : RtOk w B x) (_hs : Small x) : Calls Try.prog 22 #[x.cand n] w fun e w' => e = .returned (.int .i64 (f22 x)) ∧ Below w.heap.size w w' := by
  clear _hx _hs
  unfold Rt.cand
  go_enter Try.func22, Try.ntmps22
  go_wp2_with fail
  go_ret
  exact ⟨rfl, (Below.refl _ _).alloc (Nat.le_refl _) _⟩

def f23 (x : Rt) : Int := x.i
theorem of23 (x : Rt) (n : Int) (w : World) (B : Nat) (_hB : B ≤ w.heap.size) (_hx : RtOk w B x) (_hs : Small x) : Calls Try.prog 23 #[x.cand n] w fun e w' => e = .returned (.int .i64 (f23 x)) ∧ Below w.heap.size w w' := by
  clear _hx _hs
  unfold Rt.cand
  go_enter Try.func23, Try.ntmps23
  go_wp2_with fail
  go_ret
  exact ⟨rfl, (Below.refl _ _).alloc (Nat.le_refl _) _⟩

theorem neq31 (x : Rt) (n best : Int) (bf bb : Nat) (w : World) (B : Nat) (hB : B ≤ w.heap.size) (hx : RtOk w B x) (hs : Small x) (hf : w.heap[bf]? = some (.cells #[.func (.func 31) #[] #[]] 51 (0, 0))) (hb0 : w.heap[bb]? = some (.cells #[.int .i64 best] 3 (0, 0))) :
    Calls Try.prog 30 #[x.cand n, .pointer (some ⟨bf, 0, none⟩), .pointer (some ⟨bb, 0, none⟩)] w fun e w' => e = .returned (.bool (f31 x != best)) ∧ Below w.heap.size w w' := by
  have HC := Lib.hid (fun w' (h : Below w.heap.size w w') => of31 x n w' B (Nat.le_trans hB h.size) (hx.below (h.mono hB)) hs)
  have q1 : ∀ o : Obj, (w.alloc o).cell? ⟨bf, 0, none⟩ = some (.func (.func 31) #[] #[]) := fun o => cell_of (hold hf) rfl
  have q2 : ∀ o : Obj, (w.alloc o).cell? ⟨bb, 0, none⟩ = some (.int .i64 best) := fun o => cell_of (hold hb0) rfl
  have l1 := lt_of_blk hf
  have l2 := lt_of_blk hb0
  clear hx hs hf hb0
  unfold Rt.cand at *
  go_enter Try.func30, Try.ntmps30
  go_wp2_with fail
  go_region_held3 (fun w' => w'.cell? ⟨bf, 0, none⟩ = some (.func (.func 31) #[] #[]) ∧ w'.cell? ⟨bb, 0, none⟩ = some (.int .i64 best) ∧ w'.cell? ⟨w.heap.size, 0, none⟩ = some (.int .i64 x.r) ∧ w'.cell? ⟨w.heap.size, 1, none⟩ = some (.int .u32 x.a) ∧ w'.cell? ⟨w.heap.size, 2, none⟩ = some (.int .i64 x.l) ∧ w'.cell? ⟨w.heap.size, 3, none⟩ = some (.int .i64 x.i) ∧ w'.cell? ⟨w.heap.size, 4, none⟩ = some (.int .i64 x.o) ∧ w'.cell? ⟨w.heap.size, 5, none⟩ = some (.slice x.pa x.pn x.pc) ∧ w'.cell? ⟨w.heap.size, 6, none⟩ = some (.int .u32 x.nx) ∧ w'.cell? ⟨w.heap.size, 7, none⟩ = some (.int .i64 x.md) ∧ w'.cell? ⟨w.heap.size, 8, none⟩ = some (.int .i64 x.pf) ∧ w'.cell? ⟨w.heap.size, 9, none⟩ = some (.slice x.ca x.cn x.cc) ∧ w'.cell? ⟨w.heap.size, 10, none⟩ = some (.int .i64 n)) (first | go_keep | ((repeat' apply And.intro) <;> (refine (hb.cell ?_).trans ?_ <;> first | assumption | (simp; omega) | (simp; done) | (simp [q1, q2]; done)))) ((first | (go_at_call 31; refine (HC.out _ (((Below.refl _ _).alloc (Nat.le_refl _) _).drew)).mono ?_; rintro e w1 ⟨rfl, hb⟩)))
  go_wp2_with fail
  go_ret
  exact ⟨rfl, ((Below.refl _ _).alloc (Nat.le_refl _) _).drew.trans (hb.mono (by simp))⟩

theorem neq32 (x : Rt) (n best : Int) (bf bb : Nat) (w : World) (B : Nat) (hB : B ≤ w.heap.size) (hx : RtOk w B x) (hs : Small x) (hf : w.heap[bf]? = some (.cells #[.func (.func 32) #[] #[]] 51 (0, 0))) (hb0 : w.heap[bb]? = some (.cells #[.int .i64 best] 3 (0, 0))) :
    Calls Try.prog 30 #[x.cand n, .pointer (some ⟨bf, 0, none⟩), .pointer (some ⟨bb, 0, none⟩)] w fun e w' => e = .returned (.bool (f32 x != best)) ∧ Below w.heap.size w w' := by
  have HC := Lib.hid (fun w' (h : Below w.heap.size w w') => of32 x n w' B (Nat.le_trans hB h.size) (hx.below (h.mono hB)) hs)
  have q1 : ∀ o : Obj, (w.alloc o).cell? ⟨bf, 0, none⟩ = some (.func (.func 32) #[] #[]) := fun o => cell_of (hold hf) rfl
  have q2 : ∀ o : Obj, (w.alloc o).cell? ⟨bb, 0, none⟩ = some (.int .i64 best) := fun o => cell_of (hold hb0) rfl
  have l1 := lt_of_blk hf
  have l2 := lt_of_blk hb0
  clear hx hs hf hb0
  unfold Rt.cand at *
  go_enter Try.func30, Try.ntmps30
  go_wp2_with fail
  go_region_held3 (fun w' => w'.cell? ⟨bf, 0, none⟩ = some (.func (.func 32) #[] #[]) ∧ w'.cell? ⟨bb, 0, none⟩ = some (.int .i64 best) ∧ w'.cell? ⟨w.heap.size, 0, none⟩ = some (.int .i64 x.r) ∧ w'.cell? ⟨w.heap.size, 1, none⟩ = some (.int .u32 x.a) ∧ w'.cell? ⟨w.heap.size, 2, none⟩ = some (.int .i64 x.l) ∧ w'.cell? ⟨w.heap.size, 3, none⟩ = some (.int .i64 x.i) ∧ w'.cell? ⟨w.heap.size, 4, none⟩ = some (.int .i64 x.o) ∧ w'.cell? ⟨w.heap.size, 5, none⟩ = some (.slice x.pa x.pn x.pc) ∧ w'.cell? ⟨w.heap.size, 6, none⟩ = some (.int .u32 x.nx) ∧ w'.cell? ⟨w.heap.size, 7, none⟩ = some (.int .i64 x.md) ∧ w'.cell? ⟨w.heap.size, 8, none⟩ = some (.int .i64 x.pf) ∧ w'.cell? ⟨w.heap.size, 9, none⟩ = some (.slice x.ca x.cn x.cc) ∧ w'.cell? ⟨w.heap.size, 10, none⟩ = some (.int .i64 n)) (first | go_keep | ((repeat' apply And.intro) <;> (refine (hb.cell ?_).trans ?_ <;> first | assumption | (simp; omega) | (simp; done) | (simp [q1, q2]; done)))) ((first | (go_at_call 32; refine (HC.out _ (((Below.refl _ _).alloc (Nat.le_refl _) _).drew)).mono ?_; rintro e w1 ⟨rfl, hb⟩)))
  go_wp2_with fail
  go_ret
  exact ⟨rfl, ((Below.refl _ _).alloc (Nat.le_refl _) _).drew.trans (hb.mono (by simp))⟩

theorem neq34 (x : Rt) (n best : Int) (bf bb : Nat) (w : World) (B : Nat) (hB : B ≤ w.heap.size) (hx : RtOk w B x) (hs : Small x) (hf : w.heap[bf]? = some (.cells #[.func (.func 34) #[] #[]] 51 (0, 0))) (hb0 : w.heap[bb]? = some (.cells #[.int .i64 best] 3 (0, 0))) :
    Calls Try.prog 30 #[x.cand n, .pointer (some ⟨bf, 0, none⟩), .pointer (some ⟨bb, 0, none⟩)] w fun e w' => e = .returned (.bool (f34 x != best)) ∧ Below w.heap.size w w' := by
  have HC := Lib.hid (fun w' (h : Below w.heap.size w w') => of34 x n w' B (Nat.le_trans hB h.size) (hx.below (h.mono hB)) hs)
  have q1 : ∀ o : Obj, (w.alloc o).cell? ⟨bf, 0, none⟩ = some (.func (.func 34) #[] #[]) := fun o => cell_of (hold hf) rfl
  have q2 : ∀ o : Obj, (w.alloc o).cell? ⟨bb, 0, none⟩ = some (.int .i64 best) := fun o => cell_of (hold hb0) rfl
  have l1 := lt_of_blk hf
  have l2 := lt_of_blk hb0
  clear hx hs hf hb0
  unfold Rt.cand at *
  go_enter Try.func30, Try.ntmps30
  go_wp2_with fail
  go_region_held3 (fun w' => w'.cell? ⟨bf, 0, none⟩ = some (.func (.func 34) #[] #[]) ∧ w'.cell? ⟨bb, 0, none⟩ = some (.int .i64 best) ∧ w'.cell? ⟨w.heap.size, 0, none⟩ = some (.int .i64 x.r) ∧ w'.cell? ⟨w.heap.size, 1, none⟩ = some (.int .u32 x.a) ∧ w'.cell? ⟨w.heap.size, 2, none⟩ = some (.int .i64 x.l) ∧ w'.cell? ⟨w.heap.size, 3, none⟩ = some (.int .i64 x.i) ∧ w'.cell? ⟨w.heap.size, 4, none⟩ = some (.int .i64 x.o) ∧ w'.cell? ⟨w.heap.size, 5, none⟩ = some (.slice x.pa x.pn x.pc) ∧ w'.cell? ⟨w.heap.size, 6, none⟩ = some (.int .u32 x.nx) ∧ w'.cell? ⟨w.heap.size, 7, none⟩ = some (.int .i64 x.md) ∧ w'.cell? ⟨w.heap.size, 8, none⟩ = some (.int .i64 x.pf) ∧ w'.cell? ⟨w.heap.size, 9, none⟩ = some (.slice x.ca x.cn x.cc) ∧ w'.cell? ⟨w.heap.size, 10, none⟩ = some (.int .i64 n)) (first | go_keep | ((repeat' apply And.intro) <;> (refine (hb.cell ?_).trans ?_ <;> first | assumption | (simp; omega) | (simp; done) | (simp [q1, q2]; done)))) ((first | (go_at_call 34; refine (HC.out _ (((Below.refl _ _).alloc (Nat.le_refl _) _).drew)).mono ?_; rintro e w1 ⟨rfl, hb⟩)))
  go_wp2_with fail
  go_ret
  exact ⟨rfl, ((Below.refl _ _).alloc (Nat.le_refl _) _).drew.trans (hb.mono (by simp))⟩

theorem neq22 (x : Rt) (n best : Int) (bf bb : Nat) (w : World) (B : Nat) (hB : B ≤ w.heap.size) (hx : RtOk w B x) (hs : Small x) (hf : w.heap[bf]? = some (.cells #[.func (.func 22) #[] #[]] 51 (0, 0))) (hb0 : w.heap[bb]? = some (.cells #[.int .i64 best] 3 (0, 0))) :
    Calls Try.prog 30 #[x.cand n, .pointer (some ⟨bf, 0, none⟩), .pointer (some ⟨bb, 0, none⟩)] w fun e w' => e = .returned (.bool (f22 x != best)) ∧ Below w.heap.size w w' := by
  have HC := Lib.hid (fun w' (h : Below w.heap.size w w') => of22 x n w' B (Nat.le_trans hB h.size) (hx.below (h.mono hB)) hs)
  have q1 : ∀ o : Obj, (w.alloc o).cell? ⟨bf, 0, none⟩ = some (.func (.func 22) #[] #[]) := fun o => cell_of (hold hf) rfl
  have q2 : ∀ o : Obj, (w.alloc o).cell? ⟨bb, 0, none⟩ = some (.int .i64 best) := fun o => cell_of (hold hb0) rfl
  have l1 := lt_of_blk hf
  have l2 := lt_of_blk hb0
  clear hx hs hf hb0
  unfold Rt.cand at *
  go_enter Try.func30, Try.ntmps30
  go_wp2_with fail
  go_region_held3 (fun w' => w'.cell? ⟨bf, 0, none⟩ = some (.func (.func 22) #[] #[]) ∧ w'.cell? ⟨bb, 0, none⟩ = some (.int .i64 best) ∧ w'.cell? ⟨w.heap.size, 0, none⟩ = some (.int .i64 x.r) ∧ w'.cell? ⟨w.heap.size, 1, none⟩ = some (.int .u32 x.a) ∧ w'.cell? ⟨w.heap.size, 2, none⟩ = some (.int .i64 x.l) ∧ w'.cell? ⟨w.heap.size, 3, none⟩ = some (.int .i64 x.i) ∧ w'.cell? ⟨w.heap.size, 4, none⟩ = some (.int .i64 x.o) ∧ w'.cell? ⟨w.heap.size, 5, none⟩ = some (.slice x.pa x.pn x.pc) ∧ w'.cell? ⟨w.heap.size, 6, none⟩ = some (.int .u32 x.nx) ∧ w'.cell? ⟨w.heap.size, 7, none⟩ = some (.int .i64 x.md) ∧ w'.cell? ⟨w.heap.size, 8, none⟩ = some (.int .i64 x.pf) ∧ w'.cell? ⟨w.heap.size, 9, none⟩ = some (.slice x.ca x.cn x.cc) ∧ w'.cell? ⟨w.heap.size, 10, none⟩ = some (.int .i64 n)) (first | go_keep | ((repeat' apply And.intro) <;> (refine (hb.cell ?_).trans ?_ <;> first | assumption | (simp; omega) | (simp; done) | (simp [q1, q2]; done)))) ((first | (go_at_call 22; refine (HC.out _ (((Below.refl _ _).alloc (Nat.le_refl _) _).drew)).mono ?_; rintro e w1 ⟨rfl, hb⟩)))
  go_wp2_with fail
  go_ret
  exact ⟨rfl, ((Below.refl _ _).alloc (Nat.le_refl _) _).drew.trans (hb.mono (by simp))⟩

theorem neq23 (x : Rt) (n best : Int) (bf bb : Nat) (w : World) (B : Nat) (hB : B ≤ w.heap.size) (hx : RtOk w B x) (hs : Small x) (hf : w.heap[bf]? = some (.cells #[.func (.func 23) #[] #[]] 51 (0, 0))) (hb0 : w.heap[bb]? = some (.cells #[.int .i64 best] 3 (0, 0))) :
    Calls Try.prog 30 #[x.cand n, .pointer (some ⟨bf, 0, none⟩), .pointer (some ⟨bb, 0, none⟩)] w fun e w' => e = .returned (.bool (f23 x != best)) ∧ Below w.heap.size w w' := by
  have HC := Lib.hid (fun w' (h : Below w.heap.size w w') => of23 x n w' B (Nat.le_trans hB h.size) (hx.below (h.mono hB)) hs)
  have q1 : ∀ o : Obj, (w.alloc o).cell? ⟨bf, 0, none⟩ = some (.func (.func 23) #[] #[]) := fun o => cell_of (hold hf) rfl
  have q2 : ∀ o : Obj, (w.alloc o).cell? ⟨bb, 0, none⟩ = some (.int .i64 best) := fun o => cell_of (hold hb0) rfl
  have l1 := lt_of_blk hf
  have l2 := lt_of_blk hb0
  clear hx hs hf hb0
  unfold Rt.cand at *
  go_enter Try.func30, Try.ntmps30
  go_wp2_with fail
  go_region_held3 (fun w' => w'.cell? ⟨bf, 0, none⟩ = some (.func (.func 23) #[] #[]) ∧ w'.cell? ⟨bb, 0, none⟩ = some (.int .i64 best) ∧ w'.cell? ⟨w.heap.size, 0, none⟩ = some (.int .i64 x.r) ∧ w'.cell? ⟨w.heap.size, 1, none⟩ = some (.int .u32 x.a) ∧ w'.cell? ⟨w.heap.size, 2, none⟩ = some (.int .i64 x.l) ∧ w'.cell? ⟨w.heap.size, 3, none⟩ = some (.int .i64 x.i) ∧ w'.cell? ⟨w.heap.size, 4, none⟩ = some (.int .i64 x.o) ∧ w'.cell? ⟨w.heap.size, 5, none⟩ = some (.slice x.pa x.pn x.pc) ∧ w'.cell? ⟨w.heap.size, 6, none⟩ = some (.int .u32 x.nx) ∧ w'.cell? ⟨w.heap.size, 7, none⟩ = some (.int .i64 x.md) ∧ w'.cell? ⟨w.heap.size, 8, none⟩ = some (.int .i64 x.pf) ∧ w'.cell? ⟨w.heap.size, 9, none⟩ = some (.slice x.ca x.cn x.cc) ∧ w'.cell? ⟨w.heap.size, 10, none⟩ = some (.int .i64 n)) (first | go_keep | ((repeat' apply And.intro) <;> (refine (hb.cell ?_).trans ?_ <;> first | assumption | (simp; omega) | (simp; done) | (simp [q1, q2]; done)))) ((first | (go_at_call 23; refine (HC.out _ (((Below.refl _ _).alloc (Nat.le_refl _) _).drew)).mono ?_; rintro e w1 ⟨rfl, hb⟩)))
  go_wp2_with fail
  go_ret
  exact ⟨rfl, ((Below.refl _ _).alloc (Nat.le_refl _) _).drew.trans (hb.mono (by simp))⟩
end Go.Proofs.Ytlgmoiilfigamaa
