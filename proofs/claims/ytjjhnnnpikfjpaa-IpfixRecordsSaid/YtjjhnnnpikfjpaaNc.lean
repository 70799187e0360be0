/- A number's bytes. -/
import Derived.Test.YtjjhnnnpikfjpaaNb
namespace Go.Proofs.Ytjjhnnnpikfjpaa
open Go.RowKit

/-- a number's bytes, the great one first -/
def be : Nat → Nat → List Nat
  | 0, _ => []
  | k + 1, n => be k (n / 256) ++ [n % 256]
theorem be_length (k n : Nat) : (be k n).length = k := by
  induction k generalizing n with
  | zero => rfl
  | succ k ih => simp [be, ih]
theorem be_bytes (k n : Nat) : Bytes (be k n) := by
  induction k generalizing n with
  | zero => intro b hb; cases hb
  | succ k ih =>
    intro b hb
    rcases List.mem_append.1 hb with h | h
    · exact ih _ b h
    · rw [List.mem_singleton.1 h]; omega
theorem getN_be (k n : Nat) (h : n < 256 ^ k) : getN (be k n) = n := by
  induction k generalizing n with
  | zero => simp only [Nat.pow_zero] at h; simp [be, getN]; omega
  | succ k ih =>
    rw [be, getN_snoc, ih]
    · omega
    · rw [Nat.pow_succ] at h; omega
theorem own2 {w : World} {base g n : Nat} (hb : base ≤ g) (h : w.heap[g]? = some (.cells #[.int .u8 ((n / 256 % 256 : Nat) : Int), .int .u8 ((n % 256 : Nat) : Int)] 5)) : RB.Own w base (.slice (some ⟨g, 0, none⟩) 2 2) (be 2 n) := by
  have hl : (be 2 n).length = 2 := be_length _ _
  have hf : RB.flat (be 2 n) = (#[.int .u8 ((n / 256 % 256 : Nat) : Int), .int .u8 ((n % 256 : Nat) : Int)] : Array Value).toList := by
    simp only [be, List.nil_append, List.cons_append, RB, Rep.flat, List.flatMap_cons, List.flatMap_nil, List.append_nil]
  unfold Rep.Own
  rw [hl, hf]
  refine ⟨rfl, .inr ⟨g, 2, _, rfl, hb, h, Nat.le_refl _, by unfold maxLen; omega, rfl, rfl⟩⟩
theorem own4 {w : World} {base g n : Nat} (hb : base ≤ g) (h : w.heap[g]? = some (.cells #[.int .u8 ((n / 16777216 % 256 : Nat) : Int), .int .u8 ((n / 65536 % 256 : Nat) : Int), .int .u8 ((n / 256 % 256 : Nat) : Int), .int .u8 ((n % 256 : Nat) : Int)] 5)) : RB.Own w base (.slice (some ⟨g, 0, none⟩) 4 4) (be 4 n) := by
  have hl : (be 4 n).length = 4 := be_length _ _
  have hf : RB.flat (be 4 n) = (#[.int .u8 ((n / 16777216 % 256 : Nat) : Int), .int .u8 ((n / 65536 % 256 : Nat) : Int), .int .u8 ((n / 256 % 256 : Nat) : Int), .int .u8 ((n % 256 : Nat) : Int)] : Array Value).toList := by
    simp only [be, List.nil_append, List.cons_append, RB, Rep.flat, List.flatMap_cons, List.flatMap_nil, List.append_nil, Nat.div_div_eq_div_mul]
  unfold Rep.Own
  rw [hl, hf]
  refine ⟨rfl, .inr ⟨g, 4, _, rfl, hb, h, Nat.le_refl _, by unfold maxLen; omega, rfl, rfl⟩⟩
set_option maxRecDepth 100000 in
set_option maxHeartbeats 400000 in
theorem put2_any (n : Nat) (hn : n < 65536) (w : World) : Calls Try.prog 47 #[.int .i64 n, .int .i64 2] w fun e w' => ∃ v, e = .returned (.tuple #[v, .int .i64 0]) ∧ RB.Own w' w.heap.size v (be 2 n) ∧ Below w.heap.size w w' := by
  have hmk : ∀ w : World, (Instr.makeSlice 27 (.int .i64 2) (.int .i64 2)).run Try.prog w = .ok (.slice (some ⟨w.heap.size, 0, none⟩) 2 2) (w.alloc (.cells #[.int .u8 0, .int .u8 0] 5)) := fun _ => by kernel_rfl
  have hq : (n : Int) / 65536 = 0 := by omega
  have hq0 : ((n : Int) < 0) = False := by simp only [eq_iff_iff, iff_false]; omega
  go_enter Try.func47, Try.ntmps47
  go_wp2_with fail
  clear hq hq0
  have hw1 : ∃ w1, w1 = w.alloc (.cells #[.int .u8 0, .int .u8 0] 5) := ⟨_, rfl⟩
  obtain ⟨w1, hw1⟩ := hw1
  have hb1 : Below w.heap.size w w1 := by rw [hw1]; exact (Below.refl w.heap.size w).alloc (Nat.le_refl _) _
  have hc1 : w1.heap[w.heap.size]? = some (.cells #[.int .u8 0, .int .u8 0] 5) := by rw [hw1]; exact hnew _ _
  rw [← hw1]
  clear hw1 hmk
  go_loopw [27] (fun iv wr => Below w.heap.size w wr ∧ ((iv = .int .i64 0 ∧ wr.heap[w.heap.size]? = some (.cells #[.int .u8 0, .int .u8 0] 5)) ∨ (iv = .int .i64 1 ∧ wr.heap[w.heap.size]? = some (.cells #[.int .u8 ((n / 256 % 256 : Nat) : Int), .int .u8 0] 5)) ∨ (iv = .int .i64 2 ∧ wr.heap[w.heap.size]? = some (.cells #[.int .u8 ((n / 256 % 256 : Nat) : Int), .int .u8 ((n % 256 : Nat) : Int)] 5)))) (fun iv _ => 2 - (intOf iv).toNat)
  case atStart => exact ⟨hb1, .inl ⟨rfl, hc1⟩⟩
  case round =>
    obtain ⟨hbr, hrel⟩ := hrel
    rcases hrel with ⟨rfl, hcr⟩ | ⟨rfl, hcr⟩ | ⟨rfl, hcr⟩
    · have e0 : ∀ o, wr.frozen? ⟨w.heap.size, o, none⟩ = false := fun o => free_of hcr
      have c0 : wr.cell? ⟨w.heap.size, 0, none⟩ = some ((.int .u8 0)) := cell_of hcr rfl
      have c1 : wr.cell? ⟨w.heap.size, 1, none⟩ = some ((.int .u8 0)) := cell_of hcr rfl
      go_wp2_with fail
      go_roundw
      case rel =>
        refine ⟨hbr.trans (((SetB.self hcr).store (o := 0) (lt_of_blk hcr) _).below (Nat.le_refl _)), .inr (.inl ⟨rfl, (((SetB.self hcr).store (o := 0) (lt_of_blk hcr) _).at (lt_of_blk hcr)).trans ?_⟩)⟩
        simp only [List.setIfInBounds_toArray, List.set_cons_zero, Option.some.injEq, Obj.cells.injEq, and_true, true_and, Array.mk.injEq, List.cons.injEq, Value.int.injEq]
        omega
      case measure => simp [intOf]
    · have e0 : ∀ o, wr.frozen? ⟨w.heap.size, o, none⟩ = false := fun o => free_of hcr
      have c0 : wr.cell? ⟨w.heap.size, 0, none⟩ = some ((.int .u8 ((n / 256 % 256 : Nat) : Int))) := cell_of hcr rfl
      have c1 : wr.cell? ⟨w.heap.size, 1, none⟩ = some ((.int .u8 0)) := cell_of hcr rfl
      go_wp2_with fail
      go_roundw
      case rel =>
        refine ⟨hbr.trans (((SetB.self hcr).store (o := 1) (lt_of_blk hcr) _).below (Nat.le_refl _)), .inr (.inr (⟨rfl, (((SetB.self hcr).store (o := 1) (lt_of_blk hcr) _).at (lt_of_blk hcr)).trans ?_⟩))⟩
        simp only [List.setIfInBounds_toArray, List.set_cons_zero, List.set_cons_succ, Option.some.injEq, Obj.cells.injEq, and_true, true_and, Array.mk.injEq, List.cons.injEq, Value.int.injEq]
        omega
      case measure => simp [intOf]
    · go_wp2_with fail
      go_ret2
      exact ⟨_, rfl, own2 (Nat.le_refl _) hcr, hbr⟩
set_option maxRecDepth 100000 in
set_option maxHeartbeats 400000 in
theorem put4_any (n : Nat) (hn : n < 4294967296) (w : World) : Calls Try.prog 47 #[.int .i64 n, .int .i64 4] w fun e w' => ∃ v, e = .returned (.tuple #[v, .int .i64 0]) ∧ RB.Own w' w.heap.size v (be 4 n) ∧ Below w.heap.size w w' := by
  have hmk : ∀ w : World, (Instr.makeSlice 27 (.int .i64 4) (.int .i64 4)).run Try.prog w = .ok (.slice (some ⟨w.heap.size, 0, none⟩) 4 4) (w.alloc (.cells #[.int .u8 0, .int .u8 0, .int .u8 0, .int .u8 0] 5)) := fun _ => by kernel_rfl
  have hq : (n : Int) / 4294967296 = 0 := by omega
  have hq0 : ((n : Int) < 0) = False := by simp only [eq_iff_iff, iff_false]; omega
  go_enter Try.func47, Try.ntmps47
  go_wp2_with fail
  clear hq hq0
  have hw1 : ∃ w1, w1 = w.alloc (.cells #[.int .u8 0, .int .u8 0, .int .u8 0, .int .u8 0] 5) := ⟨_, rfl⟩
  obtain ⟨w1, hw1⟩ := hw1
  have hb1 : Below w.heap.size w w1 := by rw [hw1]; exact (Below.refl w.heap.size w).alloc (Nat.le_refl _) _
  have hc1 : w1.heap[w.heap.size]? = some (.cells #[.int .u8 0, .int .u8 0, .int .u8 0, .int .u8 0] 5) := by rw [hw1]; exact hnew _ _
  rw [← hw1]
  clear hw1 hmk
  go_loopw [27] (fun iv wr => Below w.heap.size w wr ∧ ((iv = .int .i64 0 ∧ wr.heap[w.heap.size]? = some (.cells #[.int .u8 0, .int .u8 0, .int .u8 0, .int .u8 0] 5)) ∨ (iv = .int .i64 1 ∧ wr.heap[w.heap.size]? = some (.cells #[.int .u8 ((n / 16777216 % 256 : Nat) : Int), .int .u8 0, .int .u8 0, .int .u8 0] 5)) ∨ (iv = .int .i64 2 ∧ wr.heap[w.heap.size]? = some (.cells #[.int .u8 ((n / 16777216 % 256 : Nat) : Int), .int .u8 ((n / 65536 % 256 : Nat) : Int), .int .u8 0, .int .u8 0] 5)) ∨ (iv = .int .i64 3 ∧ wr.heap[w.heap.size]? = some (.cells #[.int .u8 ((n / 16777216 % 256 : Nat) : Int), .int .u8 ((n / 65536 % 256 : Nat) : Int), .int .u8 ((n / 256 % 256 : Nat) : Int), .int .u8 0] 5)) ∨ (iv = .int .i64 4 ∧ wr.heap[w.heap.size]? = some (.cells #[.int .u8 ((n / 16777216 % 256 : Nat) : Int), .int .u8 ((n / 65536 % 256 : Nat) : Int), .int .u8 ((n / 256 % 256 : Nat) : Int), .int .u8 ((n % 256 : Nat) : Int)] 5)))) (fun iv _ => 4 - (intOf iv).toNat)
  case atStart => exact ⟨hb1, .inl ⟨rfl, hc1⟩⟩
  case round =>
    obtain ⟨hbr, hrel⟩ := hrel
    rcases hrel with ⟨rfl, hcr⟩ | ⟨rfl, hcr⟩ | ⟨rfl, hcr⟩ | ⟨rfl, hcr⟩ | ⟨rfl, hcr⟩
    · have e0 : ∀ o, wr.frozen? ⟨w.heap.size, o, none⟩ = false := fun o => free_of hcr
      have c0 : wr.cell? ⟨w.heap.size, 0, none⟩ = some ((.int .u8 0)) := cell_of hcr rfl
      have c1 : wr.cell? ⟨w.heap.size, 1, none⟩ = some ((.int .u8 0)) := cell_of hcr rfl
      have c2 : wr.cell? ⟨w.heap.size, 2, none⟩ = some ((.int .u8 0)) := cell_of hcr rfl
      have c3 : wr.cell? ⟨w.heap.size, 3, none⟩ = some ((.int .u8 0)) := cell_of hcr rfl
      go_wp2_with fail
      go_roundw
      case rel =>
        refine ⟨hbr.trans (((SetB.self hcr).store (o := 0) (lt_of_blk hcr) _).below (Nat.le_refl _)), .inr (.inl ⟨rfl, (((SetB.self hcr).store (o := 0) (lt_of_blk hcr) _).at (lt_of_blk hcr)).trans ?_⟩)⟩
        simp only [List.setIfInBounds_toArray, List.set_cons_zero, Option.some.injEq, Obj.cells.injEq, and_true, true_and, Array.mk.injEq, List.cons.injEq, Value.int.injEq]
        omega
      case measure => simp [intOf]
    · have e0 : ∀ o, wr.frozen? ⟨w.heap.size, o, none⟩ = false := fun o => free_of hcr
      have c0 : wr.cell? ⟨w.heap.size, 0, none⟩ = some ((.int .u8 ((n / 16777216 % 256 : Nat) : Int))) := cell_of hcr rfl
      have c1 : wr.cell? ⟨w.heap.size, 1, none⟩ = some ((.int .u8 0)) := cell_of hcr rfl
      have c2 : wr.cell? ⟨w.heap.size, 2, none⟩ = some ((.int .u8 0)) := cell_of hcr rfl
      have c3 : wr.cell? ⟨w.heap.size, 3, none⟩ = some ((.int .u8 0)) := cell_of hcr rfl
      go_wp2_with fail
      go_roundw
      case rel =>
        refine ⟨hbr.trans (((SetB.self hcr).store (o := 1) (lt_of_blk hcr) _).below (Nat.le_refl _)), .inr (.inr (.inl ⟨rfl, (((SetB.self hcr).store (o := 1) (lt_of_blk hcr) _).at (lt_of_blk hcr)).trans ?_⟩))⟩
        simp only [List.setIfInBounds_toArray, List.set_cons_zero, List.set_cons_succ, Option.some.injEq, Obj.cells.injEq, and_true, true_and, Array.mk.injEq, List.cons.injEq, Value.int.injEq]
        omega
      case measure => simp [intOf]
    · have e0 : ∀ o, wr.frozen? ⟨w.heap.size, o, none⟩ = false := fun o => free_of hcr
      have c0 : wr.cell? ⟨w.heap.size, 0, none⟩ = some ((.int .u8 ((n / 16777216 % 256 : Nat) : Int))) := cell_of hcr rfl
      have c1 : wr.cell? ⟨w.heap.size, 1, none⟩ = some ((.int .u8 ((n / 65536 % 256 : Nat) : Int))) := cell_of hcr rfl
      have c2 : wr.cell? ⟨w.heap.size, 2, none⟩ = some ((.int .u8 0)) := cell_of hcr rfl
      have c3 : wr.cell? ⟨w.heap.size, 3, none⟩ = some ((.int .u8 0)) := cell_of hcr rfl
      go_wp2_with fail
      go_roundw
      case rel =>
        refine ⟨hbr.trans (((SetB.self hcr).store (o := 2) (lt_of_blk hcr) _).below (Nat.le_refl _)), .inr (.inr (.inr (.inl ⟨rfl, (((SetB.self hcr).store (o := 2) (lt_of_blk hcr) _).at (lt_of_blk hcr)).trans ?_⟩)))⟩
        simp only [List.setIfInBounds_toArray, List.set_cons_zero, List.set_cons_succ, Option.some.injEq, Obj.cells.injEq, and_true, true_and, Array.mk.injEq, List.cons.injEq, Value.int.injEq]
        omega
      case measure => simp [intOf]
    · have e0 : ∀ o, wr.frozen? ⟨w.heap.size, o, none⟩ = false := fun o => free_of hcr
      have c0 : wr.cell? ⟨w.heap.size, 0, none⟩ = some ((.int .u8 ((n / 16777216 % 256 : Nat) : Int))) := cell_of hcr rfl
      have c1 : wr.cell? ⟨w.heap.size, 1, none⟩ = some ((.int .u8 ((n / 65536 % 256 : Nat) : Int))) := cell_of hcr rfl
      have c2 : wr.cell? ⟨w.heap.size, 2, none⟩ = some ((.int .u8 ((n / 256 % 256 : Nat) : Int))) := cell_of hcr rfl
      have c3 : wr.cell? ⟨w.heap.size, 3, none⟩ = some ((.int .u8 0)) := cell_of hcr rfl
      go_wp2_with fail
      go_roundw
      case rel =>
        refine ⟨hbr.trans (((SetB.self hcr).store (o := 3) (lt_of_blk hcr) _).below (Nat.le_refl _)), .inr (.inr (.inr (.inr (⟨rfl, (((SetB.self hcr).store (o := 3) (lt_of_blk hcr) _).at (lt_of_blk hcr)).trans ?_⟩))))⟩
        simp only [List.setIfInBounds_toArray, List.set_cons_zero, List.set_cons_succ, Option.some.injEq, Obj.cells.injEq, and_true, true_and, Array.mk.injEq, List.cons.injEq, Value.int.injEq]
        omega
      case measure => simp [intOf]
    · go_wp2_with fail
      go_ret2
      exact ⟨_, rfl, own4 (Nat.le_refl _) hcr, hbr⟩
set_option maxRecDepth 100000 in
set_option maxHeartbeats 400000 in
theorem rput2_any (n : Nat) (hn : n < 65536) (w : World) : Calls Try.prog 51 #[.int .i64 n, .int .i64 2] w fun e w' => ∃ v, e = .returned v ∧ RB.Own w' w.heap.size v (be 2 n) ∧ Below w.heap.size w w' := by
  have hmk : ∀ w : World, (Instr.makeSlice 27 (.int .i64 2) (.int .i64 2)).run Try.prog w = .ok (.slice (some ⟨w.heap.size, 0, none⟩) 2 2) (w.alloc (.cells #[.int .u8 0, .int .u8 0] 5)) := fun _ => by kernel_rfl
  go_enter Try.func51, Try.ntmps51
  go_wp2_with fail
  have hw1 : ∃ w1, w1 = w.alloc (.cells #[.int .u8 0, .int .u8 0] 5) := ⟨_, rfl⟩
  obtain ⟨w1, hw1⟩ := hw1
  have hb1 : Below w.heap.size w w1 := by rw [hw1]; exact (Below.refl w.heap.size w).alloc (Nat.le_refl _) _
  have hc1 : w1.heap[w.heap.size]? = some (.cells #[.int .u8 0, .int .u8 0] 5) := by rw [hw1]; exact hnew _ _
  rw [← hw1]
  clear hw1 hmk
  go_loopw [0, 6] (fun nv iv wr => Below w.heap.size w wr ∧ ((nv = .int .i64 ((n / 1 : Nat) : Int) ∧ iv = .int .i64 (1) ∧ wr.heap[w.heap.size]? = some (.cells #[.int .u8 0, .int .u8 0] 5)) ∨ (nv = .int .i64 ((n / 256 : Nat) : Int) ∧ iv = .int .i64 (0) ∧ wr.heap[w.heap.size]? = some (.cells #[.int .u8 0, .int .u8 ((n % 256 : Nat) : Int)] 5)) ∨ (nv = .int .i64 ((n / 65536 : Nat) : Int) ∧ iv = .int .i64 (-1) ∧ wr.heap[w.heap.size]? = some (.cells #[.int .u8 ((n / 256 % 256 : Nat) : Int), .int .u8 ((n % 256 : Nat) : Int)] 5)))) (fun _ iv _ => (intOf iv + 1).toNat)
  case atStart => exact ⟨hb1, .inl ⟨by simp, rfl, hc1⟩⟩
  case round =>
    obtain ⟨hbr, hrel⟩ := hrel
    rcases hrel with ⟨rfl, rfl, hcr⟩ | ⟨rfl, rfl, hcr⟩ | ⟨rfl, rfl, hcr⟩
    · have e0 : ∀ o, wr.frozen? ⟨w.heap.size, o, none⟩ = false := fun o => free_of hcr
      have c0 : wr.cell? ⟨w.heap.size, 0, none⟩ = some ((.int .u8 0)) := cell_of hcr rfl
      have c1 : wr.cell? ⟨w.heap.size, 1, none⟩ = some ((.int .u8 0)) := cell_of hcr rfl
      go_wp2_with fail
      go_roundw
      case rel =>
        refine ⟨hbr.trans (((SetB.self hcr).store (o := 1) (lt_of_blk hcr) _).below (Nat.le_refl _)), .inr (.inl ⟨by simp only [Value.int.injEq, true_and]; omega, rfl, (((SetB.self hcr).store (o := 1) (lt_of_blk hcr) _).at (lt_of_blk hcr)).trans ?_⟩)⟩
        simp only [List.setIfInBounds_toArray, List.set_cons_zero, List.set_cons_succ, Option.some.injEq, Obj.cells.injEq, and_true, true_and, Array.mk.injEq, List.cons.injEq, Value.int.injEq]
        omega
      case measure => simp [intOf]
    · have e0 : ∀ o, wr.frozen? ⟨w.heap.size, o, none⟩ = false := fun o => free_of hcr
      have c0 : wr.cell? ⟨w.heap.size, 0, none⟩ = some ((.int .u8 0)) := cell_of hcr rfl
      have c1 : wr.cell? ⟨w.heap.size, 1, none⟩ = some ((.int .u8 ((n % 256 : Nat) : Int))) := cell_of hcr rfl
      go_wp2_with fail
      go_roundw
      case rel =>
        refine ⟨hbr.trans (((SetB.self hcr).store (o := 0) (lt_of_blk hcr) _).below (Nat.le_refl _)), .inr (.inr (⟨by simp only [Value.int.injEq, true_and]; omega, rfl, (((SetB.self hcr).store (o := 0) (lt_of_blk hcr) _).at (lt_of_blk hcr)).trans ?_⟩))⟩
        simp only [List.setIfInBounds_toArray, List.set_cons_zero, Option.some.injEq, Obj.cells.injEq, and_true, true_and, Array.mk.injEq, List.cons.injEq, Value.int.injEq]
        omega
      case measure => simp [intOf]
    · go_wp2_with fail
      go_ret
      exact ⟨_, rfl, own2 (Nat.le_refl _) hcr, hbr⟩
set_option maxRecDepth 100000 in
set_option maxHeartbeats 400000 in
theorem rput4_any (n : Nat) (hn : n < 4294967296) (w : World) : Calls Try.prog 51 #[.int .i64 n, .int .i64 4] w fun e w' => ∃ v, e = .returned v ∧ RB.Own w' w.heap.size v (be 4 n) ∧ Below w.heap.size w w' := by
  have hmk : ∀ w : World, (Instr.makeSlice 27 (.int .i64 4) (.int .i64 4)).run Try.prog w = .ok (.slice (some ⟨w.heap.size, 0, none⟩) 4 4) (w.alloc (.cells #[.int .u8 0, .int .u8 0, .int .u8 0, .int .u8 0] 5)) := fun _ => by kernel_rfl
  go_enter Try.func51, Try.ntmps51
  go_wp2_with fail
  have hw1 : ∃ w1, w1 = w.alloc (.cells #[.int .u8 0, .int .u8 0, .int .u8 0, .int .u8 0] 5) := ⟨_, rfl⟩
  obtain ⟨w1, hw1⟩ := hw1
  have hb1 : Below w.heap.size w w1 := by rw [hw1]; exact (Below.refl w.heap.size w).alloc (Nat.le_refl _) _
  have hc1 : w1.heap[w.heap.size]? = some (.cells #[.int .u8 0, .int .u8 0, .int .u8 0, .int .u8 0] 5) := by rw [hw1]; exact hnew _ _
  rw [← hw1]
  clear hw1 hmk
  go_loopw [0, 6] (fun nv iv wr => Below w.heap.size w wr ∧ ((nv = .int .i64 ((n / 1 : Nat) : Int) ∧ iv = .int .i64 (3) ∧ wr.heap[w.heap.size]? = some (.cells #[.int .u8 0, .int .u8 0, .int .u8 0, .int .u8 0] 5)) ∨ (nv = .int .i64 ((n / 256 : Nat) : Int) ∧ iv = .int .i64 (2) ∧ wr.heap[w.heap.size]? = some (.cells #[.int .u8 0, .int .u8 0, .int .u8 0, .int .u8 ((n % 256 : Nat) : Int)] 5)) ∨ (nv = .int .i64 ((n / 65536 : Nat) : Int) ∧ iv = .int .i64 (1) ∧ wr.heap[w.heap.size]? = some (.cells #[.int .u8 0, .int .u8 0, .int .u8 ((n / 256 % 256 : Nat) : Int), .int .u8 ((n % 256 : Nat) : Int)] 5)) ∨ (nv = .int .i64 ((n / 16777216 : Nat) : Int) ∧ iv = .int .i64 (0) ∧ wr.heap[w.heap.size]? = some (.cells #[.int .u8 0, .int .u8 ((n / 65536 % 256 : Nat) : Int), .int .u8 ((n / 256 % 256 : Nat) : Int), .int .u8 ((n % 256 : Nat) : Int)] 5)) ∨ (nv = .int .i64 ((n / 4294967296 : Nat) : Int) ∧ iv = .int .i64 (-1) ∧ wr.heap[w.heap.size]? = some (.cells #[.int .u8 ((n / 16777216 % 256 : Nat) : Int), .int .u8 ((n / 65536 % 256 : Nat) : Int), .int .u8 ((n / 256 % 256 : Nat) : Int), .int .u8 ((n % 256 : Nat) : Int)] 5)))) (fun _ iv _ => (intOf iv + 1).toNat)
  case atStart => exact ⟨hb1, .inl ⟨by simp, rfl, hc1⟩⟩
  case round =>
    obtain ⟨hbr, hrel⟩ := hrel
    rcases hrel with ⟨rfl, rfl, hcr⟩ | ⟨rfl, rfl, hcr⟩ | ⟨rfl, rfl, hcr⟩ | ⟨rfl, rfl, hcr⟩ | ⟨rfl, rfl, hcr⟩
    · have e0 : ∀ o, wr.frozen? ⟨w.heap.size, o, none⟩ = false := fun o => free_of hcr
      have c0 : wr.cell? ⟨w.heap.size, 0, none⟩ = some ((.int .u8 0)) := cell_of hcr rfl
      have c1 : wr.cell? ⟨w.heap.size, 1, none⟩ = some ((.int .u8 0)) := cell_of hcr rfl
      have c2 : wr.cell? ⟨w.heap.size, 2, none⟩ = some ((.int .u8 0)) := cell_of hcr rfl
      have c3 : wr.cell? ⟨w.heap.size, 3, none⟩ = some ((.int .u8 0)) := cell_of hcr rfl
      go_wp2_with fail
      go_roundw
      case rel =>
        refine ⟨hbr.trans (((SetB.self hcr).store (o := 3) (lt_of_blk hcr) _).below (Nat.le_refl _)), .inr (.inl ⟨by simp only [Value.int.injEq, true_and]; omega, rfl, (((SetB.self hcr).store (o := 3) (lt_of_blk hcr) _).at (lt_of_blk hcr)).trans ?_⟩)⟩
        simp only [List.setIfInBounds_toArray, List.set_cons_zero, List.set_cons_succ, Option.some.injEq, Obj.cells.injEq, and_true, true_and, Array.mk.injEq, List.cons.injEq, Value.int.injEq]
        omega
      case measure => simp [intOf]
    · have e0 : ∀ o, wr.frozen? ⟨w.heap.size, o, none⟩ = false := fun o => free_of hcr
      have c0 : wr.cell? ⟨w.heap.size, 0, none⟩ = some ((.int .u8 0)) := cell_of hcr rfl
      have c1 : wr.cell? ⟨w.heap.size, 1, none⟩ = some ((.int .u8 0)) := cell_of hcr rfl
      have c2 : wr.cell? ⟨w.heap.size, 2, none⟩ = some ((.int .u8 0)) := cell_of hcr rfl
      have c3 : wr.cell? ⟨w.heap.size, 3, none⟩ = some ((.int .u8 ((n % 256 : Nat) : Int))) := cell_of hcr rfl
      go_wp2_with fail
      go_roundw
      case rel =>
        refine ⟨hbr.trans (((SetB.self hcr).store (o := 2) (lt_of_blk hcr) _).below (Nat.le_refl _)), .inr (.inr (.inl ⟨by simp only [Value.int.injEq, true_and]; omega, rfl, (((SetB.self hcr).store (o := 2) (lt_of_blk hcr) _).at (lt_of_blk hcr)).trans ?_⟩))⟩
        simp only [List.setIfInBounds_toArray, List.set_cons_zero, List.set_cons_succ, Option.some.injEq, Obj.cells.injEq, and_true, true_and, Array.mk.injEq, List.cons.injEq, Value.int.injEq]
        omega
      case measure => simp [intOf]
    · have e0 : ∀ o, wr.frozen? ⟨w.heap.size, o, none⟩ = false := fun o => free_of hcr
      have c0 : wr.cell? ⟨w.heap.size, 0, none⟩ = some ((.int .u8 0)) := cell_of hcr rfl
      have c1 : wr.cell? ⟨w.heap.size, 1, none⟩ = some ((.int .u8 0)) := cell_of hcr rfl
      have c2 : wr.cell? ⟨w.heap.size, 2, none⟩ = some ((.int .u8 ((n / 256 % 256 : Nat) : Int))) := cell_of hcr rfl
      have c3 : wr.cell? ⟨w.heap.size, 3, none⟩ = some ((.int .u8 ((n % 256 : Nat) : Int))) := cell_of hcr rfl
      go_wp2_with fail
      go_roundw
      case rel =>
        refine ⟨hbr.trans (((SetB.self hcr).store (o := 1) (lt_of_blk hcr) _).below (Nat.le_refl _)), .inr (.inr (.inr (.inl ⟨by simp only [Value.int.injEq, true_and]; omega, rfl, (((SetB.self hcr).store (o := 1) (lt_of_blk hcr) _).at (lt_of_blk hcr)).trans ?_⟩)))⟩
        simp only [List.setIfInBounds_toArray, List.set_cons_zero, List.set_cons_succ, Option.some.injEq, Obj.cells.injEq, and_true, true_and, Array.mk.injEq, List.cons.injEq, Value.int.injEq]
        omega
      case measure => simp [intOf]
    · have e0 : ∀ o, wr.frozen? ⟨w.heap.size, o, none⟩ = false := fun o => free_of hcr
      have c0 : wr.cell? ⟨w.heap.size, 0, none⟩ = some ((.int .u8 0)) := cell_of hcr rfl
      have c1 : wr.cell? ⟨w.heap.size, 1, none⟩ = some ((.int .u8 ((n / 65536 % 256 : Nat) : Int))) := cell_of hcr rfl
      have c2 : wr.cell? ⟨w.heap.size, 2, none⟩ = some ((.int .u8 ((n / 256 % 256 : Nat) : Int))) := cell_of hcr rfl
      have c3 : wr.cell? ⟨w.heap.size, 3, none⟩ = some ((.int .u8 ((n % 256 : Nat) : Int))) := cell_of hcr rfl
      go_wp2_with fail
      go_roundw
      case rel =>
        refine ⟨hbr.trans (((SetB.self hcr).store (o := 0) (lt_of_blk hcr) _).below (Nat.le_refl _)), .inr (.inr (.inr (.inr (⟨by simp only [Value.int.injEq, true_and]; omega, rfl, (((SetB.self hcr).store (o := 0) (lt_of_blk hcr) _).at (lt_of_blk hcr)).trans ?_⟩))))⟩
        simp only [List.setIfInBounds_toArray, List.set_cons_zero, Option.some.injEq, Obj.cells.injEq, and_true, true_and, Array.mk.injEq, List.cons.injEq, Value.int.injEq]
        omega
      case measure => simp [intOf]
    · go_wp2_with fail
      go_ret
      exact ⟨_, rfl, own4 (Nat.le_refl _) hcr, hbr⟩
end Go.Proofs.Ytjjhnnnpikfjpaa
