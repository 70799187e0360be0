/- Numbers: within, Fits; bytes as lists. -/
import Derived.Test.YtcbpdjenncbbeaaQae
import Derived.Test.YtcbpdjenncbbeaaRows
import Derived.Test.YtcbpdjenncbbeaaQaa
import Derived.Lib.AppendZerosOnto
import Derived.Lib.SliceRun
import Derived.ProofKit
import Derived.OpenShut
import Derived.Carry
import Derived.Deep.Slices
import Derived.Deep.Fields
import Derived.ChangeSame
import Derived.Test.YtcbpdjenncbbeaaQah
namespace Go.Proofs.Ytcbpdjenncbbeaa.Ip
open Go.RowKit

theorem within_any (n a b : Int) (w : World) : Calls Try.prog 67 #[.int .i64 n, .int .i64 a, .int .i64 b] w fun e w' => e = .returned (.bool (decide (a ≤ n) && decide (n ≤ b))) ∧ w' = w := by
  by_cases h : a ≤ n
  all_goals
    go_enter Try.func67, Try.ntmps67
    go_wp2_with fail
    go_ret
    exact ⟨ret_bool (by simp; omega), rfl⟩
end Go.Proofs.Ytcbpdjenncbbeaa.Ip
/- Numbers of bytes. -/
namespace Go.Proofs.Ytcbpdjenncbbeaa.Ip
open Go.RowKit

/-- bytes in memory -/
def RB : Rep Nat := ⟨5, 1, by decide, fun b => [.int .u8 (b : Int)], fun _ => rfl, fun _ => rfl⟩
theorem T27 : Rep.Ty Try.prog 50 RB 1 := Rep.Ty.mk' Try.underlying50 (z := .int .u8 0) (by kernel_rfl) rfl
def Bytes (l : List Nat) : Prop := ∀ b ∈ l, b < 256
def getN (l : List Nat) : Nat := l.foldl (fun a b => 256 * a + b) 0
theorem getN_snoc (l : List Nat) (b : Nat) : getN (l ++ [b]) = 256 * getN l + b := by simp [getN, List.foldl_append]
theorem foldl_lt (l : List Nat) : ∀ a, Bytes l → l.foldl (fun a b => 256 * a + b) a < (a + 1) * 256 ^ l.length := by
  induction l with
  | nil => intro a _; simp
  | cons b r ih =>
    intro a h
    have h1 := ih (256 * a + b) (fun x hx => h x (by simp [hx]))
    have h2 := h b (by simp)
    simp only [List.foldl_cons, List.length_cons]
    refine Nat.lt_of_lt_of_le h1 ?_
    rw [Nat.pow_succ, ← Nat.mul_assoc, Nat.mul_right_comm]
    exact Nat.mul_le_mul_right _ (by omega)
theorem getN_lt (l : List Nat) (h : Bytes l) : getN l < 256 ^ l.length := by
  have := foldl_lt l 0 h
  simpa [getN] using this
theorem take_snoc {α : Type} [Inhabited α] (l : List α) (k : Nat) (h : k < l.length) : l.take (k + 1) = l.take k ++ [l.getD k default] := by
  rw [List.take_succ_eq_append_getElem h]; simp [List.getD_eq_getElem?_getD, h]
end Go.Proofs.Ytcbpdjenncbbeaa.Ip
/- A number's bytes. -/
namespace Go.Proofs.Ytcbpdjenncbbeaa.Ip
open Go.RowKit

/-- a number's bytes, the great one first -/
def be : Nat → Nat → List Nat
  | 0, _ => []
  | k + 1, n => be k (n / 256) ++ [n % 256]
theorem be_length (k n : Nat) : (be k n).length = k := by
  induction k generalizing n with
  | zero => rfl
  | succ k ih => simp [be, ih]
theorem be_bytes (k n : Nat) : Bytes (be k n) := by
  induction k generalizing n with
  | zero => intro b hb; cases hb
  | succ k ih =>
    intro b hb
    rcases List.mem_append.1 hb with h | h
    · exact ih _ b h
    · rw [List.mem_singleton.1 h]; omega
theorem getN_be (k n : Nat) (h : n < 256 ^ k) : getN (be k n) = n := by
  induction k generalizing n with
  | zero => simp only [Nat.pow_zero] at h; simp [be, getN]; omega
  | succ k ih =>
    rw [be, getN_snoc, ih]
    · omega
    · rw [Nat.pow_succ] at h; omega
theorem own2 {w : World} {base g n : Nat} (hb : base ≤ g) (h : w.heap[g]? = some (.cells #[.int .u8 ((n / 256 % 256 : Nat) : Int), .int .u8 ((n % 256 : Nat) : Int)] 5)) : RB.Own w base (.slice (some ⟨g, 0, none⟩) 2 2) (be 2 n) := by
  have hl : (be 2 n).length = 2 := be_length _ _
  have hf : RB.flat (be 2 n) = (#[.int .u8 ((n / 256 % 256 : Nat) : Int), .int .u8 ((n % 256 : Nat) : Int)] : Array Value).toList := by
    simp only [be, List.nil_append, List.cons_append, RB, Rep.flat, List.flatMap_cons, List.flatMap_nil, List.append_nil]
  unfold Rep.Own
  rw [hl, hf]
  refine ⟨rfl, .inr ⟨g, 2, _, rfl, hb, h, Nat.le_refl _, by unfold maxLen; omega, rfl, rfl⟩⟩
theorem own4 {w : World} {base g n : Nat} (hb : base ≤ g) (h : w.heap[g]? = some (.cells #[.int .u8 ((n / 16777216 % 256 : Nat) : Int), .int .u8 ((n / 65536 % 256 : Nat) : Int), .int .u8 ((n / 256 % 256 : Nat) : Int), .int .u8 ((n % 256 : Nat) : Int)] 5)) : RB.Own w base (.slice (some ⟨g, 0, none⟩) 4 4) (be 4 n) := by
  have hl : (be 4 n).length = 4 := be_length _ _
  have hf : RB.flat (be 4 n) = (#[.int .u8 ((n / 16777216 % 256 : Nat) : Int), .int .u8 ((n / 65536 % 256 : Nat) : Int), .int .u8 ((n / 256 % 256 : Nat) : Int), .int .u8 ((n % 256 : Nat) : Int)] : Array Value).toList := by
    simp only [be, List.nil_append, List.cons_append, RB, Rep.flat, List.flatMap_cons, List.flatMap_nil, List.append_nil, Nat.div_div_eq_div_mul]
  unfold Rep.Own
  rw [hl, hf]
  refine ⟨rfl, .inr ⟨g, 4, _, rfl, hb, h, Nat.le_refl _, by unfold maxLen; omega, rfl, rfl⟩⟩
set_option maxRecDepth 100000 in
set_option maxHeartbeats 400000 in
theorem rput2_any (n : Nat) (hn : n < 65536) (w : World) : Calls Try.prog 74 #[.int .i64 n, .int .i64 2] w fun e w' => ∃ v, e = .returned v ∧ RB.Own w' w.heap.size v (be 2 n) ∧ Below w.heap.size w w' := by
  have hmk : ∀ w : World, (Instr.makeSlice 50 (.int .i64 2) (.int .i64 2)).run Try.prog w = .ok (.slice (some ⟨w.heap.size, 0, none⟩) 2 2) (w.alloc (.cells #[.int .u8 0, .int .u8 0] 5)) := fun _ => by kernel_rfl
  go_enter Try.func74, Try.ntmps74
  go_wp2_with fail
  have hw1 : ∃ w1, w1 = w.alloc (.cells #[.int .u8 0, .int .u8 0] 5) := ⟨_, rfl⟩
  obtain ⟨w1, hw1⟩ := hw1
  have hb1 : Below w.heap.size w w1 := by rw [hw1]; exact (Below.refl w.heap.size w).alloc (Nat.le_refl _) _
  have hc1 : w1.heap[w.heap.size]? = some (.cells #[.int .u8 0, .int .u8 0] 5) := by rw [hw1]; exact hnew _ _
  rw [← hw1]
  clear hw1 hmk
  go_loopw [0, 6] (fun nv iv wr => Below w.heap.size w wr ∧ ((nv = .int .i64 ((n / 1 : Nat) : Int) ∧ iv = .int .i64 (1) ∧ wr.heap[w.heap.size]? = some (.cells #[.int .u8 0, .int .u8 0] 5)) ∨ (nv = .int .i64 ((n / 256 : Nat) : Int) ∧ iv = .int .i64 (0) ∧ wr.heap[w.heap.size]? = some (.cells #[.int .u8 0, .int .u8 ((n % 256 : Nat) : Int)] 5)) ∨ (nv = .int .i64 ((n / 65536 : Nat) : Int) ∧ iv = .int .i64 (-1) ∧ wr.heap[w.heap.size]? = some (.cells #[.int .u8 ((n / 256 % 256 : Nat) : Int), .int .u8 ((n % 256 : Nat) : Int)] 5)))) (fun _ iv _ => (intOf iv + 1).toNat)
  case atStart => exact ⟨hb1, .inl ⟨by simp, rfl, hc1⟩⟩
  case round =>
    obtain ⟨hbr, hrel⟩ := hrel
    rcases hrel with ⟨rfl, rfl, hcr⟩ | ⟨rfl, rfl, hcr⟩ | ⟨rfl, rfl, hcr⟩
    · have e0 : ∀ o, wr.frozen? ⟨w.heap.size, o, none⟩ = false := fun o => free_of hcr
      have c0 : wr.cell? ⟨w.heap.size, 0, none⟩ = some ((.int .u8 0)) := cell_of hcr rfl
      have c1 : wr.cell? ⟨w.heap.size, 1, none⟩ = some ((.int .u8 0)) := cell_of hcr rfl
      go_wp2_with fail
      go_roundw
      case rel =>
        refine ⟨hbr.trans (((SetB.self hcr).store (o := 1) (lt_of_blk hcr) _).below (Nat.le_refl _)), .inr (.inl ⟨by simp only [Value.int.injEq, true_and]; omega, rfl, (((SetB.self hcr).store (o := 1) (lt_of_blk hcr) _).at (lt_of_blk hcr)).trans ?_⟩)⟩
        simp only [List.setIfInBounds_toArray, List.set_cons_zero, List.set_cons_succ, Option.some.injEq, Obj.cells.injEq, and_true, true_and, Array.mk.injEq, List.cons.injEq, Value.int.injEq]
        omega
      case measure => simp [intOf]
    · have e0 : ∀ o, wr.frozen? ⟨w.heap.size, o, none⟩ = false := fun o => free_of hcr
      have c0 : wr.cell? ⟨w.heap.size, 0, none⟩ = some ((.int .u8 0)) := cell_of hcr rfl
      have c1 : wr.cell? ⟨w.heap.size, 1, none⟩ = some ((.int .u8 ((n % 256 : Nat) : Int))) := cell_of hcr rfl
      go_wp2_with fail
      go_roundw
      case rel =>
        refine ⟨hbr.trans (((SetB.self hcr).store (o := 0) (lt_of_blk hcr) _).below (Nat.le_refl _)), .inr (.inr (⟨by simp only [Value.int.injEq, true_and]; omega, rfl, (((SetB.self hcr).store (o := 0) (lt_of_blk hcr) _).at (lt_of_blk hcr)).trans ?_⟩))⟩
        simp only [List.setIfInBounds_toArray, List.set_cons_zero, Option.some.injEq, Obj.cells.injEq, and_true, true_and, Array.mk.injEq, List.cons.injEq, Value.int.injEq]
        omega
      case measure => simp [intOf]
    · go_wp2_with fail
      go_ret
      exact ⟨_, rfl, own2 (Nat.le_refl _) hcr, hbr⟩
set_option maxRecDepth 100000 in
set_option maxHeartbeats 400000 in
theorem rput4_any (n : Nat) (hn : n < 4294967296) (w : World) : Calls Try.prog 74 #[.int .i64 n, .int .i64 4] w fun e w' => ∃ v, e = .returned v ∧ RB.Own w' w.heap.size v (be 4 n) ∧ Below w.heap.size w w' := by
  have hmk : ∀ w : World, (Instr.makeSlice 50 (.int .i64 4) (.int .i64 4)).run Try.prog w = .ok (.slice (some ⟨w.heap.size, 0, none⟩) 4 4) (w.alloc (.cells #[.int .u8 0, .int .u8 0, .int .u8 0, .int .u8 0] 5)) := fun _ => by kernel_rfl
  go_enter Try.func74, Try.ntmps74
  go_wp2_with fail
  have hw1 : ∃ w1, w1 = w.alloc (.cells #[.int .u8 0, .int .u8 0, .int .u8 0, .int .u8 0] 5) := ⟨_, rfl⟩
  obtain ⟨w1, hw1⟩ := hw1
  have hb1 : Below w.heap.size w w1 := by rw [hw1]; exact (Below.refl w.heap.size w).alloc (Nat.le_refl _) _
  have hc1 : w1.heap[w.heap.size]? = some (.cells #[.int .u8 0, .int .u8 0, .int .u8 0, .int .u8 0] 5) := by rw [hw1]; exact hnew _ _
  rw [← hw1]
  clear hw1 hmk
  go_loopw [0, 6] (fun nv iv wr => Below w.heap.size w wr ∧ ((nv = .int .i64 ((n / 1 : Nat) : Int) ∧ iv = .int .i64 (3) ∧ wr.heap[w.heap.size]? = some (.cells #[.int .u8 0, .int .u8 0, .int .u8 0, .int .u8 0] 5)) ∨ (nv = .int .i64 ((n / 256 : Nat) : Int) ∧ iv = .int .i64 (2) ∧ wr.heap[w.heap.size]? = some (.cells #[.int .u8 0, .int .u8 0, .int .u8 0, .int .u8 ((n % 256 : Nat) : Int)] 5)) ∨ (nv = .int .i64 ((n / 65536 : Nat) : Int) ∧ iv = .int .i64 (1) ∧ wr.heap[w.heap.size]? = some (.cells #[.int .u8 0, .int .u8 0, .int .u8 ((n / 256 % 256 : Nat) : Int), .int .u8 ((n % 256 : Nat) : Int)] 5)) ∨ (nv = .int .i64 ((n / 16777216 : Nat) : Int) ∧ iv = .int .i64 (0) ∧ wr.heap[w.heap.size]? = some (.cells #[.int .u8 0, .int .u8 ((n / 65536 % 256 : Nat) : Int), .int .u8 ((n / 256 % 256 : Nat) : Int), .int .u8 ((n % 256 : Nat) : Int)] 5)) ∨ (nv = .int .i64 ((n / 4294967296 : Nat) : Int) ∧ iv = .int .i64 (-1) ∧ wr.heap[w.heap.size]? = some (.cells #[.int .u8 ((n / 16777216 % 256 : Nat) : Int), .int .u8 ((n / 65536 % 256 : Nat) : Int), .int .u8 ((n / 256 % 256 : Nat) : Int), .int .u8 ((n % 256 : Nat) : Int)] 5)))) (fun _ iv _ => (intOf iv + 1).toNat)
  case atStart => exact ⟨hb1, .inl ⟨by simp, rfl, hc1⟩⟩
  case round =>
    obtain ⟨hbr, hrel⟩ := hrel
    rcases hrel with ⟨rfl, rfl, hcr⟩ | ⟨rfl, rfl, hcr⟩ | ⟨rfl, rfl, hcr⟩ | ⟨rfl, rfl, hcr⟩ | ⟨rfl, rfl, hcr⟩
    · have e0 : ∀ o, wr.frozen? ⟨w.heap.size, o, none⟩ = false := fun o => free_of hcr
      have c0 : wr.cell? ⟨w.heap.size, 0, none⟩ = some ((.int .u8 0)) := cell_of hcr rfl
      have c1 : wr.cell? ⟨w.heap.size, 1, none⟩ = some ((.int .u8 0)) := cell_of hcr rfl
      have c2 : wr.cell? ⟨w.heap.size, 2, none⟩ = some ((.int .u8 0)) := cell_of hcr rfl
      have c3 : wr.cell? ⟨w.heap.size, 3, none⟩ = some ((.int .u8 0)) := cell_of hcr rfl
      go_wp2_with fail
      go_roundw
      case rel =>
        refine ⟨hbr.trans (((SetB.self hcr).store (o := 3) (lt_of_blk hcr) _).below (Nat.le_refl _)), .inr (.inl ⟨by simp only [Value.int.injEq, true_and]; omega, rfl, (((SetB.self hcr).store (o := 3) (lt_of_blk hcr) _).at (lt_of_blk hcr)).trans ?_⟩)⟩
        simp only [List.setIfInBounds_toArray, List.set_cons_zero, List.set_cons_succ, Option.some.injEq, Obj.cells.injEq, and_true, true_and, Array.mk.injEq, List.cons.injEq, Value.int.injEq]
        omega
      case measure => simp [intOf]
    · have e0 : ∀ o, wr.frozen? ⟨w.heap.size, o, none⟩ = false := fun o => free_of hcr
      have c0 : wr.cell? ⟨w.heap.size, 0, none⟩ = some ((.int .u8 0)) := cell_of hcr rfl
      have c1 : wr.cell? ⟨w.heap.size, 1, none⟩ = some ((.int .u8 0)) := cell_of hcr rfl
      have c2 : wr.cell? ⟨w.heap.size, 2, none⟩ = some ((.int .u8 0)) := cell_of hcr rfl
      have c3 : wr.cell? ⟨w.heap.size, 3, none⟩ = some ((.int .u8 ((n % 256 : Nat) : Int))) := cell_of hcr rfl
      go_wp2_with fail
      go_roundw
      case rel =>
        refine ⟨hbr.trans (((SetB.self hcr).store (o := 2) (lt_of_blk hcr) _).below (Nat.le_refl _)), .inr (.inr (.inl ⟨by simp only [Value.int.injEq, true_and]; omega, rfl, (((SetB.self hcr).store (o := 2) (lt_of_blk hcr) _).at (lt_of_blk hcr)).trans ?_⟩))⟩
        simp only [List.setIfInBounds_toArray, List.set_cons_zero, List.set_cons_succ, Option.some.injEq, Obj.cells.injEq, and_true, true_and, Array.mk.injEq, List.cons.injEq, Value.int.injEq]
        omega
      case measure => simp [intOf]
    · have e0 : ∀ o, wr.frozen? ⟨w.heap.size, o, none⟩ = false := fun o => free_of hcr
      have c0 : wr.cell? ⟨w.heap.size, 0, none⟩ = some ((.int .u8 0)) := cell_of hcr rfl
      have c1 : wr.cell? ⟨w.heap.size, 1, none⟩ = some ((.int .u8 0)) := cell_of hcr rfl
      have c2 : wr.cell? ⟨w.heap.size, 2, none⟩ = some ((.int .u8 ((n / 256 % 256 : Nat) : Int))) := cell_of hcr rfl
      have c3 : wr.cell? ⟨w.heap.size, 3, none⟩ = some ((.int .u8 ((n % 256 : Nat) : Int))) := cell_of hcr rfl
      go_wp2_with fail
      go_roundw
      case rel =>
        refine ⟨hbr.trans (((SetB.self hcr).store (o := 1) (lt_of_blk hcr) _).below (Nat.le_refl _)), .inr (.inr (.inr (.inl ⟨by simp only [Value.int.injEq, true_and]; omega, rfl, (((SetB.self hcr).store (o := 1) (lt_of_blk hcr) _).at (lt_of_blk hcr)).trans ?_⟩)))⟩
        simp only [List.setIfInBounds_toArray, List.set_cons_zero, List.set_cons_succ, Option.some.injEq, Obj.cells.injEq, and_true, true_and, Array.mk.injEq, List.cons.injEq, Value.int.injEq]
        omega
      case measure => simp [intOf]
    · have e0 : ∀ o, wr.frozen? ⟨w.heap.size, o, none⟩ = false := fun o => free_of hcr
      have c0 : wr.cell? ⟨w.heap.size, 0, none⟩ = some ((.int .u8 0)) := cell_of hcr rfl
      have c1 : wr.cell? ⟨w.heap.size, 1, none⟩ = some ((.int .u8 ((n / 65536 % 256 : Nat) : Int))) := cell_of hcr rfl
      have c2 : wr.cell? ⟨w.heap.size, 2, none⟩ = some ((.int .u8 ((n / 256 % 256 : Nat) : Int))) := cell_of hcr rfl
      have c3 : wr.cell? ⟨w.heap.size, 3, none⟩ = some ((.int .u8 ((n % 256 : Nat) : Int))) := cell_of hcr rfl
      go_wp2_with fail
      go_roundw
      case rel =>
        refine ⟨hbr.trans (((SetB.self hcr).store (o := 0) (lt_of_blk hcr) _).below (Nat.le_refl _)), .inr (.inr (.inr (.inr (⟨by simp only [Value.int.injEq, true_and]; omega, rfl, (((SetB.self hcr).store (o := 0) (lt_of_blk hcr) _).at (lt_of_blk hcr)).trans ?_⟩))))⟩
        simp only [List.setIfInBounds_toArray, List.set_cons_zero, Option.some.injEq, Obj.cells.injEq, and_true, true_and, Array.mk.injEq, List.cons.injEq, Value.int.injEq]
        omega
      case measure => simp [intOf]
    · go_wp2_with fail
      go_ret
      exact ⟨_, rfl, own4 (Nat.le_refl _) hcr, hbr⟩
end Go.Proofs.Ytcbpdjenncbbeaa.Ip
/- Slices of bytes: Clone, Grow. -/
namespace Go.Proofs.Ytcbpdjenncbbeaa.Ip
open Go.RowKit

/-- a slice that reads as bytes -/
structure BS (w : World) (oa : Option Addr) (n c : Nat) (l : List Nat) : Prop where
  sl : RB.Sl w oa n c l
  nil : oa = none → c = 0
  le : n ≤ c
  cap : c ≤ maxLen
  ad : oa = none ∨ ∃ b o, oa = some ⟨b, o, none⟩
theorem BS.below {w w' : World} {oa : Option Addr} {n c : Nat} {l : List Nat} (h : BS w oa n c l) (hb : Below w.heap.size w w') : BS w' oa n c l := ⟨h.sl.keep hb, h.nil, h.le, h.cap, h.ad⟩
theorem bs_own {w : World} {base : Nat} {v : Value} {l : List Nat} (h : RB.Own w base v l) : ∃ oa c, v = .slice oa l.length c ∧ BS w oa l.length c l := by
  obtain ⟨oa, c, rfl, hlc, hcm, hsl, -⟩ := h.sl
  refine ⟨oa, c, rfl, hsl, ?_, hlc, hcm, ?_⟩
  · rintro rfl
    rcases h.cases with ⟨hv, _⟩ | ⟨g, cap, hv, _⟩
    · injection hv
    · cases hv
  · rcases h.cases with ⟨hv, _⟩ | ⟨g, cap, hv, _⟩
    · injection hv; exact .inl ‹_›
    · injection hv; exact .inr ⟨g, 0, ‹_›⟩
theorem rb_empty (w : World) : RB.Own (w.alloc (.cells #[] 5)) w.heap.size (.slice (some ⟨w.heap.size, 0, none⟩) 0 0) [] :=
  ⟨rfl, .inr ⟨w.heap.size, 0, #[], rfl, Nat.le_refl _, hnew _ _, Nat.le_refl _, by unfold maxLen; omega, rfl, rfl⟩⟩
theorem step_append2 {P : Program} {ops : Array Oper} {Q : Exit → Act → World → Prop} {rest : List Oper} {o : Oper} {a : Act} {w : World} {t t2 : TypeId} {v u v' : Value} {w' : World} (hgd : o.guard = none) (s x : Operand) (ho : o.op = .call { callee := .builtin .append, args := #[s, x], argTypes := #[t, t2] }) (hs : a.eval s = v) (hx : a.eval x = u)
    (hrun : (Builtin.append_ #[t, t2] o.type #[v, u]).run P w = .ok v' w') (h : wpList P ops Q rest (a.put o.dst v') w') : wpList P ops Q (o :: rest) a w :=
  wpList_plain hgd fun K hK => by
    have hk := hK _ _ h
    unfold Oper.wp execOp
    simp only [ho, resolve, invoke, builtin, Sem.run_bind, Sem.run_pure, Result.andThen_ok, List.map_toArray, List.map_cons, List.map_nil, hs, hx, hrun]
    exact hk
set_option maxRecDepth 100000 in
set_option maxHeartbeats 400000 in
theorem clone_any {w : World} {oa : Option Addr} {n c : Nat} {l : List Nat} (h : RB.Sl w oa n c l) (hnil : oa = none → c = 0) (hn : n ≤ 1000000000) : Calls Try.prog 64 #[.slice oa n c] w fun e w' => ∃ v, e = .returned v ∧ RB.Own w' w.heap.size v l ∧ Below w.heap.size w w' := by
  cases oa with
  | none =>
    have hc := hnil rfl
    subst hc
    have hl : l = [] := by
      rcases Nat.eq_zero_or_pos n with h0 | h0
      · have := h.len; rw [h0] at this; exact List.length_eq_zero_iff.1 this.symm
      · obtain ⟨b, o, h1, _⟩ := h.row h0; cases h1
    subst hl
    obtain rfl : n = 0 := h.len
    have heq : ∀ w, (binOp .eql 50 (.slice none 0 0) (.slice none 0 0)).run Try.prog w = .ok (.bool true) w := fun w => by kernel_rfl
    go_enter Try.func64, Try.ntmps64
    go_wp2_with fail
    go_ret
    exact ⟨_, rfl, Rep.Own.nil _ _, Below.refl _ _⟩
  | some ad =>
    have H := Lib.hid (And.intro h hnil)
    clear h hnil
    have heq : ∀ w, (binOp .eql 50 (.slice (some ad) n c) (.slice none 0 0)).run Try.prog w = .ok (.bool false) w := fun w => by kernel_rfl
    go_enter Try.func64, Try.ntmps64
    go_wp2_with (at_builtin; refine halt ?_)
    refine Halted.go ?_
    have hal := (Below.refl w.heap.size w).alloc (Nat.le_refl _) (.cells #[] 5)
    refine Rep.append_list T27 rfl _ _ rfl (base := w.heap.size) (L := []) (M := l) rfl (rb_empty w) rfl (H.out.1.keep hal) (fun h => (by cases h)) (by unfold maxLen; simp; omega) (by simp; omega) (by simp) ?_
    intro v3 w3 hown3 hb3 _
    have HF := Lib.hid (And.intro hown3 (hal.trans hb3))
    clear hown3 hb3 hal
    go_wp2_with fail
    go_ret
    exact ⟨_, rfl, HF.out.1, HF.out.2⟩
theorem info5 : (Try.prog.info? 5).map (fun i => (i.zero, i.size, i.bytes)) = some (some (.int .u8 0), 1, 1) := by kernel_rfl
end Go.Proofs.Ytcbpdjenncbbeaa.Ip
/- Concat. -/
namespace Go.Proofs.Ytcbpdjenncbbeaa.Ip
open Go.RowKit

/-- a slice's header -/
def RH : Rep (Option Addr × Nat × Nat) := ⟨50, 1, by decide, fun x => [.slice x.1 x.2.1 x.2.2], fun _ => rfl, fun _ => rfl⟩
/-- slices that read as lists of bytes -/
structure BSS (w : World) (vs : List (Option Addr × Nat × Nat)) (ls : List (List Nat)) : Prop where
  len : vs.length = ls.length
  all : ∀ j, j < ls.length → RB.Sl w (vs.getD j default).1 (vs.getD j default).2.1 (vs.getD j default).2.2 (ls.getD j []) ∧ ((vs.getD j default).1 = none → (vs.getD j default).2.2 = 0)
theorem BSS.keep {w w' : World} {vs : List (Option Addr × Nat × Nat)} {ls : List (List Nat)} (h : BSS w vs ls) (hb : Below w.heap.size w w') : BSS w' vs ls := ⟨h.len, fun j hj => ⟨(h.all j hj).1.keep hb, (h.all j hj).2⟩⟩
def lsum (ls : List (List Nat)) : Nat := ls.flatten.length
theorem lsum_take {ls : List (List Nat)} {i : Nat} (h : i < ls.length) : lsum (ls.take (i + 1)) = lsum (ls.take i) + (ls.getD i []).length ∧ (ls.take (i + 1)).flatten = (ls.take i).flatten ++ ls.getD i [] := by
  have h1 : ls.take (i + 1) = ls.take i ++ [ls.getD i []] := by rw [List.take_succ_eq_append_getElem h]; simp [List.getD_eq_getElem?_getD, h]
  unfold lsum
  rw [h1, List.flatten_append, List.length_append]
  simp
theorem lsum_le (ls : List (List Nat)) (i : Nat) : lsum (ls.take i) ≤ lsum ls := by
  unfold lsum
  have h : ls.flatten = (ls.take i).flatten ++ (ls.drop i).flatten := by rw [← List.flatten_append, List.take_append_drop]
  rw [h, List.length_append]; omega
end Go.Proofs.Ytcbpdjenncbbeaa.Ip
/- What an argument that reads as data is in memory: ints, bools, strings, slices; structs by 'Reads.struct'. -/
namespace Go.Proofs.Ytcbpdjenncbbeaa
open Go.ChangeShapes Go.WideShapes Go.ChangeAt Go.RowKit Go.Deep

/-- cells that read as data of type T are those of some a -/
structure Reads (P : Program) (T : TypeId) {α : Type} (cells : α → List Value) (ok : World → α → Prop) : Prop where
  read : ∀ {H : Type} {enc : TypeId × Value → H} {w : World} {spare : Nat → Bool} {held : Bool} {fuel : Nat} {cs : List Value} {x : DataW H × List MemPlace}, DataW.trod enc P w 0 spare held fuel T cs = some x → ∃ a, cs = cells a ∧ ok w a
theorem Reads.int {P : Program} {T : TypeId} {k : IntKind} (ht : P.underlying T = some (.int k)) : Reads P T (fun n : Int => [.int k n]) (fun _ n => (Lit.int k n).wf = true) :=
  ⟨fun h => by obtain ⟨n, e, _, hw⟩ := DataW.trod_int ht h; exact ⟨n, e, hw⟩⟩
theorem Reads.bool {P : Program} {T : TypeId} (ht : P.underlying T = some .bool) : Reads P T (fun b : Bool => [.bool b]) (fun _ _ => True) :=
  ⟨fun h => by obtain ⟨n, e, _⟩ := DataW.trod_bool ht h; exact ⟨n, e, trivial⟩⟩
theorem Reads.string {P : Program} {T : TypeId} (ht : P.underlying T = some .string) : Reads P T (fun s : ByteArray => [.string s]) (fun _ s => s.size ≤ maxLen) :=
  ⟨fun h => by obtain ⟨s, e, _, hw⟩ := DataW.trod_string ht h; exact ⟨s, e, hw⟩⟩
theorem wf64 {n : Int} (h : (Lit.int .i64 n).wf = true) : -9223372036854775808 ≤ n ∧ n ≤ 9223372036854775807 := by
  simp only [Lit.wf, IntKind.min, IntKind.max, IntKind.signed, IntKind.bits, Bool.and_eq_true, decide_eq_true_eq] at h
  simpa using h
theorem wfu32 {n : Int} (h : (Lit.int .u32 n).wf = true) : 0 ≤ n ∧ n ≤ 4294967295 := by
  simp only [Lit.wf, IntKind.min, IntKind.max, IntKind.signed, IntKind.bits, Bool.and_eq_true] at h
  simpa using h
theorem wfu8 {n : Int} (h : (Lit.int .u8 n).wf = true) : 0 ≤ n ∧ n ≤ 255 := by
  simp only [Lit.wf, IntKind.min, IntKind.max, IntKind.signed, IntKind.bits, Bool.and_eq_true] at h
  simpa using h

/-- a slice, and what it reads as -/
structure SlV (α : Type) where
  a : Option Addr
  n : Nat
  c : Nat
  l : List α
structure SlOk {α : Type} [Inhabited α] (R : Rep α) (ok : World → α → Prop) (w : World) (s : SlV α) : Prop where
  sl : R.Sl w s.a s.n s.c s.l
  nil : s.a = none → s.c = 0
  nc : s.n ≤ s.c
  cm : s.c ≤ maxLen
  all : ∀ x ∈ s.l, ok w x
theorem Reads.slice {P : Program} {t : TypeId} {α : Type} [Inhabited α] {R : Rep α} {ok : World → α → Prop} (ht : P.underlying t = some (.slice R.T)) (hk : P.cellsOf R.T = R.k) (h : Reads P R.T R.cells ok) :
    Reads P t (fun s : SlV α => [.slice s.a s.n s.c]) (SlOk R ok) :=
  ⟨fun {H enc w spare held fuel cs x} hx => by
    rcases open_slice ht hx with ⟨rfl, _⟩ | ⟨a, len, cap, m, n, D, Pl, rfl, _, hl, hm, hmm, _, hi⟩
    · exact ⟨⟨none, 0, 0, []⟩, rfl, ⟨⟨rfl, by show 0 ≤ maxLen; omega, fun h0 => absurd h0 (by show ¬ 0 < 0; omega)⟩, fun _ => rfl, Nat.le_refl _, by show 0 ≤ maxLen; omega, fun x hx => by cases hx⟩⟩
    · have hml : len ≤ m := by rw [hmm]; split <;> omega
      have hel : ∀ i, i < len → ∃ y : α, (∀ j, j < R.k → w.cell? (a.add (i * R.k + j)) = (R.cells y)[j]?) ∧ ok w y := by
        intro i hi'
        obtain ⟨cs', hc, ht'⟩ := hi i (by omega)
        rw [hk] at hc
        obtain ⟨y, rfl, hok⟩ := h.read ht'
        obtain ⟨_, _, hat⟩ := World.cells?_some hc
        exact ⟨y, fun j hj => by rw [← add_add]; exact hat j hj, hok⟩
      let f : Nat → α := fun i => if h0 : i < len then (hel i h0).choose else default
      have hf : ∀ i, i < len → (∀ j, j < R.k → w.cell? (a.add (i * R.k + j)) = (R.cells (f i))[j]?) ∧ ok w (f i) := fun i h0 => by
        have := (hel i h0).choose_spec
        simp only [f, h0, dif_pos]; exact this
      refine ⟨⟨some a, len, cap, (List.range len).map f⟩, rfl, ⟨⟨by simp, by show len ≤ maxLen; omega, fun h0 => ?_⟩, fun e => (by cases e), hl, hm, fun x hx => ?_⟩⟩
      · have hpos : 0 < len := h0
        have hk0 := R.pos
        have h00 := (hf 0 hpos).1 0 hk0
        have hsome : ∃ v, (R.cells (f 0))[0]? = some v := ⟨_, List.getElem?_eq_getElem (by rw [R.len]; exact hk0)⟩
        obtain ⟨v, hv⟩ := hsome
        rw [hv, Nat.zero_mul, Nat.add_zero] at h00
        have ha0 : a.add 0 = a := by unfold Addr.add; simp
        rw [ha0] at h00
        have hsp : a.spot = none := by
          unfold World.cell? at h00
          split at h00
          · split at h00
            · cases h00
            · rename_i hs; simpa using hs
          · cases h00
        obtain ⟨b, off, sp⟩ := a
        dsimp only at hsp
        subst hsp
        refine ⟨b, off, rfl, ⟨World.block_lt_of_cell? w _ h00, fun i hi' j hj => ?_⟩⟩
        have hi'' : i < len := by simpa using hi'
        have := (hf i hi'').1 j hj
        have hadd : (⟨b, off, none⟩ : Addr).add (i * R.k + j) = ⟨b, off + i * R.k + j, none⟩ := by
          unfold Addr.add
          split
          · rename_i h0; simp
          · simp [Nat.add_assoc]
        rw [hadd] at this
        rw [this]
        simp [List.getD_eq_getElem?_getD, hi'']
      · obtain ⟨i, hi', rfl⟩ := List.mem_map.1 hx
        exact (hf i (by simpa using hi')).2⟩
/-- the fields of a struct, each by what reads it -/
theorem Reads.fields {P : Program} {T : TypeId} {fs : Array Field} (ht : P.underlying T = some (.struct fs)) {H : Type} {enc : TypeId × Value → H} {w : World} {spare : Nat → Bool} {held : Bool} {fuel : Nat} {cs : List Value} {x : DataW H × List MemPlace}
    (h : DataW.trod enc P w 0 spare held fuel T cs = some x) : cs.length = P.cellsOf T ∧ ∀ (i : Nat) (f : Field), fs[i]? = some f → ∃ (n : Nat) (y : DataW H × List MemPlace), DataW.trod enc P w 0 spare held n f.type ((cs.drop f.offset).take (P.cellsOf f.type)) = some y := by
  obtain ⟨xs, n, _, _, hl, hlen, hx⟩ := DataW.trod_struct ht h
  refine ⟨hl, fun i f hf => ⟨n, ?_⟩⟩
  have hi : i < xs.length := by rw [hlen]; exact (Array.getElem?_eq_some_iff.1 hf).1
  exact ⟨xs[i], by rw [hx i f hf]; simp [hi]⟩
theorem Reads.conv {P : Program} {T : TypeId} {α β : Type} {cells : α → List Value} {ok : World → α → Prop} {cells' : β → List Value} {ok' : World → β → Prop} (h : Reads P T cells ok) (g : ∀ w a, ok w a → ∃ b, cells a = cells' b ∧ ok' w b) : Reads P T cells' ok' :=
  ⟨fun hx => by obtain ⟨a, rfl, hok⟩ := h.read hx; obtain ⟨b, e, hb⟩ := g _ a hok; exact ⟨b, e, hb⟩⟩
/-- an argument of one cell -/
theorem Reads.arg {P : Program} {T : TypeId} {α : Type} {cells : α → List Value} {ok : World → α → Prop} (h : Reads P T cells ok) {H : Type} {enc : TypeId × Value → H} {w : World} {spare : Nat → Bool} {held : Bool} {v : Value} {d : DataW H} {ps : List MemPlace}
    (hd : DataW.Trod enc P w 0 spare held T v d ps) : ∃ a, v.cells.toList = cells a ∧ ok w a := by
  obtain ⟨fuel, hf⟩ := hd
  exact h.read hf
end Go.Proofs.Ytcbpdjenncbbeaa
/- Packets in memory; oddSet, size, Check. -/
namespace Go.Proofs.Ytcbpdjenncbbeaa.Ip
open Go.RowKit

theorem alc {B : Nat} {w w2 w3 : World} {o : Obj} (h : Below B w w2) (hB : B ≤ w.heap.size) (h3 : Below (w2.alloc o).heap.size (w2.alloc o) w3) : Below B w w3 :=
  have hB2 := Nat.le_trans hB h.size
  have ha := h.alloc hB2 o
  ha.trans (h3.mono (Nat.le_trans hB ha.size))
theorem bcall {B : Nat} {w w2 w3 : World} (h : Below B w w2) (hB : B ≤ w.heap.size) (h3 : Below w2.heap.size w2 w3) : Below B w w3 := h.trans (h3.mono (Nat.le_trans hB h.size))
theorem blk_alc {w2 w3 : World} {o : Obj} (h : Below (w2.alloc o).heap.size (w2.alloc o) w3) : w3.heap[w2.heap.size]? = some o := (h.block _ (lt_of_blk (hnew _ _))).trans (hnew _ _)
theorem wrapS {i n : Nat} (h : i < n) (hn : n ≤ maxLen) : wrap64 ((i : Int) + 1) = ((i + 1 : Nat) : Int) := by unfold maxLen at hn; unfold wrap64; omega
theorem mSucc {i n : Nat} (h : i < n) : n - (intOf (.int .i64 ((i + 1 : Nat) : Int))).toNat < n - (intOf (.int .i64 (i : Int))).toNat := by show n - ((i + 1 : Nat) : Int).toNat < n - (i : Int).toNat; omega
instance {α : Type} : Inhabited (SlV α) := ⟨⟨none, 0, 0, []⟩⟩
/-- a set's cells -/
def RSt : Rep (Int × SlV Nat) := ⟨83, 2, by decide, fun x => [.int .i64 x.1, .slice x.2.a x.2.n x.2.c], fun _ => rfl, fun _ => rfl⟩
def SlV.v {α : Type} (s : SlV α) : Value := .slice s.a s.n s.c
/-- data of a set -/
def DOk (w : World) (s : SlV Nat) : Prop := SlOk RB (fun _ b => b < 256) w s
def StOk (w : World) (x : Int × SlV Nat) : Prop := (-9223372036854775808 ≤ x.1 ∧ x.1 ≤ 9223372036854775807) ∧ DOk w x.2
def StsOk (w : World) (s : SlV (Int × SlV Nat)) : Prop := SlOk RSt StOk w s
theorem SlOk.keepW {α : Type} [Inhabited α] {R : Rep α} {ok : World → α → Prop} {w w' : World} {s : SlV α} (h : SlOk R ok w s) (hb : Below w.heap.size w w') (hk : ∀ x, ok w x → ok w' x) : SlOk R ok w' s := ⟨h.sl.keep hb, h.nil, h.nc, h.cm, fun x hx => hk x (h.all x hx)⟩
theorem DOk.keep {w w' : World} {s : SlV Nat} (h : DOk w s) (hb : Below w.heap.size w w') : DOk w' s := SlOk.keepW h hb (fun _ h => h)
theorem StOk.keep {w w' : World} {x : Int × SlV Nat} (h : StOk w x) (hb : Below w.heap.size w w') : StOk w' x := ⟨h.1, h.2.keep hb⟩
theorem StsOk.keep {w w' : World} {s : SlV (Int × SlV Nat)} (h : StsOk w s) (hb : Below w.heap.size w w') : StsOk w' s := SlOk.keepW h hb (fun _ h => h.keep hb)
/-- a packet -/
structure Pk where
  tm : Int
  sq : Int
  dm : Int
  ss : SlV (Int × SlV Nat)
def Pk.v (p : Pk) : Value := .agg #[.int .i64 p.tm, .int .i64 p.sq, .int .i64 p.dm, .slice p.ss.a p.ss.n p.ss.c]
def oddI (id : Int) (n : Nat) : Bool := !(decide (id = 2) || (decide (256 ≤ id) && decide (id ≤ 65535))) || !(decide ((1 : Int) ≤ n) && decide ((n : Int) ≤ 65000))
def sz (n : Nat) : List (Int × SlV Nat) → Nat
  | [] => n
  | s :: r => if oddI s.1 s.2.n = true ∨ 65535 < n then 65536 else sz (n + 4 + s.2.n) r
theorem sz_cons (n : Nat) (s : Int × SlV Nat) (r : List (Int × SlV Nat)) : sz n (s :: r) = if oddI s.1 s.2.n = true ∨ 65535 < n then 65536 else sz (n + 4 + s.2.n) r := rfl
def m32 (n : Int) : Bool := decide (0 ≤ n) && decide (n ≤ 4294967295)
def okP (p : Pk) : Bool := m32 p.tm && m32 p.sq && m32 p.dm && decide (sz 16 p.ss.l ≤ 65535)

set_option maxRecDepth 100000 in
theorem odd_any (id : Int) (oa : Option Addr) (n c : Nat) (w : World) : Calls Try.prog 78 #[.agg #[.int .i64 id, .slice oa n c]] w fun e w' => e = .returned (.bool (oddI id n)) ∧ Below w.heap.size w w' := by
  have hal := (Below.refl w.heap.size w).alloc (Nat.le_refl _) (.cells #[.int .i64 id, .slice oa n c] 83)
  have HA := Lib.hid hal
  clear hal
  go_enter Try.func78, Try.ntmps78
  by_cases h2 : id = 2
  · subst h2
    go_wp2_with fail
    refine (within_any _ _ _ _).mono ?_
    rintro e w1 ⟨rfl, hw⟩
    have HW := Lib.hid hw
    clear hw
    go_wp2_with fail
    go_ret
    refine ⟨?_, HW.out ▸ HA.out⟩
    simp [oddI]
  · go_wp2_with fail
    refine (within_any _ _ _ _).mono ?_
    rintro e w1 ⟨rfl, rfl⟩
    cases hc : (decide (256 ≤ id) && decide (id ≤ 65535)) with
    | false =>
      go_wp2_with fail
      go_ret
      exact ⟨by simp only [oddI, hc, h2]; rfl, HA.out⟩
    | true =>
      go_wp2_with fail
      refine (within_any _ _ _ _).mono ?_
      rintro e w1 ⟨rfl, hw⟩
      have HW := Lib.hid hw
      clear hw
      go_wp2_with fail
      go_ret
      refine ⟨?_, HW.out ▸ HA.out⟩
      simp only [oddI, hc, h2]; simp
set_option maxRecDepth 100000 in
set_option maxHeartbeats 400000 in
theorem size_any (tm sq dm : Int) (s : SlV (Int × SlV Nat)) (w : World) (hs : StsOk w s) (hn : ∀ x ∈ s.l, x.2.n ≤ 1000000000) : Calls Try.prog 68 #[.agg #[.int .i64 tm, .int .i64 sq, .int .i64 dm, .slice s.a s.n s.c]] w fun e w' => e = .returned (.int .i64 (sz 16 s.l : Nat)) ∧ Below w.heap.size w w' := by
  have hal := (Below.refl w.heap.size w).alloc (Nat.le_refl _) (.cells #[.int .i64 tm, .int .i64 sq, .int .i64 dm, .slice s.a s.n s.c] 76)
  have hlen := hs.sl.len.symm
  have HA := Lib.hid (And.intro hal (And.intro hs hn))
  clear hal hs hn
  obtain ⟨oa, n, c, l⟩ := s
  dsimp only at *
  go_enter Try.func68, Try.ntmps68
  go_wp2_with fail
  go_loopw [3, 5, 9] (fun sv _ iv wr => ∃ (i k : Nat), i ≤ n ∧ iv = .int .i64 i ∧ sv = .int .i64 (k : Nat) ∧ k ≤ 65535 + 1000000004 ∧ sz 16 l = sz k (l.drop i) ∧ Below w.heap.size w wr) (fun _ _ iv _ => n - (intOf iv).toNat)
  case atStart => exact ⟨0, 16, Nat.zero_le _, rfl, rfl, by omega, by rw [List.drop_zero], HA.out.1⟩
  case round =>
    obtain ⟨i, k, hi, rfl, rfl, hk, hsz, hb⟩ := hrel
    obtain ⟨w2, rfl⟩ : ∃ w2 : World, w2 = wr := ⟨_, rfl⟩
    by_cases hlt : i < n
    · obtain ⟨bb, oo, rfl, hbb, hat⟩ := (HA.out.2.1.sl.keep hb).at hlt
      have c0 := hat 0 (by decide)
      have c1 := hat 1 (by decide)
      simp only [RSt, Nat.add_zero, List.getElem?_cons_zero, List.getElem?_cons_succ] at c0 c1
      have hil : ((i : Int) < (n : Int)) = True := by simp; omega
      have hd : l.drop i = l.getD i default :: l.drop (i + 1) := by rw [List.drop_eq_getElem_cons (by omega)]; simp [List.getD_eq_getElem?_getD, show i < l.length by omega]
      have hx : (l.getD i default).2.n ≤ 1000000000 := HA.out.2.2 _ (by rw [List.getD_eq_getElem?_getD, List.getElem?_eq_getElem (by omega)]; simp)
      rw [hd] at hsz
      generalize l.getD i default = x at *
      rw [sz_cons] at hsz
      have HB := Lib.hid (And.intro hb hsz)
      clear hb hsz hat
      go_wp2_with fail
      refine (odd_any _ _ _ _ _).mono ?_
      rintro e w3 ⟨rfl, hb3⟩
      have HC := Lib.hid (alc HB.out.1 (Nat.le_refl _) hb3)
      have c5 := cell_of (o := 1) (blk_alc hb3) rfl
      clear hb3
      cases ho : oddI x.1 x.2.n with
      | true =>
        go_wp2_with fail
        go_ret
        exact ⟨by rw [HB.out.2, if_pos (.inl ho)]; rfl, HC.out⟩
      | false =>
        by_cases hk2 : 65535 < k
        · have hkk : ((65535 : Int) < (k : Int)) = True := by simp; omega
          go_wp2_with fail
          go_ret
          exact ⟨by rw [HB.out.2, if_pos (.inr hk2)]; rfl, HC.out⟩
        · have hkk : ((65535 : Int) < (k : Int)) = False := by simp; omega
          have hw1 : IntKind.i64.wrap ((4 : Int) + (x.2.n : Int)) = 4 + x.2.n := IntWalk.i64_in _ (by omega)
          have hw2 : IntKind.i64.wrap ((k : Int) + (4 + (x.2.n : Int))) = ((k + 4 + x.2.n : Nat) : Int) := by rw [IntWalk.i64_in _ (by omega)]; omega
          have hw3 := wrapS hlt HA.out.2.1.sl.max
          go_wp2_with fail
          exact ⟨⟨i + 1, k + 4 + x.2.n, hlt, by rw [hw3], rfl, by omega, by rw [HB.out.2, if_neg (by rw [ho]; rintro (h | h); cases h; omega)], HC.out⟩, by rw [hw3]; exact mSucc hlt⟩
    · obtain rfl : n = i := by omega
      have hil : ((n : Int) < (n : Int)) = False := by simp
      have HB := Lib.hid (And.intro hb hsz)
      clear hb hsz
      go_wp2_with fail
      go_ret
      refine ⟨?_, HB.out.1⟩
      rw [HB.out.2, List.drop_eq_nil_of_le (by omega)]; rfl
set_option maxRecDepth 100000 in
set_option maxHeartbeats 400000 in
theorem check_any (p : Pk) (w : World) (hs : StsOk w p.ss) (hn : ∀ x ∈ p.ss.l, x.2.n ≤ 1000000000) : Calls Try.prog 55 #[p.v] w fun e w' => e = .returned (.int .i64 (if okP p then 0 else 310)) ∧ Below w.heap.size w w' := by
  unfold Pk.v
  have hal := (Below.refl w.heap.size w).alloc (Nat.le_refl _) (.cells #[.int .i64 p.tm, .int .i64 p.sq, .int .i64 p.dm, .slice p.ss.a p.ss.n p.ss.c] 76)
  have HA := Lib.hid (And.intro hal (And.intro hs hn))
  clear hal hs hn
  generalize hR : (if okP p then (0 : Int) else 310) = R
  have HR := Lib.hid hR
  clear hR
  obtain ⟨tm, sq, dm, s⟩ := p
  dsimp only at *
  go_enter Try.func55, Try.ntmps55
  go_wp2_with fail
  have h24 := hold (o := .cells #[.int .i64 tm, .int .i64 sq, .int .i64 dm] 3) (hnew w (.cells #[.int .i64 tm, .int .i64 sq, .int .i64 dm, .slice s.a s.n s.c] 76))
  have h3 := hnewAt (w := w.alloc (.cells #[.int .i64 tm, .int .i64 sq, .int .i64 dm, .slice s.a s.n s.c] 76)) (o := .cells #[.int .i64 tm, .int .i64 sq, .int .i64 dm] 3) (n := w.heap.size + 1) (Array.size_push _).symm
  have hb1 := HA.out.1.alloc HA.out.1.size (.cells #[.int .i64 tm, .int .i64 sq, .int .i64 dm] 3)
  generalize (w.alloc (.cells #[.int .i64 tm, .int .i64 sq, .int .i64 dm, .slice s.a s.n s.c] 76)).alloc (.cells #[.int .i64 tm, .int .i64 sq, .int .i64 dm] 3) = W at *
  have c0 := cell_of (o := 0) h3 rfl
  have c1 := cell_of (o := 1) h3 rfl
  have c2 := cell_of (o := 2) h3 rfl
  have HS := Lib.hid (And.intro h24 (And.intro hb1 (And.intro (HA.out.2.1.keep hb1) HA.out.2.2)))
  clear h24 h3 hb1 HA
  go_loopw [4, 13] (fun _ iv wr => ∃ i : Nat, i ≤ 3 ∧ iv = .int .i64 i ∧ (0 < i → m32 tm = true) ∧ (1 < i → m32 sq = true) ∧ (2 < i → m32 dm = true) ∧ wr = W) (fun _ iv _ => 3 - (intOf iv).toNat)
  case atStart => exact ⟨0, Nat.zero_le _, rfl, by omega, by omega, by omega, rfl⟩
  case round =>
    obtain ⟨i, hi, rfl, r0, r1, r2, rfl⟩ := hrel
    have hi4 : i = 0 ∨ i = 1 ∨ i = 2 ∨ i = 3 := by omega
    rcases hi4 with rfl | rfl | rfl | rfl
    · go_wp2_with fail
      refine (within_any _ _ _ _).mono ?_
      rintro e w3 ⟨rfl, hw⟩
      subst hw
      cases hc : (decide (0 ≤ tm) && decide (tm ≤ 4294967295)) with
      | false =>
        have hc2 : m32 tm = false := hc
        have HC := Lib.hid hc2
        clear hc2
        go_wp2_with fail
        go_ret
        exact ⟨by rw [← HR.out]; simp [okP, HC.out], HS.out.2.1⟩
      | true =>
        have hc2 : m32 tm = true := hc
        have HC := Lib.hid (And.intro hc2 (And.intro r0 (And.intro r1 r2)))
        clear hc2 r0 r1 r2
        go_wp2_with fail
        exact ⟨⟨1, by omega, rfl, fun _ => HC.out.1, fun h => absurd h (by omega), fun h => absurd h (by omega), trivial⟩, by decide⟩
    · go_wp2_with fail
      refine (within_any _ _ _ _).mono ?_
      rintro e w3 ⟨rfl, hw⟩
      subst hw
      cases hc : (decide (0 ≤ sq) && decide (sq ≤ 4294967295)) with
      | false =>
        have hc2 : m32 sq = false := hc
        have HC := Lib.hid hc2
        clear hc2
        go_wp2_with fail
        go_ret
        exact ⟨by rw [← HR.out]; simp [okP, HC.out], HS.out.2.1⟩
      | true =>
        have hc2 : m32 sq = true := hc
        have HC := Lib.hid (And.intro hc2 (And.intro r0 (And.intro r1 r2)))
        clear hc2 r0 r1 r2
        go_wp2_with fail
        exact ⟨⟨2, by omega, rfl, fun _ => HC.out.2.1 (by omega), fun _ => HC.out.1, fun h => absurd h (by omega), trivial⟩, by decide⟩
    · go_wp2_with fail
      refine (within_any _ _ _ _).mono ?_
      rintro e w3 ⟨rfl, hw⟩
      subst hw
      cases hc : (decide (0 ≤ dm) && decide (dm ≤ 4294967295)) with
      | false =>
        have hc2 : m32 dm = false := hc
        have HC := Lib.hid hc2
        clear hc2
        go_wp2_with fail
        go_ret
        exact ⟨by rw [← HR.out]; simp [okP, HC.out], HS.out.2.1⟩
      | true =>
        have hc2 : m32 dm = true := hc
        have HC := Lib.hid (And.intro hc2 (And.intro r0 (And.intro r1 r2)))
        clear hc2 r0 r1 r2
        go_wp2_with fail
        exact ⟨⟨3, by omega, rfl, fun _ => HC.out.2.1 (by omega), fun _ => HC.out.2.2.1 (by omega), fun _ => HC.out.1, trivial⟩, by decide⟩
    · have HC := Lib.hid (And.intro (r0 (by omega)) (And.intro (r1 (by omega)) (r2 (by omega))))
      clear r0 r1 r2
      have d0 := cell_of (o := 0) HS.out.1 rfl
      have d1 := cell_of (o := 1) HS.out.1 rfl
      have d2 := cell_of (o := 2) HS.out.1 rfl
      have d3 := cell_of (o := 3) HS.out.1 rfl
      go_wp2_with fail
      refine (size_any _ _ _ _ _ HS.out.2.2.1 HS.out.2.2.2).mono ?_
      rintro e w3 ⟨rfl, hb3⟩
      have HT := Lib.hid (bcall HS.out.2.1 (Nat.le_refl _) hb3)
      clear hb3
      by_cases hz : sz 16 s.l ≤ 65535
      · have hzz : ((65535 : Int) < (sz 16 s.l : Nat)) = False := by simp; omega
        have HZ := Lib.hid hz
        go_wp2_with fail
        go_ret
        exact ⟨by rw [← HR.out]; simp [okP, HC.out, hz], HT.out⟩
      · have hzz : ((65535 : Int) < (sz 16 s.l : Nat)) = True := by simp; omega
        go_wp2_with fail
        go_ret
        exact ⟨by rw [← HR.out]; simp [okP, hz], HT.out⟩
end Go.Proofs.Ytcbpdjenncbbeaa.Ip
/- The reference's Check, Large. -/
namespace Go.Proofs.Ytcbpdjenncbbeaa.Ip
open Go.RowKit

theorem oddI_false {id : Int} {n : Nat} (h : oddI id n = false) : (id = 2 ∨ (256 ≤ id ∧ id ≤ 65535)) ∧ 1 ≤ n ∧ n ≤ 65000 := by
  simp [oddI] at h
  omega
theorem drop_get {α : Type} [Inhabited α] (l : List α) (i : Nat) (h : i < l.length) : l.drop i = l.getD i default :: l.drop (i + 1) := by rw [List.drop_eq_getElem_cons h]; simp [List.getD_eq_getElem?_getD, h]
theorem szBad {k : Nat} {x : Int × SlV Nat} {r : List (Int × SlV Nat)} (h : (x.1 ≠ 2 ∧ x.1 < 256) ∨ 65535 < x.1 ∨ x.2.n < 1 ∨ 65000 < x.2.n ∨ 65535 < k) : sz k (x :: r) = 65536 := by
  rw [sz_cons, if_pos]
  by_cases ho : oddI x.1 x.2.n = true
  · exact .inl ho
  · have := oddI_false (by simpa using ho)
    omega
theorem szOk {k : Nat} {x : Int × SlV Nat} {r : List (Int × SlV Nat)} (h : ¬ ((x.1 ≠ 2 ∧ x.1 < 256) ∨ 65535 < x.1 ∨ x.2.n < 1 ∨ 65000 < x.2.n ∨ 65535 < k)) : sz k (x :: r) = sz (k + 4 + x.2.n) r := by
  rw [sz_cons, if_neg]
  simp [oddI]
  omega
end Go.Proofs.Ytcbpdjenncbbeaa.Ip
/- Templates: odd, Size. -/
namespace Go.Proofs.Ytcbpdjenncbbeaa.Ip
open Go.RowKit

def RFd : Rep (Int × Int) := ⟨129, 2, by decide, fun x => [.int .i64 x.1, .int .i64 x.2], fun _ => rfl, fun _ => rfl⟩
def FdOk (_ : World) (x : Int × Int) : Prop := (-9223372036854775808 ≤ x.1 ∧ x.1 ≤ 9223372036854775807) ∧ (-9223372036854775808 ≤ x.2 ∧ x.2 ≤ 9223372036854775807)
def FdsOk (w : World) (s : SlV (Int × Int)) : Prop := SlOk RFd FdOk w s
theorem FdsOk.keep {w w' : World} {s : SlV (Int × Int)} (h : FdsOk w s) (hb : Below w.heap.size w w') : FdsOk w' s := SlOk.keepW h hb (fun _ h => h)
/-- a template -/
structure Tm where
  id : Int
  fs : SlV (Int × Int)
def Tm.v (t : Tm) : Value := .agg #[.int .i64 t.id, .slice t.fs.a t.fs.n t.fs.c]
def inB (a n b : Int) : Bool := decide (a ≤ n) && decide (n ≤ b)
def oddFd (x : Int × Int) : Bool := !inB 0 x.1 32767 || !inB 1 x.2 65534
def oddT (t : Tm) : Bool := !inB 256 t.id 65535 || !inB 1 t.fs.n 32 || t.fs.l.any oddFd
def szF (l : List (Int × Int)) : Nat := (l.map fun x => x.2.toNat).sum
def szT (t : Tm) : Nat := if oddT t then 0 else szF t.fs.l
def CalleeF (f : Nat) : Value := .func (.func f) #[] #[]

set_option maxRecDepth 100000 in
theorem oddFd_any (x : Int × Int) (w : World) : Calls Try.prog 80 #[.agg #[.int .i64 x.1, .int .i64 x.2]] w fun e w' => e = .returned (.bool (oddFd x)) ∧ Below w.heap.size w w' := by
  have hal := (Below.refl w.heap.size w).alloc (Nat.le_refl _) (.cells #[.int .i64 x.1, .int .i64 x.2] 129)
  have HA := Lib.hid hal
  clear hal
  obtain ⟨a, b⟩ := x
  dsimp only at *
  have hr : oddFd (a, b) = (!(decide (0 ≤ a) && decide (a ≤ 32767)) || !(decide (1 ≤ b) && decide (b ≤ 65534))) := rfl
  generalize oddFd (a, b) = R at *
  have HR := Lib.hid hr
  clear hr
  go_enter Try.func80, Try.ntmps80
  go_wp2_with fail
  refine (within_any _ _ _ _).mono ?_
  rintro e w1 ⟨rfl, rfl⟩
  cases hc : (decide (0 ≤ a) && decide (a ≤ 32767)) with
  | false =>
    go_wp2_with fail
    go_ret
    exact ⟨by rw [HR.out, hc]; rfl, HA.out⟩
  | true =>
    go_wp2_with fail
    refine (within_any _ _ _ _).mono ?_
    rintro e w1 ⟨rfl, hw⟩
    have HW := Lib.hid hw
    clear hw
    go_wp2_with fail
    go_ret
    refine ⟨?_, HW.out ▸ HA.out⟩
    rw [HR.out, hc]; simp
set_option maxRecDepth 100000 in
set_option maxHeartbeats 400000 in
theorem index_fd {w : World} {s : SlV (Int × Int)} (h : FdsOk w s) : Calls Try.prog 82 #[.slice s.a s.n s.c, CalleeF 80] w fun e w' => (∃ r : Int, e = .returned (.int .i64 r) ∧ (decide (0 ≤ r)) = s.l.any oddFd) ∧ Below w.heap.size w w' := by
  have hlen := h.sl.len.symm
  have H := Lib.hid h
  clear h
  obtain ⟨oa, n, c, l⟩ := s
  dsimp only at *
  unfold CalleeF
  go_enter Try.func82, Try.ntmps82
  go_wp2_with fail
  go_loopw [5, 8] (fun _ iv wr => ∃ i : Nat, i ≤ n ∧ iv = .int .i64 i ∧ (l.take i).any oddFd = false ∧ Below w.heap.size w wr) (fun _ iv _ => n - (intOf iv).toNat)
  case atStart => exact ⟨0, Nat.zero_le _, rfl, rfl, Below.refl _ _⟩
  case round =>
    obtain ⟨i, hi, rfl, hany, hb⟩ := hrel
    obtain ⟨w2, rfl⟩ : ∃ w2 : World, w2 = wr := ⟨_, rfl⟩
    by_cases hlt : i < n
    · obtain ⟨bb, oo, rfl, hbb, hat⟩ := (H.out.keep hb).sl.at hlt
      have c0 := hat 0 (by decide)
      have c1 := hat 1 (by decide)
      simp only [RFd, Nat.add_zero, List.getElem?_cons_zero, List.getElem?_cons_succ] at c0 c1
      have hil : ((i : Int) < (n : Int)) = True := by simp; omega
      have ht : l.take (i + 1) = l.take i ++ [l.getD i default] := take_snoc l i (by omega)
      have hd := drop_get l i (by omega)
      have hmem : l.getD i default ∈ l := getD_mem (by omega)
      generalize l.getD i default = x at *
      have hw3 := wrapS hlt H.out.sl.max
      have HB := Lib.hid (And.intro hb (And.intro hany (And.intro ht hmem)))
      clear hb hany ht hmem hd hat
      go_wp2_with fail
      refine (oddFd_any x _).mono ?_
      rintro e w3 ⟨rfl, hb3⟩
      have HC := Lib.hid (bcall HB.out.1 (Nat.le_refl _) hb3)
      clear hb3
      cases ho : oddFd x with
      | true =>
        go_wp2_with fail
        go_ret
        refine ⟨⟨_, rfl, ?_⟩, HC.out⟩
        have : l.any oddFd = true := List.any_eq_true.2 ⟨x, HB.out.2.2.2, ho⟩
        rw [this]; simp
      | false =>
        go_wp2_with fail
        exact ⟨⟨i + 1, hlt, by first | rw [hw3] | rw [Int.natCast_succ], by rw [HB.out.2.2.1, List.any_append, HB.out.2.1]; simp [ho], HC.out⟩, by first | (rw [hw3]; exact mSucc hlt) | (rw [← Int.natCast_succ]; exact mSucc hlt)⟩
    · obtain rfl : n = i := by omega
      have hil : ((n : Int) < (n : Int)) = False := by simp
      rw [List.take_of_length_le (by omega)] at hany
      have HB := Lib.hid (And.intro hb hany)
      clear hb hany
      go_wp2_with fail
      go_ret
      exact ⟨⟨_, rfl, by rw [HB.out.2]; decide⟩, HB.out.1⟩
theorem contains_fd {w : World} {s : SlV (Int × Int)} (h : FdsOk w s) : Calls Try.prog 79 #[.slice s.a s.n s.c, CalleeF 80] w fun e w' => e = .returned (.bool (s.l.any oddFd)) ∧ Below w.heap.size w w' := by
  have H := Lib.hid (index_fd h)
  clear h
  generalize s.l.any oddFd = R at *
  unfold CalleeF at *
  go_enter Try.func79, Try.ntmps79
  go_wp2_with fail
  refine (H.out).mono ?_
  rintro e w3 ⟨⟨r, rfl, hr⟩, hb⟩
  have HC := Lib.hid (And.intro hr hb)
  clear hr hb
  go_wp2_with fail
  go_ret
  refine ⟨?_, HC.out.2⟩
  rw [← HC.out.1]
  rfl
set_option maxRecDepth 100000 in
theorem odd_tm (t : Tm) (w : World) (h : FdsOk w t.fs) : Calls Try.prog 70 #[t.v] w fun e w' => e = .returned (.bool (oddT t)) ∧ Below w.heap.size w w' := by
  have hal := (Below.refl w.heap.size w).alloc (Nat.le_refl _) (.cells #[.int .i64 t.id, .slice t.fs.a t.fs.n t.fs.c] 93)
  have hr : oddT t = (!(decide (256 ≤ t.id) && decide (t.id ≤ 65535)) || !(decide ((1 : Int) ≤ t.fs.n) && decide ((t.fs.n : Int) ≤ 32)) || t.fs.l.any oddFd) := rfl
  unfold Tm.v
  obtain ⟨id, s⟩ := t
  dsimp only at *
  have hc := contains_fd (h.keep hal)
  generalize s.l.any oddFd = Y at *
  generalize oddT _ = R at *
  have HA := Lib.hid (And.intro hal (And.intro hr hc))
  clear hal hr hc h
  unfold CalleeF at *
  go_enter Try.func70, Try.ntmps70
  go_wp2_with fail
  refine (within_any _ _ _ _).mono ?_
  rintro e w1 ⟨rfl, hw⟩
  subst w1
  cases h1 : (decide (256 ≤ id) && decide (id ≤ 65535)) with
  | false =>
    go_wp2_with fail
    go_ret
    exact ⟨by rw [HA.out.2.1, h1]; rfl, HA.out.1⟩
  | true =>
    go_wp2_with fail
    refine (within_any _ _ _ _).mono ?_
    rintro e w1 ⟨rfl, hw⟩
    subst w1
    cases h2 : (decide ((1 : Int) ≤ s.n) && decide ((s.n : Int) ≤ 32)) with
    | false =>
      go_wp2_with fail
      go_ret
      exact ⟨by rw [HA.out.2.1, h1, h2]; rfl, HA.out.1⟩
    | true =>
      go_wp2_with fail
      refine (HA.out.2.2).mono ?_
      rintro e w3 ⟨rfl, hb⟩
      have HC := Lib.hid (bcall HA.out.1 (Nat.le_refl _) hb)
      clear hb
      go_wp2_with fail
      go_ret
      exact ⟨by rw [HA.out.2.1, h1, h2]; simp, HC.out⟩
def TmS (b : Nat) (cs : Array Value) (w : World) : Prop := w.heap[b]? = some (.cells cs 93)
theorem TmS.cells {b : Nat} {x0 x1 : Value} {w : World} (h : TmS b #[x0, x1] w) : w.cell? ⟨b, 0, none⟩ = some x0 ∧ w.cell? ⟨b, 1, none⟩ = some x1 := ⟨cell_of h rfl, cell_of h rfl⟩
theorem TmS.on {b : Nat} {cs : Array Value} {w w' : World} (h : TmS b cs w) (hb : Below w.heap.size w w') : TmS b cs w' := (hb.block _ (lt_of_blk h)).trans h
theorem oddFd_false {x : Int × Int} (h : oddFd x = false) : 0 ≤ x.1 ∧ x.1 ≤ 32767 ∧ 1 ≤ x.2 ∧ x.2 ≤ 65534 := by
  simp [oddFd, inB] at h
  omega
theorem oddT_false {t : Tm} (h : oddT t = false) : 256 ≤ t.id ∧ t.id ≤ 65535 ∧ 1 ≤ t.fs.n ∧ t.fs.n ≤ 32 ∧ ∀ x ∈ t.fs.l, oddFd x = false := by
  simp [oddT, inB] at h
  obtain ⟨⟨h1, h2⟩, h3⟩ := h
  refine ⟨by omega, by omega, by omega, by omega, fun x hx => ?_⟩
  have := h3 x.1 x.2 hx
  simpa using this
theorem szF_snoc (l : List (Int × Int)) (x : Int × Int) : szF (l ++ [x]) = szF l + x.2.toNat := by simp [szF]
theorem szF_take (l : List (Int × Int)) (h : ∀ x ∈ l, oddFd x = false) (i : Nat) : szF (l.take i) ≤ i * 65534 := by
  induction i with
  | zero => simp [szF]
  | succ i ih =>
    by_cases hi : i < l.length
    · rw [take_snoc l i hi, szF_snoc]
      have := oddFd_false (h _ (getD_mem hi))
      omega
    · rw [List.take_of_length_le (by omega)] at ih ⊢
      exact Nat.le_trans ih (Nat.mul_le_mul_right _ (Nat.le_succ i))
set_option maxRecDepth 100000 in
set_option maxHeartbeats 400000 in
theorem size_tm (t : Tm) (w : World) (h : FdsOk w t.fs) : Calls Try.prog 71 #[t.v] w fun e w' => e = .returned (.int .i64 (szT t : Nat)) ∧ Below w.heap.size w w' := by
  have hal := (Below.refl w.heap.size w).alloc (Nat.le_refl _) (.cells #[.int .i64 t.id, .slice t.fs.a t.fs.n t.fs.c] 93)
  have hb1 : TmS w.heap.size #[.int .i64 t.id, .slice t.fs.a t.fs.n t.fs.c] (w.alloc (.cells #[.int .i64 t.id, .slice t.fs.a t.fs.n t.fs.c] 93)) := hnew _ _
  have ho := odd_tm t _ (h.keep hal)
  have hof := @oddT_false t
  have hsz : szT t = if oddT t then 0 else szF t.fs.l := rfl
  unfold Tm.v at *
  generalize oddT t = R at *
  generalize szT t = Z at *
  obtain ⟨id, s⟩ := t
  obtain ⟨oa, n, c, l⟩ := s
  dsimp only at *
  have HA := Lib.hid (And.intro hal (And.intro hb1 (And.intro ho (And.intro h hof))))
  have hlen := h.sl.len.symm
  dsimp only at hlen
  clear hal hb1 ho h hof
  go_enter Try.func71, Try.ntmps71
  go_wp2_with fail
  refine (HA.out.2.2.1).mono ?_
  rintro e w1 ⟨rfl, hb⟩
  have HB := Lib.hid (And.intro (bcall HA.out.1 (Nat.le_refl _) hb) (HA.out.2.1.on hb))
  clear hb
  cases R with
  | true =>
    have HZ := Lib.hid hsz
    clear hsz
    go_wp2_with fail
    go_ret
    exact ⟨by rw [HZ.out]; rfl, HB.out.1⟩
  | false =>
    have HZ := Lib.hid hsz
    clear hsz
    obtain ⟨e0, e1⟩ := HB.out.2.cells
    go_wp2_with fail
    clear e0 e1
    go_loopw [3, 5, 11] (fun sv _ iv wr => ∃ i : Nat, i ≤ n ∧ iv = .int .i64 i ∧ sv = .int .i64 (szF (l.take i) : Nat) ∧ Below w.heap.size w wr) (fun _ _ iv _ => n - (intOf iv).toNat)
    case atStart => exact ⟨0, Nat.zero_le _, rfl, rfl, HB.out.1⟩
    case round =>
      obtain ⟨i, hi, rfl, rfl, hb⟩ := hrel
      obtain ⟨w2, rfl⟩ : ∃ w2 : World, w2 = wr := ⟨_, rfl⟩
      by_cases hlt : i < n
      · obtain ⟨bb, oo, rfl, hbb, hat⟩ := (HA.out.2.2.2.1.keep hb).sl.at hlt
        have c0 := hat 0 (by decide)
        have c1 := hat 1 (by decide)
        simp only [RFd, Nat.add_zero, List.getElem?_cons_zero, List.getElem?_cons_succ] at c0 c1
        have hil : ((i : Int) < (n : Int)) = True := by simp; omega
        have ht : l.take (i + 1) = l.take i ++ [l.getD i default] := take_snoc l i (by omega)
        have hodd := HA.out.2.2.2.2 (by first | exact rfl | trivial)
        have hx := oddFd_false (hodd.2.2.2.2 _ (getD_mem (i := i) (by first | omega | (simp only; omega))))
        have hst := szF_take l hodd.2.2.2.2 i
        have h32 := hodd.2.2.2.1
        try dsimp only at hx hst h32
        generalize l.getD i default = x at *
        obtain ⟨x1, x2⟩ := x
        dsimp only at *
        obtain ⟨xn, rfl⟩ := Int.eq_ofNat_of_zero_le (a := x2) (by omega)
        have hs1 : szF (l.take (i + 1)) = szF (l.take i) + xn := by rw [ht, szF_snoc]; rfl
        generalize szF (l.take i) = k at *
        have hk : k ≤ 3000000 := by have : i * 65534 ≤ 32 * 65534 := Nat.mul_le_mul_right _ (by omega); omega
        have hw1 : IntKind.i64.wrap ((k : Int) + (xn : Int)) = ((k + xn : Nat) : Int) := by rw [IntWalk.i64_in _ (by omega)]; omega
        have hw3 := wrapS hlt HA.out.2.2.2.1.sl.max
        have HC := Lib.hid (And.intro (hb.alloc hb.size (.cells #[.int .i64 x1, .int .i64 (xn : Int)] 129)) hs1)
        clear hb ht hodd hx hst h32 hs1 hk hat
        go_wp2_with fail
        exact ⟨⟨i + 1, hlt, by first | rw [hw3] | rw [Int.natCast_succ], by rw [HC.out.2] <;> first | rfl | (rw [hw1]), HC.out.1⟩, by first | (rw [hw3]; exact mSucc hlt) | (rw [← Int.natCast_succ]; exact mSucc hlt)⟩
      · obtain rfl : n = i := by omega
        have hil : ((n : Int) < (n : Int)) = False := by simp
        have he : l.take n = l := List.take_of_length_le (by omega)
        rw [he]
        have HC := Lib.hid hb
        clear hb he
        go_wp2_with fail
        go_ret
        exact ⟨by rw [HZ.out]; rfl, HC.out⟩
theorem oddT_def (id : Int) (s : SlV (Int × Int)) : oddT ⟨id, s⟩ = (!inB 256 id 65535 || !inB 1 s.n 32 || s.l.any oddFd) := rfl
theorem inB_true {a n b : Int} (h1 : a ≤ n) (h2 : n ≤ b) : inB a n b = true := by simp [inB, h1, h2]
theorem inB_false {a n b : Int} (h : n < a ∨ b < n) : inB a n b = false := by simp [inB]; omega
end Go.Proofs.Ytcbpdjenncbbeaa.Ip
/- Numbers' bytes. -/
namespace Go.Proofs.Ytcbpdjenncbbeaa.Ip
open Go.RowKit

/-- ints in a slice -/
def RIn : Rep Nat := ⟨3, 1, by decide, fun n => [.int .i64 (n : Int)], fun _ => rfl, fun _ => rfl⟩
def bes (k : Nat) (l : List Nat) : List Nat := l.flatMap (be k)
theorem bes_length (k : Nat) (l : List Nat) : (bes k l).length = l.length * k := by
  induction l with
  | nil => simp [bes]
  | cons a r ih => simp only [bes, List.flatMap_cons, List.length_append, be_length, List.length_cons, Nat.succ_mul] at *; omega
theorem bes_snoc (k : Nat) (l : List Nat) (a : Nat) : bes k (l ++ [a]) = bes k l ++ be k a := by simp [bes]
theorem two_any (n : Nat) (hn : n < 65536) (w : World) : Calls Try.prog 59 #[.int .i64 n] w fun e w' => ∃ v, e = .returned v ∧ RB.Own w' w.heap.size v (be 2 n) ∧ Below w.heap.size w w' := by
  go_enter Try.func59, Try.ntmps59
  go_wp2_with fail
  refine (rput2_any n hn _).mono ?_
  rintro e w3 ⟨v3, rfl, ho3, hb3⟩
  have HC := Lib.hid (And.intro ho3 hb3)
  clear ho3 hb3
  go_wp2_with fail
  go_ret
  exact ⟨_, rfl, HC.out.1, HC.out.2⟩
theorem four_any (n : Nat) (hn : n < 4294967296) (w : World) : Calls Try.prog 60 #[.int .i64 n] w fun e w' => ∃ v, e = .returned v ∧ RB.Own w' w.heap.size v (be 4 n) ∧ Below w.heap.size w w' := by
  go_enter Try.func60, Try.ntmps60
  go_wp2_with fail
  refine (rput4_any n hn _).mono ?_
  rintro e w3 ⟨v3, rfl, ho3, hb3⟩
  have HC := Lib.hid (And.intro ho3 hb3)
  clear ho3 hb3
  go_wp2_with fail
  go_ret
  exact ⟨_, rfl, HC.out.1, HC.out.2⟩
end Go.Proofs.Ytcbpdjenncbbeaa.Ip
/- Put. -/
namespace Go.Proofs.Ytcbpdjenncbbeaa.Ip
open Go.RowKit

theorem BSS.nil (w : World) : BSS w [] [] := ⟨rfl, fun j hj => (by cases hj)⟩
theorem BSS.cons {w : World} {vs : List (Option Addr × Nat × Nat)} {ls : List (List Nat)} (h : BSS w vs ls) {oa : Option Addr} {n c : Nat} {l : List Nat} (hs : RB.Sl w oa n c l) (hn : oa = none → c = 0) : BSS w ((oa, n, c) :: vs) (l :: ls) := by
  refine ⟨by simp [h.len], fun j hj => ?_⟩
  cases j with
  | zero => exact ⟨hs, hn⟩
  | succ j => exact h.all j (by simpa using hj)
def PkS (b : Nat) (cs : Array Value) (w : World) : Prop := w.heap[b]? = some (.cells cs 76)
theorem PkS.cells {b : Nat} {x0 x1 x2 x3 : Value} {w : World} (h : PkS b #[x0, x1, x2, x3] w) : w.cell? ⟨b, 0, none⟩ = some x0 ∧ w.cell? ⟨b, 1, none⟩ = some x1 ∧ w.cell? ⟨b, 2, none⟩ = some x2 ∧ w.cell? ⟨b, 3, none⟩ = some x3 := ⟨cell_of h rfl, cell_of h rfl, cell_of h rfl, cell_of h rfl⟩
theorem PkS.on {b : Nat} {cs : Array Value} {w w' : World} (h : PkS b cs w) (hb : Below w.heap.size w w') : PkS b cs w' := (hb.block _ (lt_of_blk h)).trans h
def StS (b : Nat) (cs : Array Value) (w : World) : Prop := w.heap[b]? = some (.cells cs 83)
theorem StS.cells {b : Nat} {x0 x1 : Value} {w : World} (h : StS b #[x0, x1] w) : w.cell? ⟨b, 0, none⟩ = some x0 ∧ w.cell? ⟨b, 1, none⟩ = some x1 := ⟨cell_of h rfl, cell_of h rfl⟩
theorem StS.on {b : Nat} {cs : Array Value} {w w' : World} (h : StS b cs w) (hb : Below w.heap.size w w') : StS b cs w' := (hb.block _ (lt_of_blk h)).trans h
def ssum (l : List (Int × SlV Nat)) : Nat := (l.map fun x => 4 + x.2.n).sum
theorem sz_ok (l : List (Int × SlV Nat)) : ∀ k, sz k l ≤ 65535 → sz k l = k + ssum l ∧ ∀ x ∈ l, oddI x.1 x.2.n = false := by
  induction l with
  | nil => intro k _; exact ⟨rfl, fun x hx => by cases hx⟩
  | cons x r ih =>
    intro k h
    rw [sz_cons] at h ⊢
    by_cases hc : oddI x.1 x.2.n = true ∨ 65535 < k
    · rw [if_pos hc] at h; omega
    · rw [if_neg hc] at h ⊢
      obtain ⟨h1, h2⟩ := ih _ h
      refine ⟨by rw [h1]; simp only [ssum, List.map_cons, List.sum_cons]; omega, fun y hy => ?_⟩
      rcases List.mem_cons.1 hy with rfl | hy
      · simpa using fun h => hc (.inl h)
      · exact h2 y hy
def setB (x : Int × SlV Nat) : List Nat := be 2 x.1.toNat ++ be 2 (x.2.n + 4) ++ x.2.l
def bodyB (l : List (Int × SlV Nat)) : List Nat := l.flatMap setB
def headB (tm sq dm k : Nat) : List Nat := bes 2 [10, k] ++ bes 4 [tm, sq, dm]
def pkB (p : Pk) : List Nat := headB p.tm.toNat p.sq.toNat p.dm.toNat (sz 16 p.ss.l) ++ bodyB p.ss.l
theorem bodyB_length {w : World} (l : List (Int × SlV Nat)) (h : ∀ x ∈ l, StOk w x) : (bodyB l).length = ssum l := by
  induction l with
  | nil => rfl
  | cons x r ih =>
    have h1 := ih (fun y hy => h y (by simp [hy]))
    have h2 := (h x (by simp)).2.sl.len
    unfold bodyB ssum at *
    simp only [List.flatMap_cons, List.map_cons, List.sum_cons, List.length_append, setB, be_length, h1, ← h2]
theorem ssum_take (l : List (Int × SlV Nat)) (i : Nat) : ssum (l.take i) ≤ ssum l := by
  unfold ssum
  conv => rhs; rw [← List.take_append_drop i l, List.map_append, List.sum_append]
  omega
theorem bodyB_snoc (l : List (Int × SlV Nat)) (x : Int × SlV Nat) : bodyB (l ++ [x]) = bodyB l ++ setB x := by simp [bodyB]
theorem headB_length (a b c k : Nat) : (headB a b c k).length = 16 := by simp [headB, bes_length]
theorem okP_nat {p : Pk} (h : okP p = true) : (∃ a b c : Nat, p.tm = a ∧ p.sq = b ∧ p.dm = c ∧ a < 4294967296 ∧ b < 4294967296 ∧ c < 4294967296) ∧ sz 16 p.ss.l ≤ 65535 := by
  simp [okP, m32] at h
  obtain ⟨a, ha⟩ := Int.eq_ofNat_of_zero_le h.1.1.1.1
  obtain ⟨b, hb⟩ := Int.eq_ofNat_of_zero_le h.1.1.2.1
  obtain ⟨c, hc⟩ := Int.eq_ofNat_of_zero_le h.1.2.1
  exact ⟨⟨a, b, c, ha, hb, hc, by omega, by omega, by omega⟩, h.2⟩

end Go.Proofs.Ytcbpdjenncbbeaa.Ip
/- append, and in which block its result lies. -/
namespace Go.Proofs.Ytcbpdjenncbbeaa
open Go Go.RowKit

/-- append's block is the old one, or new -/
theorem append_blockA {P : Program} (w : World) (base : Nat) (t ty e : TypeId) (i : TypeInfo) (z : Value) (size bytes : Nat) (ht : P.underlying t = some (.slice e)) (hi : P.info? e = some i) (hz : i.zero = some z)
    (hsize : i.size = size) (hby : i.bytes = bytes) (v : Value) (n : Nat) (xs : List Value) (hown : w.ownsRow base e size v n xs)
    (a : Addr) (m c : Nat) (news : List Value) (hl : news.length = m * size) (hnews : ∀ j u, news[j]? = some u → w.cell? (a.add j) = some u) (h1 : ∀ u ∈ news, u.oneCell' = true)
    (hm : 0 < m) (h63 : n + m ≤ maxLen) (hbytes : (n + m) * bytes ≤ 140737488355328) {v' : Value} {w' : World} (hrun : (Builtin.append_ #[t, t] ty #[v, .slice (some a) m c]).run P w = .ok v' w') :
    v'.ownBlock = v.ownBlock ∨ v'.ownBlock = some w.heap.size := by
  subst hsize
  subst hby
  have hsmall : n + m ≤ 9223372036854775807 := by simp only [maxLen] at h63; omega
  rcases hown.2 with ⟨rfl, rfl⟩ | ⟨g, cap, cur, rfl, hbg, hg, hnc, hcm, hcs, htake⟩
  · have hr := run_append_nil (P := P) w t ty e i z ht hi hz a m c news hl hnews (by omega) (by omega) (by have hb := hbytes; simp only [Nat.zero_add] at hb; omega)
    rw [hr] at hrun
    injection hrun with h2 _
    subst h2
    exact .inr rfl
  · by_cases hroom : n + m ≤ cap
    · have hfit : n * i.size + news.length ≤ cur.size := by rw [hl, hcs, ← Nat.add_mul]; exact Nat.mul_le_mul_right _ hroom
      have hr := run_append_room (P := P) w t ty e i ht hi g n cap cur hg a m c news hl hnews h1 hroom hfit
      rw [hr] at hrun
      injection hrun with h2 _
      subst h2
      exact .inl rfl
    · have holds : ∀ j u, xs[j]? = some u → w.cell? ((⟨g, 0, none⟩ : Addr).add j) = some u := hown.cells (g := g) rfl
      have hr := run_append_grow (P := P) w t ty e i z ht hi hz ⟨g, 0, none⟩ n cap xs hown.1 holds a m c news hl hnews (by omega) (by omega) (growslice_fits (by omega) hbytes)
      rw [hr] at hrun
      injection hrun with h2 _
      subst h2
      exact .inr rfl

namespace Rep
variable {α : Type} [Inhabited α] {R : Rep α} {P : Program} {ops : Array Oper} {rest : List Oper} {o : Oper} {a : Act} {Q : Exit → Act → World → Prop} {w : World}
theorem run_append_list2 {t ty : TypeId} {bytes : Nat} (hT : Ty P t R bytes) {base : Nat} {v : Value} {L : List α} (hown : R.Own w base v L) {sa : Option Addr} {m c : Nat} {M : List α} (hM : R.Sl w sa m c M) (h0 : 0 < m)
    (hmax : L.length + m ≤ maxLen) (hbytes : (L.length + m) * bytes ≤ 140737488355328) (hbase : base ≤ w.heap.size) :
    ∃ v' w', (Builtin.append_ #[t, t] ty #[v, .slice sa m c]).run P w = .ok v' w' ∧ R.Own w' base v' (L ++ M) ∧ Below base w w' ∧ ∀ bad, v.ownBlock ≠ some bad → bad < w.heap.size → v'.ownBlock ≠ some bad ∧ w'.heap[bad]? = w.heap[bad]? := by
  obtain ⟨b, off, rfl, hr⟩ := hM.row h0
  obtain ⟨v', w', e1, e2, e3, e4⟩ := run_append_list (ty := ty) hT hown hM (fun h => by cases h) hmax hbytes hbase
  obtain ⟨i, z, h1, h2, h3, h4, h5⟩ := hT.hi
  have hb := append_blockA w base t ty R.T i z R.k bytes hT.ht h1 h2 h3 h4 v L.length (R.flat L) hown ⟨b, off, none⟩ m c (R.flat M) (by rw [R.flat_length, ← hM.len]) (news_of_row hr) (fun u hu => R.flat_cell1 M u hu) h0 hmax hbytes e1
  refine ⟨v', w', e1, e2, e3, fun bad h6 h7 => ⟨?_, e4.block bad h7 (fun h => h6 h.symm)⟩⟩
  rcases hb with hb | hb
  · rw [hb]; exact h6
  · rw [hb]; intro h; injection h with h; omega
theorem append_list2 {t : TypeId} {bytes : Nat} (hT : Ty P t R bytes) (hgd : o.guard = none) (s x : Operand) (ho : o.op = .call { callee := .builtin .append, args := #[s, x], argTypes := #[t, t] })
    {base : Nat} {v : Value} {L : List α} (hs : a.eval s = v) (hown : R.Own w base v L) {sa : Option Addr} {m c : Nat} {M : List α} (hx : a.eval x = .slice sa m c) (hM : R.Sl w sa m c M) (h0 : 0 < m)
    (hmax : L.length + m ≤ maxLen) (hbytes : (L.length + m) * bytes ≤ 140737488355328) (hbase : base ≤ w.heap.size)
    (h : ∀ v' w', R.Own w' base v' (L ++ M) → Below base w w' → (∀ bad, v.ownBlock ≠ some bad → bad < w.heap.size → v'.ownBlock ≠ some bad ∧ w'.heap[bad]? = w.heap[bad]?) → wpList P ops Q rest (a.put o.dst v') w') : wpList P ops Q (o :: rest) a w :=
  wpList_plain hgd fun K hK => by
    obtain ⟨v', w', e1, e2, e3, e4⟩ := run_append_list2 hT hown hM h0 hmax hbytes hbase (ty := o.type)
    have hk := hK _ _ (h v' w' e2 e3 e4)
    unfold Oper.wp execOp
    simp only [ho, resolve, invoke, builtin, Sem.run_bind, Sem.run_pure, Result.andThen_ok, List.map_toArray, List.map_cons, List.map_nil, hs, hx, e1]
    exact hk
end Rep
end Go.Proofs.Ytcbpdjenncbbeaa
