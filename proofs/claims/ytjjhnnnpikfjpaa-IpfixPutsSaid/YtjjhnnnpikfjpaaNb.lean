/- Numbers of bytes. -/
import Derived.Test.YtjjhnnnpikfjpaaNa
namespace Go.Proofs.Ytjjhnnnpikfjpaa
open Go.RowKit

/-- bytes in memory -/
def RB : Rep Nat := ⟨5, 1, by decide, fun b => [.int .u8 (b : Int)], fun _ => rfl, fun _ => rfl⟩
theorem T27 : Rep.Ty Try.prog 27 RB 1 := Rep.Ty.mk' Try.underlying27 (z := .int .u8 0) (by kernel_rfl) rfl
def Bytes (l : List Nat) : Prop := ∀ b ∈ l, b < 256
def getN (l : List Nat) : Nat := l.foldl (fun a b => 256 * a + b) 0
theorem getN_snoc (l : List Nat) (b : Nat) : getN (l ++ [b]) = 256 * getN l + b := by simp [getN, List.foldl_append]
theorem foldl_lt (l : List Nat) : ∀ a, Bytes l → l.foldl (fun a b => 256 * a + b) a < (a + 1) * 256 ^ l.length := by
  induction l with
  | nil => intro a _; simp
  | cons b r ih =>
    intro a h
    have h1 := ih (256 * a + b) (fun x hx => h x (by simp [hx]))
    have h2 := h b (by simp)
    simp only [List.foldl_cons, List.length_cons]
    refine Nat.lt_of_lt_of_le h1 ?_
    rw [Nat.pow_succ, ← Nat.mul_assoc, Nat.mul_right_comm]
    exact Nat.mul_le_mul_right _ (by omega)
theorem getN_lt (l : List Nat) (h : Bytes l) : getN l < 256 ^ l.length := by
  have := foldl_lt l 0 h
  simpa [getN] using this
theorem take_snoc {α : Type} [Inhabited α] (l : List α) (k : Nat) (h : k < l.length) : l.take (k + 1) = l.take k ++ [l.getD k default] := by
  rw [List.take_succ_eq_append_getElem h]; simp [List.getD_eq_getElem?_getD, h]
theorem getD_mem {α : Type} [Inhabited α] {M : List α} {i : Nat} (h : i < M.length) : M.getD i default ∈ M := by
  rw [List.getD_eq_getElem?_getD, List.getElem?_eq_getElem h]; exact List.getElem_mem _

set_option maxHeartbeats 400000 in
theorem rget_any (oa : Option Addr) (n c : Nat) (l : List Nat) (w : World) (hs : RB.Sl w oa n c l) (hb : Bytes l) (h4 : n ≤ 4) : Calls Try.prog 52 #[.slice oa n c] w fun e w' => e = .returned (.int .i64 (getN l : Nat)) ∧ w' = w := by
  have HS := Lib.hid (And.intro hs hb)
  have hlen := hs.len
  have HL := Lib.hid hlen
  clear hs hb hlen
  go_enter Try.func52, Try.ntmps52
  go_wp2_with fail
  go_loop [3, 4] (fun nv iv => ∃ k : Nat, k ≤ n ∧ iv = .int .i64 k ∧ nv = .int .i64 (getN (l.take k) : Nat)) (fun _ iv => n - (intOf iv).toNat)
  case atStart => exact ⟨0, Nat.zero_le _, rfl, rfl⟩
  case round =>
    obtain ⟨k, hk, rfl, rfl⟩ := hrel
    by_cases hlt : k < n
    · obtain ⟨b, o, rfl, hbl, hat⟩ := HS.out.1.at hlt
      have hc := hat 0 (by decide)
      have hg : getN (l.take (k + 1)) = 256 * getN (l.take k) + l.getD k default := by rw [take_snoc l k (by rw [← HL.out]; exact hlt), getN_snoc]
      have hby : l.getD k default < 256 := HS.out.2 _ (getD_mem (by rw [← HL.out]; exact hlt))
      have hlt2 : getN (l.take k) < 4294967296 := by
        have h1 := getN_lt (l.take k) (fun x hx => HS.out.2 x (List.mem_of_mem_take hx))
        have h2 : (l.take k).length ≤ 4 := by rw [List.length_take]; omega
        have h3 : 256 ^ (l.take k).length ≤ 256 ^ 4 := Nat.pow_le_pow_right (by omega) h2
        omega
      generalize l.getD k default = z at *
      generalize getN (l.take k) = m at *
      simp only [RB, Nat.mul_one, Nat.add_zero, List.getElem?_cons_zero] at hc
      have HG := Lib.hid hg
      clear hg hat
      go_wp2_with fail
      go_round
      case rel => exact ⟨k + 1, by omega, by go_num, by rw [HG.out]; go_num⟩
      case measure => simp [intOf]; omega
    · have hf : ¬ ((k : Int) < n) := by omega
      have hkn : l.take k = l := List.take_of_length_le (by have := HL.out; omega)
      rw [hkn]
      clear hkn
      go_wp2_with fail
      go_ret
      exact ⟨rfl, rfl⟩
end Go.Proofs.Ytjjhnnnpikfjpaa
