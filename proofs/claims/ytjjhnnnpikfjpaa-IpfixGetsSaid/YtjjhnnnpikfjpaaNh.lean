/- Numbers' bytes. -/
import Derived.Test.YtjjhnnnpikfjpaaNf
namespace Go.Proofs.Ytjjhnnnpikfjpaa
open Go.RowKit

/-- ints in a slice -/
def RIn : Rep Nat := ⟨3, 1, by decide, fun n => [.int .i64 (n : Int)], fun _ => rfl, fun _ => rfl⟩
theorem putk_any {k : Nat} (hk : k = 2 ∨ k = 4) (n : Nat) (hn : n < 256 ^ k) (w : World) : Calls Try.prog 47 #[.int .i64 n, .int .i64 k] w fun e w' => ∃ v, e = .returned (.tuple #[v, .int .i64 0]) ∧ RB.Own w' w.heap.size v (be k n) ∧ Below w.heap.size w w' := by
  rcases hk with rfl | rfl
  · exact put2_any n (by omega) w
  · exact put4_any n (by omega) w
def bes (k : Nat) (l : List Nat) : List Nat := l.flatMap (be k)
theorem bes_length (k : Nat) (l : List Nat) : (bes k l).length = l.length * k := by
  induction l with
  | nil => simp [bes]
  | cons a r ih => simp only [bes, List.flatMap_cons, List.length_append, be_length, List.length_cons, Nat.succ_mul] at *; omega
theorem bes_snoc (k : Nat) (l : List Nat) (a : Nat) : bes k (l ++ [a]) = bes k l ++ be k a := by simp [bes]
set_option maxRecDepth 100000 in
set_option maxHeartbeats 400000 in
theorem bytes_any {k : Nat} (hk : k = 2 ∨ k = 4) {w : World} {oa : Option Addr} {n c : Nat} {l : List Nat} (hs : RIn.Sl w oa n c l) (hall : ∀ x ∈ l, x < 256 ^ k) (hn : n ≤ 1000) : Calls Try.prog 26 #[.int .i64 k, .slice oa n c] w fun e w' => ∃ v, e = .returned v ∧ RB.Own w' w.heap.size v (bes k l) ∧ Below w.heap.size w w' := by
  have hlen := hs.len.symm
  have H := Lib.hid (And.intro hs hall)
  clear hs hall
  go_enter Try.func26, Try.ntmps26
  go_wp2_with fail
  go_loopw [5, 7, 8, 9, 12] (fun sv _ _ _ iv wr => ∃ i : Nat, i ≤ n ∧ iv = .int .i64 i ∧ RB.Own wr w.heap.size sv (bes k (l.take i)) ∧ Below w.heap.size w wr) (fun _ _ _ _ iv _ => n - (intOf iv).toNat)
  case atStart => exact ⟨0, Nat.zero_le _, rfl, Rep.Own.nil _ _, Below.refl _ _⟩
  case round =>
    obtain ⟨i, hi, rfl, hown, hb⟩ := hrel
    obtain ⟨w2, rfl⟩ : ∃ w2 : World, w2 = wr := ⟨_, rfl⟩
    by_cases hlt : i < n
    · obtain ⟨bb, oo, rfl, hbb, hat⟩ := (H.out.1.keep hb).at hlt
      have c0 := hat 0 (by decide)
      simp only [RIn, Nat.mul_one, Nat.add_zero, List.getElem?_cons_zero] at c0
      have hil : ((i : Int) < (n : Int)) = True := by simp; omega
      have hx : l.getD i default < 256 ^ k := H.out.2 _ (getD_mem (by omega))
      have ht : l.take (i + 1) = l.take i ++ [l.getD i default] := take_snoc l i (by omega)
      have hbl : (bes k (l.take i)).length = i * k := by rw [bes_length, List.length_take]; congr 1; omega
      generalize l.getD i default = x at *
      have HB := Lib.hid (And.intro hown (And.intro hb (And.intro ht (And.intro hbl hx))))
      clear hat hown hb ht hbl hx
      go_wp2_with fail
      refine (putk_any hk x HB.out.2.2.2.2 _).mono ?_
      rintro e w3 ⟨v3, rfl, ho3, hb3⟩
      obtain ⟨oa3, c3, rfl, hbs3⟩ := bs_own ho3
      have hl3 : (be k x).length = k := be_length _ _
      have hik : i * k ≤ 4000 := by rcases hk with rfl | rfl <;> omega
      have HC := Lib.hid (And.intro (HB.out.1.below hb3) (And.intro (bcall HB.out.2.1 (Nat.le_refl _) hb3) (And.intro hbs3 hik)))
      clear ho3 hb3 hbs3 hik
      go_wp2_with (at_builtin; refine halt ?_)
      refine Halted.go ?_
      refine Rep.append_list T27 rfl _ _ rfl (base := w.heap.size) rfl HC.out.1 rfl (hl3 ▸ HC.out.2.2.1.sl) HC.out.2.2.1.nil (by rw [HB.out.2.2.2.1]; unfold maxLen; have := HC.out.2.2.2; omega) (by rw [HB.out.2.2.2.1]; have := HC.out.2.2.2; omega) HC.out.2.1.size ?_
      intro v4 w4 hown4 hb4 _
      have HG := Lib.hid (And.intro hown4 (HC.out.2.1.trans hb4))
      clear hown4 hb4
      go_wp2_with fail
      exact ⟨⟨i + 1, hlt, by rw [Int.natCast_succ], by rw [HB.out.2.2.1, bes_snoc]; exact HG.out.1, HG.out.2⟩, by first | exact mSucc hlt | (rw [← Int.natCast_succ]; exact mSucc hlt)⟩
    · obtain rfl : n = i := by omega
      have hil : ((n : Int) < (n : Int)) = False := by simp
      have HB := Lib.hid (And.intro hown hb)
      clear hown hb
      go_wp2_with fail
      go_ret
      refine ⟨_, rfl, ?_, HB.out.2⟩
      have := HB.out.1
      rwa [List.take_of_length_le (by omega)] at this
theorem two_any (n : Nat) (hn : n < 65536) (w : World) : Calls Try.prog 36 #[.int .i64 n] w fun e w' => ∃ v, e = .returned v ∧ RB.Own w' w.heap.size v (be 2 n) ∧ Below w.heap.size w w' := by
  go_enter Try.func36, Try.ntmps36
  go_wp2_with fail
  refine (rput2_any n hn _).mono ?_
  rintro e w3 ⟨v3, rfl, ho3, hb3⟩
  have HC := Lib.hid (And.intro ho3 hb3)
  clear ho3 hb3
  go_wp2_with fail
  go_ret
  exact ⟨_, rfl, HC.out.1, HC.out.2⟩
theorem four_any (n : Nat) (hn : n < 4294967296) (w : World) : Calls Try.prog 37 #[.int .i64 n] w fun e w' => ∃ v, e = .returned v ∧ RB.Own w' w.heap.size v (be 4 n) ∧ Below w.heap.size w w' := by
  go_enter Try.func37, Try.ntmps37
  go_wp2_with fail
  refine (rput4_any n hn _).mono ?_
  rintro e w3 ⟨v3, rfl, ho3, hb3⟩
  have HC := Lib.hid (And.intro ho3 hb3)
  clear ho3 hb3
  go_wp2_with fail
  go_ret
  exact ⟨_, rfl, HC.out.1, HC.out.2⟩
end Go.Proofs.Ytjjhnnnpikfjpaa
