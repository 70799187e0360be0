/- Templates' bytes. -/
import Derived.Test.YtjjhnnnpikfjpaaNu
namespace Go.Proofs.Ytjjhnnnpikfjpaa
open Go.RowKit

def RTm : Rep (Int × SlV (Int × Int)) := ⟨41, 2, by decide, fun x => [.int .i64 x.1, .slice x.2.a x.2.n x.2.c], fun _ => rfl, fun _ => rfl⟩
def TmOk (w : World) (x : Int × SlV (Int × Int)) : Prop := FdsOk w x.2
def TmsOk (w : World) (s : SlV (Int × SlV (Int × Int))) : Prop := SlOk RTm TmOk w s
theorem TmsOk.keep {w w' : World} {s : SlV (Int × SlV (Int × Int))} (h : TmsOk w s) (hb : Below w.heap.size w w') : TmsOk w' s := SlOk.keepW h hb (fun _ h => FdsOk.keep h hb)
def oddX (x : Int × SlV (Int × Int)) : Bool := oddT ⟨x.1, x.2⟩
theorem oddX_any (x : Int × SlV (Int × Int)) (w : World) (h : FdsOk w x.2) : Calls Try.prog 43 #[.agg #[.int .i64 x.1, .slice x.2.a x.2.n x.2.c]] w fun e w' => e = .returned (.bool (oddX x)) ∧ Below w.heap.size w w' := odd_tm ⟨x.1, x.2⟩ w h
set_option maxRecDepth 100000 in
set_option maxHeartbeats 400000 in
theorem index_tm {w : World} {s : SlV (Int × SlV (Int × Int))} (h : TmsOk w s) : Calls Try.prog 56 #[.slice s.a s.n s.c, CalleeF 43] w fun e w' => (∃ r : Int, e = .returned (.int .i64 r) ∧ (decide (0 ≤ r)) = s.l.any oddX) ∧ Below w.heap.size w w' := by
  have hlen := h.sl.len.symm
  have H := Lib.hid h
  clear h
  obtain ⟨oa, n, c, l⟩ := s
  dsimp only at *
  unfold CalleeF
  go_enter Try.func56, Try.ntmps56
  go_wp2_with fail
  go_loopw [5, 8] (fun _ iv wr => ∃ i : Nat, i ≤ n ∧ iv = .int .i64 i ∧ (l.take i).any oddX = false ∧ Below w.heap.size w wr) (fun _ iv _ => n - (intOf iv).toNat)
  case atStart => exact ⟨0, Nat.zero_le _, rfl, rfl, Below.refl _ _⟩
  case round =>
    obtain ⟨i, hi, rfl, hany, hb⟩ := hrel
    obtain ⟨w2, rfl⟩ : ∃ w2 : World, w2 = wr := ⟨_, rfl⟩
    by_cases hlt : i < n
    · obtain ⟨bb, oo, rfl, hbb, hat⟩ := (H.out.keep hb).sl.at hlt
      have c0 := hat 0 (by decide)
      have c1 := hat 1 (by decide)
      simp only [RTm, Nat.add_zero, List.getElem?_cons_zero, List.getElem?_cons_succ] at c0 c1
      have hil : ((i : Int) < (n : Int)) = True := by simp; omega
      have ht : l.take (i + 1) = l.take i ++ [l.getD i default] := take_snoc l i (by omega)
      have hd := drop_get l i (by omega)
      have hmem : l.getD i default ∈ l := getD_mem (by omega)
      have HFX := Lib.hid ((H.out.keep hb).all)
      generalize l.getD i default = x at *
      have hw3 := wrapS hlt H.out.sl.max
      have hfx : FdsOk w2 x.2 := HFX.out x hmem
      have HB := Lib.hid (And.intro hb (And.intro hany (And.intro ht (And.intro hmem hfx))))
      clear hb hany ht hmem hd hat hfx HFX
      go_wp2_with fail
      refine (oddX_any x _ HB.out.2.2.2.2).mono ?_
      rintro e w3 ⟨rfl, hb3⟩
      have HC := Lib.hid (bcall HB.out.1 (Nat.le_refl _) hb3)
      clear hb3
      cases ho : oddX x with
      | true =>
        go_wp2_with fail
        go_ret
        refine ⟨⟨_, rfl, ?_⟩, HC.out⟩
        have : l.any oddX = true := List.any_eq_true.2 ⟨x, HB.out.2.2.2.1, ho⟩
        rw [this]; simp
      | false =>
        go_wp2_with fail
        exact ⟨⟨i + 1, hlt, by first | rw [hw3] | rw [Int.natCast_succ], by rw [HB.out.2.2.1, List.any_append, HB.out.2.1]; simp [ho], HC.out⟩, by first | (rw [hw3]; exact mSucc hlt) | (rw [← Int.natCast_succ]; exact mSucc hlt)⟩
    · obtain rfl : n = i := by omega
      have hil : ((n : Int) < (n : Int)) = False := by simp
      rw [List.take_of_length_le (by omega)] at hany
      have HB := Lib.hid (And.intro hb hany)
      clear hb hany
      go_wp2_with fail
      go_ret
      exact ⟨⟨_, rfl, by rw [HB.out.2]; decide⟩, HB.out.1⟩
theorem contains_tm {w : World} {s : SlV (Int × SlV (Int × Int))} (h : TmsOk w s) : Calls Try.prog 44 #[.slice s.a s.n s.c, CalleeF 43] w fun e w' => e = .returned (.bool (s.l.any oddX)) ∧ Below w.heap.size w w' := by
  have H := Lib.hid (index_tm h)
  clear h
  generalize s.l.any oddX = R at *
  unfold CalleeF at *
  go_enter Try.func44, Try.ntmps44
  go_wp2_with fail
  refine (H.out).mono ?_
  rintro e w3 ⟨⟨r, rfl, hr⟩, hb⟩
  have HC := Lib.hid (And.intro hr hb)
  clear hr hb
  go_wp2_with fail
  go_ret
  refine ⟨?_, HC.out.2⟩
  rw [← HC.out.1]
  rfl

/-- the usual template -/
theorem usual_any (w : World) : Calls Try.prog 22 #[] w fun e w' => (∃ t : Tm, e = .returned t.v ∧ t.id = 300 ∧ t.fs.l = [(12, 4), (1, 4)] ∧ t.fs.n = 2 ∧ FdsOk w' t.fs) ∧ Below w.heap.size w w' := by
  go_enter Try.func22, Try.ntmps22
  go_wp2_with (with_reducible refine halt_store 41 rfl ?_)
  refine Halted.go ?_
  have hb := ((Below.refl w.heap.size w).alloc (Nat.le_refl _) (.cells #[.int .i64 0, .slice none 0 0] 41)).alloc (by simp) (.cells #[.int .i64 12, .int .i64 4, .int .i64 1, .int .i64 4] 80)
  have h1 : ((w.alloc (.cells #[.int .i64 0, .slice none 0 0] 41)).alloc (.cells #[.int .i64 12, .int .i64 4, .int .i64 1, .int .i64 4] 80)).heap[w.heap.size]? = some (.cells #[.int .i64 0, .slice none 0 0] 41) := hold (hnew _ _)
  have h2 : ((w.alloc (.cells #[.int .i64 0, .slice none 0 0] 41)).alloc (.cells #[.int .i64 12, .int .i64 4, .int .i64 1, .int .i64 4] 80)).heap[w.heap.size + 1]? = some (.cells #[.int .i64 12, .int .i64 4, .int .i64 1, .int .i64 4] 80) := hnewAt (Array.size_push _).symm
  refine store_whole rfl 41 _ _ rfl w.heap.size #[.int .i64 300, .slice (some ⟨w.heap.size + 1, 0, none⟩) 2 2] rfl rfl h1 rfl (by kernel_rfl) (by simp [Value.oneCell']) ?_
  intro W hW hs
  have h3 := (hs.other (by omega : w.heap.size + 1 ≠ w.heap.size)).trans h2
  have ho : RFd.Own W w.heap.size (.slice (some ⟨w.heap.size + 1, 0, none⟩) 2 2) [(12, 4), (1, 4)] := ⟨rfl, .inr ⟨w.heap.size + 1, 2, #[.int .i64 12, .int .i64 4, .int .i64 1, .int .i64 4], rfl, by omega, h3, Nat.le_refl _, by unfold maxLen; omega, rfl, rfl⟩⟩
  have HZ := Lib.hid (And.intro hW (And.intro ho (hb.trans (hs.below (Nat.le_refl _)))))
  clear hb h1 h2 h3 ho hs hW
  go_wp2_with fail
  refine ret_cell rfl rfl rfl HZ.out.1 Try.underlying41 rfl (by kernel_rfl) ?_
  refine ⟨⟨⟨300, ⟨some ⟨w.heap.size + 1, 0, none⟩, 2, 2, [(12, 4), (1, 4)]⟩⟩, rfl, rfl, rfl, rfl, ?_⟩, HZ.out.2.2⟩
  obtain ⟨oa9, c9, hv9, -, -, hs9, -⟩ := HZ.out.2.1.sl
  simp only [Value.slice.injEq] at hv9
  obtain ⟨rfl, -, rfl⟩ := hv9
  exact ⟨hs9, (fun h => by cases h), Nat.le_refl _, by show 2 ≤ maxLen; unfold maxLen; omega, (fun x hx => by simp at hx; rcases hx with rfl | rfl <;> exact ⟨by decide, by decide⟩)⟩
def fdB (x : Int × Int) : List Nat := bes 2 [x.1.toNat, x.2.toNat]
def tmB (x : Int × SlV (Int × Int)) : List Nat := bes 2 [x.1.toNat, x.2.n] ++ x.2.l.flatMap fdB
def tmsB (l : List (Int × SlV (Int × Int))) : List Nat := l.flatMap tmB
end Go.Proofs.Ytjjhnnnpikfjpaa
