/- HopNobody: the law's walk. -/
import Derived.Test.YtlkbaplfffbmkaaKak
import Derived.Test.YtlkbaplfffbmkaaKaj
import Derived.Test.YtlkbaplfffbmkaaKab
import Derived.Test.YtlkbaplfffbmkaaKaa
import Derived.ProofKit
import Derived.OpenShut
import Derived.Carry
import Derived.Deep.Slices
import Derived.Deep.Fields
import Derived.ChangeSame
namespace Go.Proofs.Ytlkbaplfffbmkaa
open Go.RowKit

theorem ZeroAt.get {w : World} {b : Nat} (h : w.heap[b]? = some (.cells #[.int .i64 0, .int .i64 0, .int .u32 0, .int .i64 0, .int .i64 0] 34)) : w.cell? ⟨b, 0, none⟩ = some (.int .i64 0) ∧ w.cell? ⟨b, 1, none⟩ = some (.int .i64 0) ∧ w.cell? ⟨b, 2, none⟩ = some (.int .u32 0) ∧ w.cell? ⟨b, 3, none⟩ = some (.int .i64 0) ∧ w.cell? ⟨b, 4, none⟩ = some (.int .i64 0) := ⟨cell_of h rfl, cell_of h rfl, cell_of h rfl, cell_of h rfl, cell_of h rfl⟩
set_option maxRecDepth 100000 in
set_option maxHeartbeats 1000000 in
theorem hnob_law (ρ a : Int) (w : World) : Calls Try.prog 6 #[.int .i64 ρ, .int .u32 a] w fun e w' => e = .returned (.bool true) ∧ Below w.heap.size w w' := by
  go_enter Try.func6, Try.ntmps6
  go_wp2_with fail
  refine (find_nil ρ a w).mono ?_
  rintro e W1 ⟨rfl, hb1⟩
  have hal := (Below.refl W1.heap.size W1).alloc (Nat.le_refl _) (.cells #[.int .i64 0, .int .i64 0, .int .u32 0, .int .i64 0, .int .i64 0] 34)
  have hlb : (W1.alloc (.cells #[.int .i64 0, .int .i64 0, .int .u32 0, .int .i64 0, .int .i64 0] 34)).heap[W1.heap.size]? = some (.cells #[.int .i64 0, .int .i64 0, .int .u32 0, .int .i64 0, .int .i64 0] 34) := hnew _ _
  have F0 := Lib.hid (And.intro (bcall hb1 (Nat.le_refl _) hal) hlb)
  clear hal hlb hb1
  go_wp2_with fail
  generalize W1.alloc (.cells #[.int .i64 0, .int .i64 0, .int .u32 0, .int .i64 0, .int .i64 0] 34) = W2 at *
  generalize W1.heap.size = q1 at *
  refine (iface_nil ρ W2).mono ?_
  rintro e W3 ⟨rfl, hb3⟩
  have hal := (Below.refl W3.heap.size W3).alloc (Nat.le_refl _) (.cells #[.int .i64 0, .int .i64 0, .int .u32 0, .int .i64 0, .int .i64 0] 34)
  have hlb : (W3.alloc (.cells #[.int .i64 0, .int .i64 0, .int .u32 0, .int .i64 0, .int .i64 0] 34)).heap[W3.heap.size]? = some (.cells #[.int .i64 0, .int .i64 0, .int .u32 0, .int .i64 0, .int .i64 0] 34) := hnew _ _
  have hbb := bcall hb3 (Nat.le_refl _) hal
  have F1 := Lib.hid (And.intro (bcall F0.out.1 (Nat.le_refl _) hbb) (And.intro ((hbb.block _ (lt_of_blk F0.out.2)).trans F0.out.2) (hlb)))
  clear F0
  clear hal hlb hbb hb3
  go_wp2_with fail
  generalize W3.alloc (.cells #[.int .i64 0, .int .i64 0, .int .u32 0, .int .i64 0, .int .i64 0] 34) = W4 at *
  generalize W3.heap.size = q3 at *
  refine (lives16 W4).mono ?_
  rintro e W5 ⟨rfl, hb4⟩
  have F2 := Lib.hid (And.intro (bcall F1.out.1 (Nat.le_refl _) hb4) (And.intro ((hb4.block _ (lt_of_blk F1.out.2.1)).trans F1.out.2.1) (((hb4.block _ (lt_of_blk F1.out.2.2)).trans F1.out.2.2))))
  clear F1
  clear hb4
  obtain ⟨x0, x1, x2, x3, x4⟩ := ZeroAt.get F2.out.2.1
  obtain ⟨y0, y1, y2, y3, y4⟩ := ZeroAt.get F2.out.2.2
  go_wp2_with fail
  refine (all_nil W5).mono ?_
  rintro e W6 ⟨rfl, rfl⟩
  go_wp2_with fail
  refine (len_nil W6).mono ?_
  rintro e W7 ⟨rfl, rfl⟩
  go_wp2_with fail
  go_ret
  exact ⟨rfl, F2.out.1⟩
end Go.Proofs.Ytlkbaplfffbmkaa
/- The reference's Find. -/
namespace Go.Proofs.Ytlkbaplfffbmkaa
open Go.RowKit

def FdS (B : Nat) (w0 w : World) : Prop := Below B w0 w ∧ B ≤ w0.heap.size
theorem FdS.call {B : Nat} {w0 w w' : World} (h : FdS B w0 w) (hb : Below w.heap.size w w') : FdS B w0 w' := ⟨h.1.trans (hb.mono (Nat.le_trans h.2 h.1.size)), h.2⟩
section
variable {p : Nat → Bool} {f : Nat → Int} {i k : Nat}
theorem bstG_no (h : p i = false) : bstG p f (i + 1) = bstG p f i := by
  rw [bstG]
  cases bstG p f i <;> simp [h]
theorem bstG_first (hb : bstG p f i = none) (h : p i = true) : bstG p f (i + 1) = some i := by rw [bstG, hb]; simp [h]
theorem bstG_more (hb : bstG p f i = some k) (h : p i = true) (hl : f k < f i) : bstG p f (i + 1) = some i := by rw [bstG, hb]; simp [h, hl]
theorem bstG_less (hb : bstG p f i = some k) (hl : ¬ f k < f i) : bstG p f (i + 1) = some k := by rw [bstG, hb]; simp [hl]
end
def bstV : Option Nat → Value
  | none => .int .i64 (-1)
  | some k => .int .i64 (k : Nat)
set_option maxRecDepth 100000 in
set_option maxHeartbeats 2000000 in
theorem rfindI_any {w : World} {oa : Option Addr} {n c : Nat} {l : List If} (h : Ifs w oa n c l) (ρ : Int) {a : Nat} (ha : a < 4294967296) (r : If) (is : Bool) (hr : (refFind l ρ a).map (fun j => l.getD j default) = if is then some r else none) (hz : is = false → r = ⟨0, 0, 0, 0, 0⟩) : Calls Try.prog 15 #[.slice oa n c, .int .i64 ρ, .int .u32 a] w fun e w' => e = .returned (.tuple #[r.v, .bool is]) ∧ Below w.heap.size w w' := by
  have hal := (Below.refl w.heap.size w).alloc (Nat.le_refl _) (.cells #[.int .i64 0, .int .i64 0, .int .u32 0, .int .i64 0, .int .i64 0] 34)
  have hnw : (w.alloc (.cells #[.int .i64 0, .int .i64 0, .int .u32 0, .int .i64 0, .int .i64 0] 34)).heap[w.heap.size]? = some (.cells #[.int .i64 0, .int .i64 0, .int .u32 0, .int .i64 0, .int .i64 0] 34) := hnew _ _
  have HL := Lib.hid h.sl.len
  have F := Lib.hid h
  have hmax := h.sl.max
  have HR := Lib.hid (And.intro hr hz)
  have HA := Lib.hid (And.intro hal hnw)
  clear h hr hz hal hnw
  go_enter Try.func15, Try.ntmps15
  go_wp2_with fail
  go_loopw [8, 9] (fun bv iv wr => ∃ i : Nat, i ≤ n ∧ iv = .int .i64 i ∧ bv = bstV (bstG (fun i => hits ρ a (l.getD i default)) (fun i => (l.getD i default).ln) i) ∧ Below (w.heap.size + 1) (w.alloc (.cells #[.int .i64 0, .int .i64 0, .int .u32 0, .int .i64 0, .int .i64 0] 34)) wr) (fun _ iv _ => n - (intOf iv).toNat)
  case atStart => exact ⟨0, Nat.zero_le _, rfl, rfl, Below.refl _ _⟩
  case round =>
    obtain ⟨i, hi, rfl, rfl, hb⟩ := hrel
    obtain ⟨w2, rfl⟩ : ∃ w2 : World, w2 = wr := ⟨_, rfl⟩
    by_cases hlt : i < n
    · have hil : ((i : Int) < (n : Int)) = True := by simp; omega
      have hi0 : ((0 : Int) ≤ (i : Int)) = True := by simp
      have hw3 := wrapS hlt hmax
      obtain ⟨x, hx⟩ : ∃ x, l.getD i default = x := ⟨_, rfl⟩
      have hsz : w.heap.size + 1 ≤ w2.heap.size := by have := hb.size; simp at this; omega
      have hbw : Below w.heap.size w w2 := HA.out.1.trans (hb.mono (Nat.le_succ _))
      obtain ⟨b0, o0, hoa⟩ : ∃ b0 o0, oa = some ⟨b0, o0, none⟩ := by obtain ⟨b0, o0, e, -⟩ := F.out.sl.at hlt; exact ⟨b0, o0, e⟩
      subst hoa
      have hxk : ∀ q, q < n → ∀ w', FdS (w.heap.size + 1) w2 w' → IfAt b0 (o0 + q * 5) (l.getD q default) w' := fun q hq w' hw' => by
        obtain ⟨b1, o1, e1, -, hat⟩ := (F.out.keep (hbw.trans (hw'.1.mono (Nat.le_succ _)))).sl.at hq
        obtain ⟨rfl, rfl⟩ : b0 = b1 ∧ o0 = o1 := by simp only [Option.some.injEq, Addr.mk.injEq] at e1; exact ⟨e1.1, e1.2.1⟩
        have c0 := hat 0 (by decide)
        have c1 := hat 1 (by decide)
        have c2 := hat 2 (by decide)
        have c3 := hat 3 (by decide)
        have c4 := hat 4 (by decide)
        simp only [RIf, Nat.add_zero, List.getElem?_cons_zero, List.getElem?_cons_succ] at c0 c1 c2 c3 c4
        exact ⟨c0, c1, c2, c3, c4⟩
      have HK := Lib.hid hxk
      have HX := Lib.hid (hx ▸ hxk i hlt)
      have hadx : x.ad < 4294967296 := hx ▸ F.out.ad _ (getD_mem (by rw [← HL.out]; exact hlt))
      have hC := fun W => rholds_any x.ad x.ln a hadx ha W
      have hit : hits ρ a x = (decide (x.r = ρ) && holdsP x.ad x.ln a) := rfl
      have HB := Lib.hid (And.intro hb hsz)
      clear hxk hb hsz hbw hadx
      obtain ⟨b', hb'⟩ : ∃ b', holdsP x.ad x.ln a = b' := ⟨_, rfl⟩
      rw [hb'] at hit
      simp only [hb'] at hC
      unfold pfx at hC
      have HC := Lib.hid hC
      obtain ⟨BB, hBB⟩ : ∃ BB, bstG (fun i => hits ρ a (l.getD i default)) (fun i => (l.getD i default).ln) i = BB := ⟨_, rfl⟩
      rw [hBB]
      clear hC hb'
      by_cases hr : x.r = ρ
      · have hrt : (x.r = ρ) = True := eq_true hr
        have hrb : (x.r == ρ) = true := by simpa using hr
        rw [decide_eq_true hr, Bool.true_and] at hit
        cases b' with
        | false =>
          have HE := Lib.hid (show bstV BB = bstV (bstG (fun i => hits ρ a (l.getD i default)) (fun i => (l.getD i default).ln) (i + 1)) from by rw [bstG_no (by rw [hx]; exact hit), hBB])
          generalize bstV BB = bv at *
          clear hit hBB hx hr
          go_wp2_with fail
          refine wp_region_quiet_tail (FdS (w.heap.size + 1) w2) 34 (by kernel_rfl) (by kernel_rfl) ⟨Below.drew (Below.refl _ _), HB.out.2⟩ ?_
          simp only [List.take_succ_cons, List.take_zero, List.drop_succ_cons, List.drop_zero]
          iterate 34 ((with_reducible refine wpQuiet_step (fun K hK => ?_)); go_simp; first | (rw [if_neg (by decide)]; (with_reducible refine hK _ ?_); clear hK K) | ((with_reducible refine hK _ ?_); clear hK K) | (apply Exists.intro; (with_reducible refine ⟨fun w' hw' => ?_, hK _ ?_⟩); first | (go_at_call 44; (with_reducible refine (HC.out w').mono ?_); rintro e w9 ⟨rfl, hb9⟩; exact ⟨rfl, hw'.call hb9⟩) | (obtain ⟨f0, f1, f2, f3, f4⟩ := HX.out w' hw'; go_simp; first | exact rfl | exact ⟨rfl, rfl⟩); clear hK K))
          refine wpQuiet_nil ?_
          intro W5 hW5
          have HB := Lib.hid (show Below (w.heap.size + 1) (w.alloc (.cells #[.int .i64 0, .int .i64 0, .int .u32 0, .int .i64 0, .int .i64 0] 34)) W5 from HB.out.1.trans hW5.1)
          clear hW5
          go_wp2_with fail
          exact ⟨⟨i + 1, hlt, by first | rw [hw3] | rw [Int.natCast_succ], HE.out, HB.out⟩, by first | (rw [hw3]; exact mSucc hlt) | (rw [← Int.natCast_succ]; exact mSucc hlt)⟩
        | true =>
          cases BB with
          | none =>
            have HE := Lib.hid (show Value.int .i64 (i : Nat) = bstV (bstG (fun i => hits ρ a (l.getD i default)) (fun i => (l.getD i default).ln) (i + 1)) from by rw [bstG_first hBB (by rw [hx]; exact hit)]; rfl)
            unfold bstV
            clear hit hBB hx hr
            go_wp2_with fail
            refine wp_region_quiet_tail (FdS (w.heap.size + 1) w2) 34 (by kernel_rfl) (by kernel_rfl) ⟨Below.drew (Below.refl _ _), HB.out.2⟩ ?_
            simp only [List.take_succ_cons, List.take_zero, List.drop_succ_cons, List.drop_zero]
            iterate 34 ((with_reducible refine wpQuiet_step (fun K hK => ?_)); go_simp; first | (rw [if_neg (by decide)]; (with_reducible refine hK _ ?_); clear hK K) | ((with_reducible refine hK _ ?_); clear hK K) | (apply Exists.intro; (with_reducible refine ⟨fun w' hw' => ?_, hK _ ?_⟩); first | (go_at_call 44; (with_reducible refine (HC.out w').mono ?_); rintro e w9 ⟨rfl, hb9⟩; exact ⟨rfl, hw'.call hb9⟩) | (obtain ⟨f0, f1, f2, f3, f4⟩ := HX.out w' hw'; go_simp; first | exact rfl | exact ⟨rfl, rfl⟩); clear hK K))
            refine wpQuiet_nil ?_
            intro W5 hW5
            have HB := Lib.hid (show Below (w.heap.size + 1) (w.alloc (.cells #[.int .i64 0, .int .i64 0, .int .u32 0, .int .i64 0, .int .i64 0] 34)) W5 from HB.out.1.trans hW5.1)
            clear hW5
            go_wp2_with fail
            exact ⟨⟨i + 1, hlt, by first | rw [hw3] | rw [Int.natCast_succ], HE.out, HB.out⟩, by first | (rw [hw3]; exact mSucc hlt) | (rw [← Int.natCast_succ]; exact mSucc hlt)⟩
          | some k =>
            have hki : k < i := ((bstG_spec i).1 k hBB).1
            have hkl : ((k : Int) < (n : Int)) = True := by simp; omega
            have hk0 : ((0 : Int) ≤ (k : Int)) = True := by simp
            have hkn : ((k : Int) < 0) = False := by simp
            have HY := Lib.hid (HK.out k (by omega))
            unfold bstV
            obtain ⟨y, hy⟩ : ∃ y, l.getD k default = y := ⟨_, rfl⟩
            rw [hy] at HY
            by_cases hln : y.ln < x.ln
            · have hlt2 : (y.ln < x.ln) = True := eq_true hln
              have HE := Lib.hid (show Value.int .i64 (i : Nat) = bstV (bstG (fun i => hits ρ a (l.getD i default)) (fun i => (l.getD i default).ln) (i + 1)) from by rw [bstG_more hBB (by rw [hx]; exact hit) (by rw [hx, hy]; exact hln)]; rfl)
              clear hit hBB hx hr hki hy hln
              go_wp2_with fail
              refine wp_region_quiet_tail (FdS (w.heap.size + 1) w2) 34 (by kernel_rfl) (by kernel_rfl) ⟨Below.drew (Below.refl _ _), HB.out.2⟩ ?_
              simp only [List.take_succ_cons, List.take_zero, List.drop_succ_cons, List.drop_zero]
              iterate 34 ((with_reducible refine wpQuiet_step (fun K hK => ?_)); go_simp; first | (rw [if_neg (by decide)]; (with_reducible refine hK _ ?_); clear hK K) | ((with_reducible refine hK _ ?_); clear hK K) | (apply Exists.intro; (with_reducible refine ⟨fun w' hw' => ?_, hK _ ?_⟩); first | (go_at_call 44; (with_reducible refine (HC.out w').mono ?_); rintro e w9 ⟨rfl, hb9⟩; exact ⟨rfl, hw'.call hb9⟩) | (obtain ⟨f0, f1, f2, f3, f4⟩ := HX.out w' hw'; obtain ⟨k0, k1, k2, k3, k4⟩ := HY.out w' hw'; go_simp; first | exact rfl | exact ⟨rfl, rfl⟩); clear hK K))
              refine wpQuiet_nil ?_
              intro W5 hW5
              have HB := Lib.hid (show Below (w.heap.size + 1) (w.alloc (.cells #[.int .i64 0, .int .i64 0, .int .u32 0, .int .i64 0, .int .i64 0] 34)) W5 from HB.out.1.trans hW5.1)
              clear hW5
              go_wp2_with fail
              exact ⟨⟨i + 1, hlt, by first | rw [hw3] | rw [Int.natCast_succ], HE.out, HB.out⟩, by first | (rw [hw3]; exact mSucc hlt) | (rw [← Int.natCast_succ]; exact mSucc hlt)⟩
            · have hlt2 : (y.ln < x.ln) = False := eq_false hln
              have HE := Lib.hid (show Value.int .i64 (k : Nat) = bstV (bstG (fun i => hits ρ a (l.getD i default)) (fun i => (l.getD i default).ln) (i + 1)) from by rw [bstG_less hBB (by rw [hx, hy]; exact hln)]; rfl)
              clear hit hBB hx hr hki hy hln
              go_wp2_with fail
              refine wp_region_quiet_tail (FdS (w.heap.size + 1) w2) 34 (by kernel_rfl) (by kernel_rfl) ⟨Below.drew (Below.refl _ _), HB.out.2⟩ ?_
              simp only [List.take_succ_cons, List.take_zero, List.drop_succ_cons, List.drop_zero]
              iterate 34 ((with_reducible refine wpQuiet_step (fun K hK => ?_)); go_simp; first | (rw [if_neg (by decide)]; (with_reducible refine hK _ ?_); clear hK K) | ((with_reducible refine hK _ ?_); clear hK K) | (apply Exists.intro; (with_reducible refine ⟨fun w' hw' => ?_, hK _ ?_⟩); first | (go_at_call 44; (with_reducible refine (HC.out w').mono ?_); rintro e w9 ⟨rfl, hb9⟩; exact ⟨rfl, hw'.call hb9⟩) | (obtain ⟨f0, f1, f2, f3, f4⟩ := HX.out w' hw'; obtain ⟨k0, k1, k2, k3, k4⟩ := HY.out w' hw'; go_simp; first | exact rfl | exact ⟨rfl, rfl⟩); clear hK K))
              refine wpQuiet_nil ?_
              intro W5 hW5
              have HB := Lib.hid (show Below (w.heap.size + 1) (w.alloc (.cells #[.int .i64 0, .int .i64 0, .int .u32 0, .int .i64 0, .int .i64 0] 34)) W5 from HB.out.1.trans hW5.1)
              clear hW5
              go_wp2_with fail
              exact ⟨⟨i + 1, hlt, by first | rw [hw3] | rw [Int.natCast_succ], HE.out, HB.out⟩, by first | (rw [hw3]; exact mSucc hlt) | (rw [← Int.natCast_succ]; exact mSucc hlt)⟩
      · have hrf : (x.r = ρ) = False := eq_false hr
        rw [decide_eq_false hr, Bool.false_and] at hit
        have HE := Lib.hid (show bstV BB = bstV (bstG (fun i => hits ρ a (l.getD i default)) (fun i => (l.getD i default).ln) (i + 1)) from by rw [bstG_no (by rw [hx]; exact hit), hBB])
        generalize bstV BB = bv at *
        clear hit hBB hx hr
        go_wp2_with fail
        refine wp_region_quiet_tail (FdS (w.heap.size + 1) w2) 34 (by kernel_rfl) (by kernel_rfl) ⟨Below.drew (Below.refl _ _), HB.out.2⟩ ?_
        simp only [List.take_succ_cons, List.take_zero, List.drop_succ_cons, List.drop_zero]
        iterate 34 ((with_reducible refine wpQuiet_step (fun K hK => ?_)); go_simp; first | (rw [if_neg (by decide)]; (with_reducible refine hK _ ?_); clear hK K) | ((with_reducible refine hK _ ?_); clear hK K) | (apply Exists.intro; (with_reducible refine ⟨fun w' hw' => ?_, hK _ ?_⟩); first | (go_at_call 44; (with_reducible refine (HC.out w').mono ?_); rintro e w9 ⟨rfl, hb9⟩; exact ⟨rfl, hw'.call hb9⟩) | (obtain ⟨f0, f1, f2, f3, f4⟩ := HX.out w' hw'; go_simp; first | exact rfl | exact ⟨rfl, rfl⟩); clear hK K))
        refine wpQuiet_nil ?_
        intro W5 hW5
        have HB := Lib.hid (show Below (w.heap.size + 1) (w.alloc (.cells #[.int .i64 0, .int .i64 0, .int .u32 0, .int .i64 0, .int .i64 0] 34)) W5 from HB.out.1.trans hW5.1)
        clear hW5
        go_wp2_with fail
        exact ⟨⟨i + 1, hlt, by first | rw [hw3] | rw [Int.natCast_succ], HE.out, HB.out⟩, by first | (rw [hw3]; exact mSucc hlt) | (rw [← Int.natCast_succ]; exact mSucc hlt)⟩
    · obtain rfl : n = i := by omega
      have hil : ((n : Int) < (n : Int)) = False := by simp
      have hfr : (bstG (fun i => hits ρ a (l.getD i default)) (fun i => (l.getD i default).ln) n).map (fun j => l.getD j default) = if is then some r else none := by rw [← HR.out.1, HL.out]; rfl
      have hsp := (bstG_spec (p := fun i => hits ρ a (l.getD i default)) (f := fun i => (l.getD i default).ln) n).1
      generalize bstG (fun i => hits ρ a (l.getD i default)) (fun i => (l.getD i default).ln) n = BB at *
      have hw9 : w2.heap[w.heap.size]? = some (.cells #[.int .i64 0, .int .i64 0, .int .u32 0, .int .i64 0, .int .i64 0] 34) := (hb.block _ (Nat.lt_succ_self _)).trans HA.out.2
      have hbw : Below w.heap.size w w2 := HA.out.1.trans (hb.mono (Nat.le_succ _))
      cases BB with
      | none =>
        have HX := Lib.hid (And.intro hfr (And.intro hw9 hbw))
        clear hfr hsp hw9 hbw hb
        unfold bstV
        go_wp2_with (with_reducible refine halt_store 34 rfl ?_)
        refine Halted.go ?_
        refine store_whole rfl 34 _ _ rfl w.heap.size #[.int .i64 0, .int .i64 0, .int .u32 0, .int .i64 0, .int .i64 0] rfl rfl HX.out.2.1 rfl (by kernel_rfl) (by simp [Value.oneCell']) ?_
        intro wz hwz hsz
        have HZ := Lib.hid (And.intro hwz (Below.trans HX.out.2.2 (hsz.below (Nat.le_refl _))))
        clear hwz hsz
        go_wp2_with fail
        refine ret_cell2 rfl rfl rfl HZ.out.1 Try.underlying34 rfl (by kernel_rfl) ?_
        have hri := HX.out.1
        cases is with
        | true => rw [if_pos rfl] at hri; cases hri
        | false => rw [HR.out.2 rfl]; exact ⟨rfl, HZ.out.2⟩
      | some k =>
        have hkn : k < n := (hsp k rfl).1
        have hkl : ((k : Int) < (n : Int)) = True := by simp; omega
        have hk0 : ((0 : Int) ≤ (k : Int)) = True := by simp
        have hkneg : ((k : Int) < 0) = False := by simp
        obtain ⟨b0, o0, rfl, hbb, hat⟩ := (F.out.keep hbw).sl.at hkn
        obtain ⟨x, hx⟩ : ∃ x, l.getD k default = x := ⟨_, rfl⟩
        rw [hx] at hat
        have c0 := hat 0 (by decide)
        have c1 := hat 1 (by decide)
        have c2 := hat 2 (by decide)
        have c3 := hat 3 (by decide)
        have c4 := hat 4 (by decide)
        simp only [RIf, Nat.add_zero, List.getElem?_cons_zero, List.getElem?_cons_succ] at c0 c1 c2 c3 c4
        have HX := Lib.hid (And.intro hfr (And.intro hw9 (And.intro hbw hx)))
        clear hfr hsp hw9 hbw hb hat hbb hx hkn
        unfold bstV
        go_wp2_with (with_reducible refine halt_store 34 rfl ?_)
        refine Halted.go ?_
        refine store_whole rfl 34 _ _ rfl w.heap.size #[.int .i64 x.id, .int .i64 x.r, .int .u32 (x.ad : Int), .int .i64 x.ln, .int .i64 x.cp] rfl rfl HX.out.2.1 rfl (by kernel_rfl) (by simp [Value.oneCell']) ?_
        intro wz hwz hsz
        have HZ := Lib.hid (And.intro hwz (Below.trans HX.out.2.2.1 (hsz.below (Nat.le_refl _))))
        clear hwz hsz c0 c1 c2 c3 c4
        go_wp2_with fail
        refine ret_cell2 rfl rfl rfl HZ.out.1 Try.underlying34 rfl (by kernel_rfl) ?_
        have hri := HX.out.1
        rw [Option.map_some, HX.out.2.2.2] at hri
        cases is with
        | true => rw [if_pos rfl] at hri; injection hri with hri; subst hri; exact ⟨rfl, HZ.out.2⟩
        | false => rw [if_neg (by decide)] at hri; cases hri
end Go.Proofs.Ytlkbaplfffbmkaa
/- HopFinds: the law's walk. -/
namespace Go.Proofs.Ytlkbaplfffbmkaa
open Go.RowKit

theorem find_both {l : List If} (hg : Good l) (ρ : Int) {a : Nat} (ha : a < 4294967296) : ∃ (r : If) (is : Bool), ((refFind l ρ a).map (fun j => l.getD j default) = if is then some r else none) ∧ (is = false → r = ⟨0, 0, 0, 0, 0⟩) ∧ ∀ w h, HopsAt w h (hdOf l) → Calls Try.prog 14 #[.pointer (some ⟨h, 0, none⟩), .int .i64 ρ, .int .u32 a] w fun e w' => e = .returned (.tuple #[.agg #[.int .i64 r.id, .int .i64 r.r, .int .u32 (r.ad : Int), .int .i64 r.ln, .int .i64 r.cp], .bool is]) ∧ Below w.heap.size w w' := by
  by_cases hρ : ρ < 0 ∨ 15 < ρ
  · refine ⟨⟨0, 0, 0, 0, 0⟩, false, by rw [refFind_out hg a hρ]; rfl, fun _ => rfl, fun w h _ => find_out h hρ a w⟩
  · obtain ⟨k, rfl⟩ : ∃ k : Nat, ρ = (k : Int) := ⟨ρ.toNat, by omega⟩
    have hk : k < 16 := by omega
    rw [find_ref hg]
    cases hf : (hdOf l).find k a with
    | none => exact ⟨⟨0, 0, 0, 0, 0⟩, false, rfl, fun _ => rfl, fun w h H => find_any H hk ha _ false (by rw [hf]; rfl) (fun _ => rfl)⟩
    | some r => exact ⟨r, true, rfl, fun h => (by cases h), fun w h H => find_any H hk ha r true (by rw [hf]; rfl) (fun h => by cases h)⟩
theorem get_getI {l : List If} (hg : Good l) (id : Int) : (hdOf l).get id = getI l id := by
  unfold getI
  cases hf : l.find? (fun x => decide (x.id = id)) with
  | none =>
    cases hh : (hdOf l).get id with
    | none => rfl
    | some y =>
      obtain ⟨h1, h2⟩ := get_mem hh
      rw [List.find?_eq_none] at hf
      have := hf y h1
      simp [h2] at this
  | some x =>
    have h1 := List.mem_of_find?_eq_some hf
    have h2 := List.find?_some hf
    simp only [decide_eq_true_eq] at h2
    rw [← h2]
    exact get_of hg h1
theorem iface_both {l : List If} (hg : Good l) {id : Int} (hid : IN.ok id) : ∃ (r : If) (is : Bool), (getI l id = if is then some r else none) ∧ (is = false → r = ⟨0, 0, 0, 0, 0⟩) ∧ ∀ w h, HopsAt w h (hdOf l) → Calls Try.prog 16 #[.pointer (some ⟨h, 0, none⟩), .int .i64 id] w fun e w' => e = .returned (.tuple #[.agg #[.int .i64 r.id, .int .i64 r.r, .int .u32 (r.ad : Int), .int .i64 r.ln, .int .i64 r.cp], .bool is]) ∧ Below w.heap.size w w' := by
  have hgg := get_getI hg id
  cases hf : getI l id with
  | none => exact ⟨⟨0, 0, 0, 0, 0⟩, false, rfl, fun _ => rfl, fun w h H => iface_any H hid _ false (by rw [hgg, hf]; rfl) (fun _ => rfl)⟩
  | some r => exact ⟨r, true, rfl, fun h => (by cases h), fun w h H => iface_any H hid r true (by rw [hgg, hf]; rfl) (fun h => by cases h)⟩
set_option maxRecDepth 100000 in
set_option maxHeartbeats 2000000 in
theorem hfinds_law {w : World} {oa : Option Addr} {n c : Nat} {l : List If} (hl : IfsW w oa n c l) (ρ : Int) {a : Nat} (ha : a < 4294967296) {id : Int} (hid : IN.ok id) : Calls Try.prog 3 #[.slice oa n c, .int .i64 ρ, .int .u32 a, .int .i64 id] w fun e w' => e = .returned (.bool true) ∧ Below w.heap.size w w' := by
  have hlen := hl.ifs.sl.len
  have HL := Lib.hid hlen
  have HI := Lib.hid hl
  clear hl hlen
  by_cases h300 : 300 < n
  · have h3 : ((300 : Int) < (n : Int)) = True := by simp; omega
    clear h300
    go_enter Try.func3, Try.ntmps3
    go_wp2_with fail
    refine (lives16 w).mono ?_
    rintro e W1 ⟨rfl, hb⟩
    have HB := Lib.hid hb
    clear hb
    go_wp2_with fail
    go_ret
    exact ⟨rfl, HB.out⟩
  have h3 : ((300 : Int) < (n : Int)) = False := by simp; omega
  obtain ⟨bg, hbg⟩ : ∃ bg, goodB l = bg := ⟨_, rfl⟩
  have HG := Lib.hid hbg
  clear hbg
  cases bg with
  | false =>
    go_enter Try.func3, Try.ntmps3
    go_wp2_with fail
    refine (hnew_bad HI.out HG.out).mono ?_
    rintro e W1 ⟨rfl, hb⟩
    have F0 := Lib.hid (And.intro hb (HI.out.keep hb))
    clear hb
    go_wp2_with fail
    refine (lives16 W1).mono ?_
    rintro e W2 ⟨rfl, hb⟩
    have F1 := Lib.hid (And.intro (bcall F0.out.1 (Nat.le_refl _) hb) ((F0.out.2.keep hb)))
    clear F0
    clear hb
    go_wp2_with fail
    have hch := rchk_is F1.out.2.ifs
    rw [HG.out] at hch
    refine hch.mono ?_
    rintro e W3 ⟨rfl, hb⟩
    have F2 := Lib.hid (And.intro (bcall F1.out.1 (Nat.le_refl _) hb) ((F1.out.2.keep hb)))
    clear F1
    clear hb hch
    go_wp2_with fail
    have hch := hcheck_any F2.out.2 false HG.out
    rw [cond_false] at hch
    refine hch.mono ?_
    rintro e W4 ⟨rfl, hb⟩
    have F3 := Lib.hid (And.intro (bcall F2.out.1 (Nat.le_refl _) hb) ((F2.out.2.keep hb)))
    clear F2
    clear hb hch
    go_wp2_with fail
    go_ret
    exact ⟨rfl, F3.out.1⟩
  | true =>
    obtain ⟨r1, is1, e1, z1, c1⟩ := find_both (good_iff.1 HG.out) ρ ha
    obtain ⟨r2, is2, e2, z2, c2⟩ := iface_both (good_iff.1 HG.out) hid
    have HC1 := Lib.hid c1
    have HC2 := Lib.hid c2
    have HE1 := Lib.hid (And.intro e1 z1)
    have HE2 := Lib.hid (And.intro e2 z2)
    clear c1 c2 e1 e2 z1 z2
    go_enter Try.func3, Try.ntmps3
    go_wp2_with fail
    refine (hnew_ok HI.out.ifs (good_iff.1 HG.out)).mono ?_
    rintro e W1 ⟨hb0, rfl, hH, hb⟩
    have F0 := Lib.hid (And.intro hb (And.intro (HI.out.keep hb) hH))
    clear hb hH
    go_wp2_with fail
    refine (lives16 W1).mono ?_
    rintro e W2 ⟨rfl, hb⟩
    have F4 := Lib.hid (And.intro (bcall F0.out.1 (Nat.le_refl _) hb) (And.intro (F0.out.2.1.keep hb) ((F0.out.2.2.keep hb))))
    clear F0
    clear hb
    go_wp2_with fail
    have hch := rchk_is F4.out.2.1.ifs
    rw [HG.out] at hch
    refine hch.mono ?_
    rintro e W3 ⟨rfl, hb⟩
    have F5 := Lib.hid (And.intro (bcall F4.out.1 (Nat.le_refl _) hb) (And.intro (F4.out.2.1.keep hb) ((F4.out.2.2.keep hb))))
    clear F4
    clear hb hch
    go_wp2_with fail
    refine (hcheck_ok F5.out.2.1.ifs (good_iff.1 HG.out)).mono ?_
    rintro e W4 ⟨rfl, hb⟩
    have F6 := Lib.hid (And.intro (bcall F5.out.1 (Nat.le_refl _) hb) (And.intro (F5.out.2.1.keep hb) ((F5.out.2.2.keep hb))))
    clear F5
    clear hb
    go_wp2_with fail
    refine (HC1.out _ _ F6.out.2.2).mono ?_
    rintro e W5 ⟨rfl, hb⟩
    have hal := (Below.refl W5.heap.size W5).alloc (Nat.le_refl _) (.cells #[.int .i64 r1.id, .int .i64 r1.r, .int .u32 (r1.ad : Int), .int .i64 r1.ln, .int .i64 r1.cp] 34)
    have hlb : (W5.alloc (.cells #[.int .i64 r1.id, .int .i64 r1.r, .int .u32 (r1.ad : Int), .int .i64 r1.ln, .int .i64 r1.cp] 34)).heap[W5.heap.size]? = some (.cells #[.int .i64 r1.id, .int .i64 r1.r, .int .u32 (r1.ad : Int), .int .i64 r1.ln, .int .i64 r1.cp] 34) := hnew _ _
    have hbb := bcall hb (Nat.le_refl _) hal
    have F7 := Lib.hid (And.intro (bcall F6.out.1 (Nat.le_refl _) hbb) (And.intro (F6.out.2.1.keep hbb) (And.intro (F6.out.2.2.keep hbb) (hlb))))
    clear F6
    clear hal hlb hbb hb
    go_wp2_with fail
    generalize W5.alloc (.cells #[.int .i64 r1.id, .int .i64 r1.r, .int .u32 (r1.ad : Int), .int .i64 r1.ln, .int .i64 r1.cp] 34) = W6 at *
    generalize W5.heap.size = q4 at *
    go_wp2_with fail
    refine (rfindI_any F7.out.2.1.ifs ρ ha r1 is1 HE1.out.1 HE1.out.2).mono ?_
    rintro e W7 ⟨rfl, hb⟩
    have hal := (Below.refl W7.heap.size W7).alloc (Nat.le_refl _) (.cells #[.int .i64 r1.id, .int .i64 r1.r, .int .u32 (r1.ad : Int), .int .i64 r1.ln, .int .i64 r1.cp] 34)
    have hlb : (W7.alloc (.cells #[.int .i64 r1.id, .int .i64 r1.r, .int .u32 (r1.ad : Int), .int .i64 r1.ln, .int .i64 r1.cp] 34)).heap[W7.heap.size]? = some (.cells #[.int .i64 r1.id, .int .i64 r1.r, .int .u32 (r1.ad : Int), .int .i64 r1.ln, .int .i64 r1.cp] 34) := hnew _ _
    have hbb := bcall hb (Nat.le_refl _) hal
    have F8 := Lib.hid (And.intro (bcall F7.out.1 (Nat.le_refl _) hbb) (And.intro (F7.out.2.1.keep hbb) (And.intro (F7.out.2.2.1.keep hbb) (And.intro ((hbb.block _ (lt_of_blk F7.out.2.2.2)).trans F7.out.2.2.2) (hlb)))))
    clear F7
    clear hal hlb hbb hb
    unfold If.v
    go_wp2_with fail
    generalize W7.alloc (.cells #[.int .i64 r1.id, .int .i64 r1.r, .int .u32 (r1.ad : Int), .int .i64 r1.ln, .int .i64 r1.cp] 34) = W8 at *
    generalize W7.heap.size = q6 at *
    go_wp2_with fail
    refine (HC2.out _ _ F8.out.2.2.1).mono ?_
    rintro e W9 ⟨rfl, hb⟩
    have hal := (Below.refl W9.heap.size W9).alloc (Nat.le_refl _) (.cells #[.int .i64 r2.id, .int .i64 r2.r, .int .u32 (r2.ad : Int), .int .i64 r2.ln, .int .i64 r2.cp] 34)
    have hlb : (W9.alloc (.cells #[.int .i64 r2.id, .int .i64 r2.r, .int .u32 (r2.ad : Int), .int .i64 r2.ln, .int .i64 r2.cp] 34)).heap[W9.heap.size]? = some (.cells #[.int .i64 r2.id, .int .i64 r2.r, .int .u32 (r2.ad : Int), .int .i64 r2.ln, .int .i64 r2.cp] 34) := hnew _ _
    have hbb := bcall hb (Nat.le_refl _) hal
    have F9 := Lib.hid (And.intro (bcall F8.out.1 (Nat.le_refl _) hbb) (And.intro (F8.out.2.1.keep hbb) (And.intro (F8.out.2.2.1.keep hbb) (And.intro ((hbb.block _ (lt_of_blk F8.out.2.2.2.1)).trans F8.out.2.2.2.1) (And.intro ((hbb.block _ (lt_of_blk F8.out.2.2.2.2)).trans F8.out.2.2.2.2) (hlb))))))
    clear F8
    clear hal hlb hbb hb
    go_wp2_with fail
    generalize W9.alloc (.cells #[.int .i64 r2.id, .int .i64 r2.r, .int .u32 (r2.ad : Int), .int .i64 r2.ln, .int .i64 r2.cp] 34) = W10 at *
    generalize W9.heap.size = q8 at *
    go_wp2_with fail
    refine (riface_any F9.out.2.1.ifs id r2 is2 HE2.out.1 HE2.out.2).mono ?_
    rintro e W11 ⟨rfl, hb⟩
    have hal := (Below.refl W11.heap.size W11).alloc (Nat.le_refl _) (.cells #[.int .i64 r2.id, .int .i64 r2.r, .int .u32 (r2.ad : Int), .int .i64 r2.ln, .int .i64 r2.cp] 34)
    have hlb : (W11.alloc (.cells #[.int .i64 r2.id, .int .i64 r2.r, .int .u32 (r2.ad : Int), .int .i64 r2.ln, .int .i64 r2.cp] 34)).heap[W11.heap.size]? = some (.cells #[.int .i64 r2.id, .int .i64 r2.r, .int .u32 (r2.ad : Int), .int .i64 r2.ln, .int .i64 r2.cp] 34) := hnew _ _
    have hbb := bcall hb (Nat.le_refl _) hal
    have F10 := Lib.hid (And.intro (bcall F9.out.1 (Nat.le_refl _) hbb) (And.intro (F9.out.2.1.keep hbb) (And.intro (F9.out.2.2.1.keep hbb) (And.intro ((hbb.block _ (lt_of_blk F9.out.2.2.2.1)).trans F9.out.2.2.2.1) (And.intro ((hbb.block _ (lt_of_blk F9.out.2.2.2.2.1)).trans F9.out.2.2.2.2.1) (And.intro ((hbb.block _ (lt_of_blk F9.out.2.2.2.2.2)).trans F9.out.2.2.2.2.2) (hlb)))))))
    clear F9
    clear hal hlb hbb hb
    unfold If.v
    obtain ⟨x0, x1, x2, x3, x4⟩ := IfS.cells (x := r1) F10.out.2.2.2.1
    obtain ⟨y0, y1, y2, y3, y4⟩ := IfS.cells (x := r1) F10.out.2.2.2.2.1
    obtain ⟨z0, z1, z2, z3, z4⟩ := IfS.cells (x := r2) F10.out.2.2.2.2.2.1
    obtain ⟨v0, v1, v2, v3, v4⟩ := IfS.cells (x := r2) F10.out.2.2.2.2.2.2
    clear HC1 HC2 HE1 HE2
    go_wp2_with fail
    generalize W11.alloc (.cells #[.int .i64 r2.id, .int .i64 r2.r, .int .u32 (r2.ad : Int), .int .i64 r2.ln, .int .i64 r2.cp] 34) = W12 at *
    generalize W11.heap.size = q11 at *
    have hsn : (sortI l).length = n := by rw [sortI_length]; exact HL.out.symm
    refine (all_any F10.out.2.2.1 (good_iff.1 HG.out)).mono ?_
    rintro e W13 ⟨v, rfl, hown, hb⟩
    obtain ⟨a5, c5, rfl, hsl, -⟩ := hown.sl0
    rw [hsn] at hsl ⊢
    have F11 := Lib.hid (And.intro (bcall F10.out.1 (Nat.le_refl _) hb) (And.intro (F10.out.2.1.keep hb) (And.intro (F10.out.2.2.1.keep hb) (hsl))))
    clear F10
    clear hb hown hsl x0 x1 x2 x3 x4 y0 y1 y2 y3 y4 z0 z1 z2 z3 z4 v0 v1 v2 v3 v4
    go_wp2_with fail
    have hn9 : n ≤ 4294967296 := by omega
    refine (rsort_any F11.out.2.1.ifs hn9).mono ?_
    rintro e W14 ⟨v, rfl, hown, hb⟩
    obtain ⟨a6, c6, rfl, hsl, -⟩ := hown.sl0
    rw [hsn] at hsl ⊢
    have F12 := Lib.hid (And.intro (bcall F11.out.1 (Nat.le_refl _) hb) (And.intro (F11.out.2.1.keep hb) (And.intro (F11.out.2.2.1.keep hb) (And.intro (F11.out.2.2.2.keep hb) (hsl)))))
    clear F11
    clear hb hown hsl hn9
    go_wp2_with fail
    refine (rsameI F12.out.2.2.2.1 F12.out.2.2.2.2).mono ?_
    rintro e W15 ⟨rfl, hb⟩
    have F13 := Lib.hid (And.intro (bcall F12.out.1 (Nat.le_refl _) hb) (And.intro (F12.out.2.1.keep hb) (And.intro (F12.out.2.2.1.keep hb) (And.intro (F12.out.2.2.2.1.keep hb) ((F12.out.2.2.2.2.keep hb))))))
    clear F12
    clear hb
    go_wp2_with fail
    refine (len_of F13.out.2.2.1 (good_iff.1 HG.out)).mono ?_
    rintro e W16 ⟨rfl, rfl⟩
    rw [show ((l.length : Nat) : Int) = (n : Int) from by rw [HL.out]]
    go_wp2_with fail
    go_ret
    exact ⟨rfl, F13.out.1⟩
end Go.Proofs.Ytlkbaplfffbmkaa
/- HopShorter: the law's walk. -/
namespace Go.Proofs.Ytlkbaplfffbmkaa
open Go.RowKit

def I3 (n : Int) : Prop := -9223372036854775808 ≤ n ∧ n ≤ 9223372036854775807
theorem Good.init {l : List If} {z : If} (h : Good (l ++ [z])) : Good l := by
  have hd : ∀ k, k < l.length → (l ++ [z]).getD k default = l.getD k default := fun k hk => by
    simp [List.getD_eq_getElem?_getD, List.getElem?_append_left hk]
  refine ⟨fun x hx => h.ok x (by simp [hx]), fun k i hk hi => ?_, fun k i hk hi => ?_, ?_⟩
  · have := h.ids k i hk (by simp; omega)
    rwa [hd k (by omega), hd i hi] at this
  · have := h.nets k i hk (by simp; omega)
    rwa [hd k (by omega), hd i hi] at this
  · have := h.len
    simp at this
    omega
theorem ownE {w : World} : RIf.Own (w.alloc (.cells #[] 34)) w.heap.size (.slice (some ⟨w.heap.size, 0, none⟩) 0 0) ([] : List If) := Rep.own_empty (hnew w _) (Nat.le_refl _)
set_option maxRecDepth 100000 in
set_option maxHeartbeats 2000000 in
theorem hshort_law {w : World} {oa : Option Addr} {n c : Nat} {l : List If} (hl : IfsW w oa n c l) (hnil : oa = none → c = 0) (hroom : n * 40 ≤ 140737488351232) {id : Int} (hid : I3 id) {ρ : Int} (hρ : I3 ρ) {a : Nat} (ha : a < 4294967296) : Calls Try.prog 5 #[.slice oa n c, .int .i64 id, .int .i64 ρ, .int .u32 a] w fun e w' => e = .returned (.bool true) ∧ Below w.heap.size w w' := by
  have HL := Lib.hid hl.ifs.sl.len
  have HI := Lib.hid hl
  have HN := Lib.hid hnil
  have HID := Lib.hid (And.intro hid hρ)
  clear hl hnil hid hρ
  go_enter Try.func5, Try.ntmps5
  go_wp2_with (at_builtin; refine halt ?_)
  refine Halted.go ?_
  have hal := (Below.refl w.heap.size w).alloc (Nat.le_refl _) (.cells #[] 34)
  refine Rep.append_list T23 rfl _ _ rfl (base := w.heap.size) (L := []) (M := l) rfl ownE rfl (HI.out.ifs.sl.keep hal) HN.out (by unfold maxLen; rw [List.length_nil]; omega) (by show (0 + n) * 40 ≤ _; omega) hal.size ?_
  intro v1 W1 hown1 hb1 _
  rw [List.nil_append] at hown1
  have hbb := hal.trans hb1
  have F0 := Lib.hid (And.intro hbb (And.intro (HI.out.keep hbb) hown1))
  clear hal hbb hb1 hown1
  go_wp2_with (at_builtin; refine halt ?_)
  refine Halted.go ?_
  have hal := (Below.refl W1.heap.size W1).alloc (Nat.le_refl _) (.cells #[.int .i64 id, .int .i64 ρ, .int .u32 0, .int .i64 0, .int .i64 0] 34)
  have hone : (W1.alloc (.cells #[.int .i64 id, .int .i64 ρ, .int .u32 0, .int .i64 0, .int .i64 0] 34)).heap[W1.heap.size]? = some (.cells #[.int .i64 id, .int .i64 ρ, .int .u32 0, .int .i64 0, .int .i64 0] 34) := hnew _ _
  have F1 := Lib.hid (And.intro (bcall F0.out.1 (Nat.le_refl _) hal) (And.intro (F0.out.2.1.keep hal) (And.intro (F0.out.2.2.below hal) (hone))))
  clear F0
  clear hal hone
  refine Rep.append_one T23 rfl _ _ rfl rfl F1.out.2.2.1 ⟨id, ρ, 0, 0, 0⟩ W1.heap.size 1 rfl F1.out.2.2.2 (n := n) HL.out.symm (by unfold maxLen; omega) (by show (n + 1) * 40 ≤ _; omega) F1.out.1.size ?_
  intro v2 W2 hown2 hb2 _
  have hll : (l ++ [(⟨id, ρ, 0, 0, 0⟩ : If)]).length = n + 1 := by rw [List.length_append, ← HL.out]; rfl
  obtain ⟨a2, c2, rfl, hsl2, -⟩ := hown2.sl0
  rw [hll] at hsl2 ⊢
  have hbb := F1.out.1.trans hb2
  have F9 := Lib.hid (And.intro hbb (And.intro (HI.out.keep hbb) (show IfsW W2 a2 (n + 1) c2 (l ++ [⟨id, ρ, 0, 0, 0⟩]) from ⟨⟨hsl2, fun x hx => by
    rcases List.mem_append.1 hx with hx | hx
    · exact HI.out.ifs.ad x hx
    · simp at hx; subst hx; show (0 : Nat) < 4294967296; omega⟩, fun x hx => by
    rcases List.mem_append.1 hx with hx | hx
    · exact HI.out.ok x hx
    · simp at hx; subst hx; exact ⟨wfI HID.out.1, wfI HID.out.2, wfU ⟨by show (0 : Int) ≤ 0; omega, by show (0 : Int) ≤ 4294967295; omega⟩, wfI ⟨by show (-9223372036854775808 : Int) ≤ 0; omega, by show (0 : Int) ≤ 9223372036854775807; omega⟩⟩⟩)))
  clear hown2 hb2 hsl2 hbb hll F1
  by_cases h100 : 100 < n
  · have h1 : ((100 : Int) < (n : Int)) = True := by simp; omega
    clear h100
    go_wp2_with fail
    refine (lives16 W2).mono ?_
    rintro e W3 ⟨rfl, hb⟩
    have HB := Lib.hid (bcall F9.out.1 (Nat.le_refl _) hb)
    clear hb
    go_wp2_with fail
    go_ret
    exact ⟨rfl, HB.out⟩
  have h1 : ((100 : Int) < (n : Int)) = False := by simp; omega
  obtain ⟨bg, hbg⟩ : ∃ bg, goodB (l ++ [(⟨id, ρ, 0, 0, 0⟩ : If)]) = bg := ⟨_, rfl⟩
  have HG := Lib.hid hbg
  clear hbg
  cases bg with
  | false =>
    go_wp2_with fail
    have hch := rchk_is F9.out.2.2.ifs
    rw [HG.out] at hch
    refine hch.mono ?_
    rintro e W3 ⟨rfl, hb⟩
    have F2 := Lib.hid (And.intro (bcall F9.out.1 (Nat.le_refl _) hb) (And.intro (F9.out.2.1.keep hb) ((F9.out.2.2.keep hb))))
    clear F9
    clear hb hch
    go_wp2_with fail
    refine (lives16 W3).mono ?_
    rintro e W4 ⟨rfl, hb⟩
    have F3 := Lib.hid (And.intro (bcall F2.out.1 (Nat.le_refl _) hb) (And.intro (F2.out.2.1.keep hb) ((F2.out.2.2.keep hb))))
    clear F2
    clear hb
    go_wp2_with fail
    go_ret
    exact ⟨rfl, F3.out.1⟩
  | true =>
    have hgm := good_iff.1 HG.out
    have hgl := hgm.init
    have hzr := okI_iff.1 (hgm.ok ⟨id, ρ, 0, 0, 0⟩ (by simp))
    have hr0 : 0 ≤ ρ := hzr.2.2.1
    have hr1 : ρ ≤ 15 := hzr.2.2.2.1
    obtain ⟨q, rfl⟩ : ∃ q : Nat, ρ = (q : Int) := ⟨ρ.toNat, by omega⟩
    have hq : q < 16 := by omega
    have hfs := find_shorter (ρ := q) (a := a) hgl hgm ha rfl rfl rfl
    have HK := Lib.hid (And.intro hgm (And.intro hgl hq))
    have HS := Lib.hid hfs
    clear hgm hgl hzr hr0 hr1 hq hfs
    go_wp2_with fail
    have hch := rchk_is F9.out.2.2.ifs
    rw [HG.out] at hch
    refine hch.mono ?_
    rintro e W3 ⟨rfl, hb⟩
    have F4 := Lib.hid (And.intro (bcall F9.out.1 (Nat.le_refl _) hb) (And.intro (F9.out.2.1.keep hb) ((F9.out.2.2.keep hb))))
    clear F9
    clear hb hch
    go_wp2_with fail
    refine (hnew_ok F4.out.2.1.ifs HK.out.2.1).mono ?_
    rintro e W4 ⟨g0, rfl, hH, hb⟩
    have F5 := Lib.hid (And.intro (bcall F4.out.1 (Nat.le_refl _) hb) (And.intro (F4.out.2.1.keep hb) (And.intro (F4.out.2.2.keep hb) (hH))))
    clear F4
    clear hb hH
    go_wp2_with fail
    refine (hnew_ok F5.out.2.2.1.ifs HK.out.1).mono ?_
    rintro e W5 ⟨h0, rfl, hH, hb⟩
    have F6 := Lib.hid (And.intro (bcall F5.out.1 (Nat.le_refl _) hb) (And.intro (F5.out.2.1.keep hb) (And.intro (F5.out.2.2.1.keep hb) (And.intro (F5.out.2.2.2.keep hb) (hH)))))
    clear F5
    clear hb hH
    go_wp2_with fail
    rcases HS.out with ⟨x, e1, e2⟩ | ⟨e1, e2⟩
    · have HE := Lib.hid (And.intro e1 e2)
      clear e1 e2 HS
      refine (find_any F6.out.2.2.2.1 HK.out.2.2 ha x true (by rw [HE.out.1]; rfl) (fun h => by cases h)).mono ?_
      rintro e W6 ⟨rfl, hb⟩
      have hal := (Below.refl W6.heap.size W6).alloc (Nat.le_refl _) (.cells #[.int .i64 x.id, .int .i64 x.r, .int .u32 (x.ad : Int), .int .i64 x.ln, .int .i64 x.cp] 34)
      have hlb : (W6.alloc (.cells #[.int .i64 x.id, .int .i64 x.r, .int .u32 (x.ad : Int), .int .i64 x.ln, .int .i64 x.cp] 34)).heap[W6.heap.size]? = some (.cells #[.int .i64 x.id, .int .i64 x.r, .int .u32 (x.ad : Int), .int .i64 x.ln, .int .i64 x.cp] 34) := hnew _ _
      have hbb := bcall hb (Nat.le_refl _) hal
      have F7 := Lib.hid (And.intro (bcall F6.out.1 (Nat.le_refl _) hbb) (And.intro (F6.out.2.1.keep hbb) (And.intro (F6.out.2.2.1.keep hbb) (And.intro (F6.out.2.2.2.1.keep hbb) (And.intro (F6.out.2.2.2.2.keep hbb) (hlb))))))
      clear F6
      clear hal hlb hbb hb
      unfold If.v
      go_wp2_with fail
      generalize W6.alloc (.cells #[.int .i64 x.id, .int .i64 x.r, .int .u32 (x.ad : Int), .int .i64 x.ln, .int .i64 x.cp] 34) = W7 at *
      generalize W6.heap.size = q6 at *
      refine (find_any F7.out.2.2.2.2.1 HK.out.2.2 ha x true (by rw [HE.out.2]; rfl) (fun h => by cases h)).mono ?_
      rintro e W8 ⟨rfl, hb⟩
      have hal := (Below.refl W8.heap.size W8).alloc (Nat.le_refl _) (.cells #[.int .i64 x.id, .int .i64 x.r, .int .u32 (x.ad : Int), .int .i64 x.ln, .int .i64 x.cp] 34)
      have hlb : (W8.alloc (.cells #[.int .i64 x.id, .int .i64 x.r, .int .u32 (x.ad : Int), .int .i64 x.ln, .int .i64 x.cp] 34)).heap[W8.heap.size]? = some (.cells #[.int .i64 x.id, .int .i64 x.r, .int .u32 (x.ad : Int), .int .i64 x.ln, .int .i64 x.cp] 34) := hnew _ _
      have hbb := bcall hb (Nat.le_refl _) hal
      have F8 := Lib.hid (And.intro (bcall F7.out.1 (Nat.le_refl _) hbb) (And.intro (F7.out.2.1.keep hbb) (And.intro (F7.out.2.2.1.keep hbb) (And.intro (F7.out.2.2.2.1.keep hbb) (And.intro (F7.out.2.2.2.2.1.keep hbb) (And.intro ((hbb.block _ (lt_of_blk F7.out.2.2.2.2.2)).trans F7.out.2.2.2.2.2) (hlb)))))))
      clear F7
      clear hal hlb hbb hb
      unfold If.v
      go_wp2_with fail
      generalize W8.alloc (.cells #[.int .i64 x.id, .int .i64 x.r, .int .u32 (x.ad : Int), .int .i64 x.ln, .int .i64 x.cp] 34) = W9 at *
      generalize W8.heap.size = q8 at *
      refine (lives16 W9).mono ?_
      rintro e W10 ⟨rfl, hb⟩
      have F9 := Lib.hid (And.intro (bcall F8.out.1 (Nat.le_refl _) hb) (And.intro (F8.out.2.1.keep hb) (And.intro (F8.out.2.2.1.keep hb) (And.intro (F8.out.2.2.2.1.keep hb) (And.intro (F8.out.2.2.2.2.1.keep hb) (And.intro ((hb.block _ (lt_of_blk F8.out.2.2.2.2.2.1)).trans F8.out.2.2.2.2.2.1) (((hb.block _ (lt_of_blk F8.out.2.2.2.2.2.2)).trans F8.out.2.2.2.2.2.2))))))))
      clear F8
      clear hb
      obtain ⟨x0, x1, x2, x3, x4⟩ := IfS.cells (x := x) F9.out.2.2.2.2.2.1
      obtain ⟨y0, y1, y2, y3, y4⟩ := IfS.cells (x := x) F9.out.2.2.2.2.2.2
      go_wp2_with fail
      go_ret
      exact ⟨rfl, F9.out.1⟩
    · have HE := Lib.hid (And.intro e1 e2)
      clear e1 e2 HS
      refine (find_any F6.out.2.2.2.1 HK.out.2.2 ha ⟨0, 0, 0, 0, 0⟩ false (by rw [HE.out.1]; rfl) (fun h => rfl)).mono ?_
      rintro e W6 ⟨rfl, hb⟩
      have hal := (Below.refl W6.heap.size W6).alloc (Nat.le_refl _) (.cells #[.int .i64 0, .int .i64 0, .int .u32 0, .int .i64 0, .int .i64 0] 34)
      have hlb : (W6.alloc (.cells #[.int .i64 0, .int .i64 0, .int .u32 0, .int .i64 0, .int .i64 0] 34)).heap[W6.heap.size]? = some (.cells #[.int .i64 0, .int .i64 0, .int .u32 0, .int .i64 0, .int .i64 0] 34) := hnew _ _
      have hbb := bcall hb (Nat.le_refl _) hal
      have F10 := Lib.hid (And.intro (bcall F6.out.1 (Nat.le_refl _) hbb) (And.intro (F6.out.2.1.keep hbb) (And.intro (F6.out.2.2.1.keep hbb) (And.intro (F6.out.2.2.2.1.keep hbb) (And.intro (F6.out.2.2.2.2.keep hbb) (hlb))))))
      clear F6
      clear hal hlb hbb hb
      unfold If.v
      go_wp2_with fail
      generalize W6.alloc (.cells #[.int .i64 0, .int .i64 0, .int .u32 0, .int .i64 0, .int .i64 0] 34) = W7 at *
      generalize W6.heap.size = q6 at *
      refine (find_any F10.out.2.2.2.2.1 HK.out.2.2 ha ⟨id, (q : Int), 0, 0, 0⟩ true (by rw [HE.out.2]; rfl) (fun h => by cases h)).mono ?_
      rintro e W8 ⟨rfl, hb⟩
      have hal := (Below.refl W8.heap.size W8).alloc (Nat.le_refl _) (.cells #[.int .i64 id, .int .i64 (q : Int), .int .u32 0, .int .i64 0, .int .i64 0] 34)
      have hlb : (W8.alloc (.cells #[.int .i64 id, .int .i64 (q : Int), .int .u32 0, .int .i64 0, .int .i64 0] 34)).heap[W8.heap.size]? = some (.cells #[.int .i64 id, .int .i64 (q : Int), .int .u32 0, .int .i64 0, .int .i64 0] 34) := hnew _ _
      have hbb := bcall hb (Nat.le_refl _) hal
      have F11 := Lib.hid (And.intro (bcall F10.out.1 (Nat.le_refl _) hbb) (And.intro (F10.out.2.1.keep hbb) (And.intro (F10.out.2.2.1.keep hbb) (And.intro (F10.out.2.2.2.1.keep hbb) (And.intro (F10.out.2.2.2.2.1.keep hbb) (And.intro ((hbb.block _ (lt_of_blk F10.out.2.2.2.2.2)).trans F10.out.2.2.2.2.2) (hlb)))))))
      clear F10
      clear hal hlb hbb hb
      unfold If.v
      go_wp2_with fail
      generalize W8.alloc (.cells #[.int .i64 id, .int .i64 (q : Int), .int .u32 0, .int .i64 0, .int .i64 0] 34) = W9 at *
      generalize W8.heap.size = q8 at *
      refine (lives16 W9).mono ?_
      rintro e W10 ⟨rfl, hb⟩
      have F12 := Lib.hid (And.intro (bcall F11.out.1 (Nat.le_refl _) hb) (And.intro (F11.out.2.1.keep hb) (And.intro (F11.out.2.2.1.keep hb) (And.intro (F11.out.2.2.2.1.keep hb) (And.intro (F11.out.2.2.2.2.1.keep hb) (And.intro ((hb.block _ (lt_of_blk F11.out.2.2.2.2.2.1)).trans F11.out.2.2.2.2.2.1) (((hb.block _ (lt_of_blk F11.out.2.2.2.2.2.2)).trans F11.out.2.2.2.2.2.2))))))))
      clear F11
      clear hb
      obtain ⟨x0, x1, x2, x3, x4⟩ := IfS.cells (x := ⟨0, 0, 0, 0, 0⟩) F12.out.2.2.2.2.2.1
      obtain ⟨y0, y1, y2, y3, y4⟩ := IfS.cells (x := ⟨id, (q : Int), 0, 0, 0⟩) F12.out.2.2.2.2.2.2
      go_wp2_with fail
      go_ret
      exact ⟨rfl, F12.out.1⟩
end Go.Proofs.Ytlkbaplfffbmkaa
/- HopOrders: the law's walk. -/
namespace Go.Proofs.Ytlkbaplfffbmkaa
open Go.RowKit

theorem Good.perm {l M : List If} (h : Good l) (hp : M.Perm l) : Good M := by
  have h1 := good_iff.2 h
  unfold goodB at h1
  simp only [Bool.and_eq_true, decide_eq_true_eq] at h1
  refine good_iff.1 ?_
  unfold goodB
  simp only [Bool.and_eq_true, decide_eq_true_eq]
  refine ⟨⟨⟨by rw [hp.length_eq]; exact h1.1.1.1, ((hp.map If.id).nodup_iff).2 h1.1.1.2⟩, ((hp.map If.net).nodup_iff).2 h1.1.2⟩, ?_⟩
  rw [List.all_eq_true]
  exact fun x hx => h.ok x (hp.mem_iff.1 hx)
theorem sortI_perm {l M : List If} (h : Good l) (hp : M.Perm l) : sortI M = sortI l :=
  sorted_eq (sortI_sorted (h.perm hp).ndid) (sortI_sorted h.ndid) fun x => by rw [sortI_mem, sortI_mem]; exact hp.mem_iff
theorem opt_one {r r' : If} {is is' : Bool} (h : (if is then some r else none) = (if is' then some r' else none)) (z : is = false → r = ⟨0, 0, 0, 0, 0⟩) (z' : is' = false → r' = ⟨0, 0, 0, 0, 0⟩) : r = r' ∧ is = is' := by
  cases is <;> cases is'
  · exact ⟨(z rfl).trans (z' rfl).symm, rfl⟩
  · simp at h
  · simp at h
  · simp at h; exact ⟨h, rfl⟩
def FindsSo (D : HD) (ρ : Int) (a : Nat) (r : If) (is : Bool) : Prop := ∀ w h, HopsAt w h D → Calls Try.prog 14 #[.pointer (some ⟨h, 0, none⟩), .int .i64 ρ, .int .u32 a] w fun e w' => e = .returned (.tuple #[.agg #[.int .i64 r.id, .int .i64 r.r, .int .u32 (r.ad : Int), .int .i64 r.ln, .int .i64 r.cp], .bool is]) ∧ Below w.heap.size w w'
theorem find_pair {l M : List If} (hg : Good l) (hp : M.Perm l) (ρ : Int) {a : Nat} (ha : a < 4294967296) : ∃ r is, FindsSo (hdOf l) ρ a r is ∧ FindsSo (hdOf M) ρ a r is := by
  obtain ⟨r, is, e, z, c⟩ := find_both hg ρ ha
  obtain ⟨r', is', e', z', c'⟩ := find_both (hg.perm hp) ρ ha
  have he : (refFind l ρ a).map (fun j => l.getD j default) = (refFind M ρ a).map (fun j => M.getD j default) := by
    by_cases hρ : ρ < 0 ∨ 15 < ρ
    · rw [refFind_out hg a hρ, refFind_out (hg.perm hp) a hρ]; rfl
    · obtain ⟨k, rfl⟩ : ∃ k : Nat, ρ = (k : Int) := ⟨ρ.toNat, by omega⟩
      rw [find_ref hg, find_ref (hg.perm hp)]
      exact find_perm hg (hg.perm hp) (fun x => hp.mem_iff.symm) k a
  rw [e, e'] at he
  obtain ⟨rfl, rfl⟩ := opt_one he z z'
  exact ⟨r, is, c, c'⟩
theorem rotI (l : List If) (q : Nat) : (l.drop q ++ l.take q).Perm l := by
  have : (l.take q ++ l.drop q).Perm (l.drop q ++ l.take q) := List.perm_append_comm
  rw [List.take_append_drop] at this
  exact this.symm
set_option maxRecDepth 100000 in
set_option maxHeartbeats 4000000 in
theorem hord_law {w : World} {oa : Option Addr} {n c : Nat} {l : List If} (hl : IfsW w oa n c l) (hnc : n ≤ c) (hcm : c ≤ maxLen) {turn : Int} (_ht : I3 turn) (ρ : Int) {a : Nat} (ha : a < 4294967296) : Calls Try.prog 4 #[.slice oa n c, .int .i64 turn, .int .i64 ρ, .int .u32 a] w fun e w' => e = .returned (.bool true) ∧ Below w.heap.size w w' := by
  have HL := Lib.hid hl.ifs.sl.len
  have HI := Lib.hid hl
  clear hl
  by_cases h100 : 100 < n
  · have h1 : ((100 : Int) < (n : Int)) = True := by simp; omega
    clear h100
    go_enter Try.func4, Try.ntmps4
    go_wp2_with fail
    refine (lives16 w).mono ?_
    rintro e W1 ⟨rfl, hb⟩
    have HB := Lib.hid hb
    clear hb
    go_wp2_with fail
    go_ret
    exact ⟨rfl, HB.out⟩
  have h1 : ((100 : Int) < (n : Int)) = False := by simp; omega
  by_cases hn0 : n = 0
  · subst hn0
    go_enter Try.func4, Try.ntmps4
    go_wp2_with fail
    refine (lives16 w).mono ?_
    rintro e W1 ⟨rfl, hb⟩
    have HB := Lib.hid hb
    clear hb
    go_wp2_with fail
    go_ret
    exact ⟨rfl, HB.out⟩
  have hnz : ((n : Int) == 0) = false := by rw [beq_eq_false_iff_ne]; omega
  by_cases htn : turn < 0
  · have ht1 : (turn < 0) = True := eq_true htn
    go_enter Try.func4, Try.ntmps4
    go_wp2_with fail
    refine (lives16 w).mono ?_
    rintro e W1 ⟨rfl, hb⟩
    have HB := Lib.hid hb
    clear hb
    go_wp2_with fail
    go_ret
    exact ⟨rfl, HB.out⟩
  have ht1 : (turn < 0) = False := eq_false htn
  obtain ⟨bg, hbg⟩ : ∃ bg, goodB l = bg := ⟨_, rfl⟩
  have HG := Lib.hid hbg
  clear hbg
  cases bg with
  | false =>
    go_enter Try.func4, Try.ntmps4
    go_wp2_with fail
    have hch := rchk_is HI.out.ifs
    rw [HG.out] at hch
    refine hch.mono ?_
    rintro e W1 ⟨rfl, hb⟩
    have F0 := Lib.hid (And.intro hb (HI.out.keep hb))
    clear hb hch
    go_wp2_with fail
    refine (lives16 W1).mono ?_
    rintro e W2 ⟨rfl, hb⟩
    have F1 := Lib.hid (And.intro (bcall F0.out.1 (Nat.le_refl _) hb) ((F0.out.2.keep hb)))
    clear F0
    clear hb
    go_wp2_with fail
    go_ret
    exact ⟨rfl, F1.out.1⟩
  | true =>
    have hgl := good_iff.1 HG.out
    obtain ⟨q, hq⟩ : ∃ q : Nat, turn % (n : Int) = (q : Int) := ⟨(turn % (n : Int)).toNat, by have := Int.emod_nonneg turn (show (n : Int) ≠ 0 by omega); omega⟩
    have hqn : q < n := by have := Int.emod_lt_of_pos turn (show (0 : Int) < (n : Int) by omega); omega
    obtain ⟨r, is, p1, p2⟩ := find_pair hgl (rotI l q) ρ ha
    have HP := Lib.hid (And.intro p1 p2)
    have HGL := Lib.hid hgl
    have hcm2 : c ≤ 9223372036854775807 := hcm
    obtain ⟨b, off, rfl, hrow⟩ := HI.out.ifs.sl.row (show 0 < n by omega)
    have HRW := Lib.hid hrow
    clear hgl p1 p2 hrow hcm
    go_enter Try.func4, Try.ntmps4
    go_wp2_with fail
    have hch := rchk_is HI.out.ifs
    rw [HG.out] at hch
    refine hch.mono ?_
    rintro e W1 ⟨rfl, hb⟩
    have F0 := Lib.hid (And.intro hb (HI.out.keep hb))
    clear hb hch
    go_wp2_with fail
    refine (hnew_ok F0.out.2.ifs HGL.out).mono ?_
    rintro e W2 ⟨g0, rfl, hH, hb⟩
    have F2 := Lib.hid (And.intro (bcall F0.out.1 (Nat.le_refl _) hb) (And.intro (F0.out.2.keep hb) (hH)))
    clear F0
    clear hb hH
    go_wp2_with fail
    have hq1 : q ≤ c := by omega
    have hq2 : ¬ c = q := by omega
    have hq3 : (q : Int) ≤ n := by omega
    have hq4 : q ≤ n := by omega
    refine wp_region_pieces (by kernel_rfl) ?_
    refine wpAny_pure [1, 2, 3, 5, 6, 7] (g := 9) rfl (by kernel_rfl) (fun _ _ d _ _ h => by cases d <;> exact h) ?_
    simp only [pick, List.getD_cons_zero, List.getD_cons_succ]
    iterate 6 ((with_reducible refine wpPure_step (fun K hK => ?_)); go_simp; with_reducible refine hK _ ?_; clear hK K)
    with_reducible refine wpPure_nil ?_
    have hd := (Below.refl W2.heap.size W2).drew
    have hrw : RIf.Row W2.drew b off l := HRW.out.below (F2.out.1.trans (hd.mono F2.out.1.size))
    have hlen := HL.out
    have hs1 : RIf.Sl W2.drew (some ⟨b, off + q * 5, none⟩) (n - q) (c - q) (l.drop q) := ⟨by rw [List.length_drop, ← hlen], by unfold maxLen; omega, fun _ => ⟨b, _, rfl, hrw.drop q⟩⟩
    have hs2 : RIf.Sl W2.drew (some ⟨b, off, none⟩) q c (l.take q) := ⟨by rw [List.length_take]; omega, by unfold maxLen; omega, fun _ => ⟨b, _, rfl, hrw.take q⟩⟩
    have F3 := Lib.hid (And.intro (bcall F2.out.1 (Nat.le_refl _) hd) (And.intro (F2.out.2.1.keep hd) (And.intro (F2.out.2.2.keep hd) (And.intro (hs1) ((hs2))))))
    clear F2
    clear hs1 hs2 hrw hlen hd
    generalize W2.drew = W3 at *
    refine wpAny_one 0 (by kernel_rfl) ?_
    simp only [pick, List.getD_cons_zero]
    go_wp2_with fail
    have hal := (Below.refl W3.heap.size W3).alloc (Nat.le_refl _) (.cells #[] 34)
    refine wpAny_one 4 (by kernel_rfl) ?_
    simp only [pick, List.getD_cons_zero, List.getD_cons_succ]
    go_wp2_with (at_builtin; refine halt ?_)
    refine Halted.go ?_
    refine Rep.append_list T23 rfl _ _ rfl (base := W3.heap.size) (L := []) (M := l.drop q) rfl ownE rfl (F3.out.2.2.2.1.keep hal) (fun e => by cases e) (by unfold maxLen; rw [List.length_nil]; omega) (by show (0 + (n - q)) * 40 ≤ _; omega) hal.size ?_
    intro v4 W4 hown4 hb4 _
    rw [List.nil_append] at hown4
    have H4 := Lib.hid (And.intro hown4 (hal.trans hb4))
    clear hown4 hb4 hal
    go_wp2_with fail
    refine wpAny_one 8 (by kernel_rfl) ?_
    simp only [pick, List.getD_cons_zero, List.getD_cons_succ]
    go_wp2_with (at_builtin; refine halt ?_)
    refine Halted.go ?_
    have hdl : (l.drop q).length = n - q := by rw [List.length_drop, ← HL.out]
    refine Rep.append_list T23 rfl _ _ rfl (base := W3.heap.size) (L := l.drop q) (M := l.take q) rfl H4.out.1 rfl (F3.out.2.2.2.2.keep H4.out.2) (fun e => by cases e) (by unfold maxLen; rw [hdl]; omega) (by show ((l.drop q).length + q) * 40 ≤ _; rw [hdl]; omega) H4.out.2.size ?_
    intro v5 W5 hown5 hb5 _
    have hbb := H4.out.2.trans hb5
    obtain ⟨a5, c5, rfl, hsl5, -⟩ := hown5.sl0
    rw [show (l.drop q ++ l.take q).length = n from by rw [(rotI l q).length_eq]; exact HL.out.symm] at hsl5 ⊢
    have hj : IfsW W5 a5 n c5 (l.drop q ++ l.take q) := ⟨⟨hsl5, fun x hx => HI.out.ifs.ad x ((rotI l q).mem_iff.1 hx)⟩, fun x hx => HI.out.ok x ((rotI l q).mem_iff.1 hx)⟩
    have F4 := Lib.hid (And.intro (bcall F3.out.1 (Nat.le_refl _) hbb) (And.intro (F3.out.2.1.keep hbb) (And.intro (F3.out.2.2.1.keep hbb) (hj))))
    clear F3
    clear hown5 hb5 hbb hsl5 hj hdl H4
    go_wp2_with fail
    refine wpAny_one 9 (by kernel_rfl) ?_
    simp only [pick, List.getD_cons_zero, List.getD_cons_succ]
    go_wp2_with fail
    refine (hnew_ok F4.out.2.2.2.ifs (HGL.out.perm (rotI l q))).mono ?_
    rintro e W6 ⟨h0, rfl, hH, hb⟩
    have F5 := Lib.hid (And.intro (bcall F4.out.1 (Nat.le_refl _) hb) (And.intro (F4.out.2.1.keep hb) (And.intro (F4.out.2.2.1.keep hb) (And.intro (F4.out.2.2.2.keep hb) (hH)))))
    clear F4
    clear hb hH
    go_wp2_with fail
    refine wpAny_pure [10, 11, 12] (g := 2) rfl (by kernel_rfl) (fun _ _ d _ _ h => by cases d <;> exact h) ?_
    simp only [pick, List.getD_cons_zero, List.getD_cons_succ]
    iterate 3 ((with_reducible refine wpPure_step (fun K hK => ?_)); go_simp; with_reducible refine hK _ ?_; clear hK K)
    with_reducible refine wpPure_nil ?_
    refine wpAny_one 13 (by kernel_rfl) ?_
    simp only [pick, List.getD_cons_zero, List.getD_cons_succ]
    go_wp2_with fail
    refine wpAny_one 14 (by kernel_rfl) ?_
    simp only [pick, List.getD_cons_zero, List.getD_cons_succ]
    go_wp2_with fail
    refine wpAny_done (by kernel_rfl) ?_ _
    go_wp2_with fail
    refine (HP.out.1 _ _ F5.out.2.2.1).mono ?_
    rintro e W7 ⟨rfl, hb⟩
    have hal := (Below.refl W7.heap.size W7).alloc (Nat.le_refl _) (.cells #[.int .i64 r.id, .int .i64 r.r, .int .u32 (r.ad : Int), .int .i64 r.ln, .int .i64 r.cp] 34)
    have hlb : (W7.alloc (.cells #[.int .i64 r.id, .int .i64 r.r, .int .u32 (r.ad : Int), .int .i64 r.ln, .int .i64 r.cp] 34)).heap[W7.heap.size]? = some (.cells #[.int .i64 r.id, .int .i64 r.r, .int .u32 (r.ad : Int), .int .i64 r.ln, .int .i64 r.cp] 34) := hnew _ _
    have hbb := bcall hb (Nat.le_refl _) hal
    have F6 := Lib.hid (And.intro (bcall F5.out.1 (Nat.le_refl _) hbb) (And.intro (F5.out.2.1.keep hbb) (And.intro (F5.out.2.2.1.keep hbb) (And.intro (F5.out.2.2.2.1.keep hbb) (And.intro (F5.out.2.2.2.2.keep hbb) (hlb))))))
    clear F5
    clear hal hlb hbb hb
    go_wp2_with fail
    generalize W7.alloc (.cells #[.int .i64 r.id, .int .i64 r.r, .int .u32 (r.ad : Int), .int .i64 r.ln, .int .i64 r.cp] 34) = W8 at *
    generalize W7.heap.size = q6 at *
    refine (HP.out.2 _ _ F6.out.2.2.2.2.1).mono ?_
    rintro e W9 ⟨rfl, hb⟩
    have hal := (Below.refl W9.heap.size W9).alloc (Nat.le_refl _) (.cells #[.int .i64 r.id, .int .i64 r.r, .int .u32 (r.ad : Int), .int .i64 r.ln, .int .i64 r.cp] 34)
    have hlb : (W9.alloc (.cells #[.int .i64 r.id, .int .i64 r.r, .int .u32 (r.ad : Int), .int .i64 r.ln, .int .i64 r.cp] 34)).heap[W9.heap.size]? = some (.cells #[.int .i64 r.id, .int .i64 r.r, .int .u32 (r.ad : Int), .int .i64 r.ln, .int .i64 r.cp] 34) := hnew _ _
    have hbb := bcall hb (Nat.le_refl _) hal
    have F7 := Lib.hid (And.intro (bcall F6.out.1 (Nat.le_refl _) hbb) (And.intro (F6.out.2.1.keep hbb) (And.intro (F6.out.2.2.1.keep hbb) (And.intro (F6.out.2.2.2.1.keep hbb) (And.intro (F6.out.2.2.2.2.1.keep hbb) (And.intro ((hbb.block _ (lt_of_blk F6.out.2.2.2.2.2)).trans F6.out.2.2.2.2.2) (hlb)))))))
    clear F6
    clear hal hlb hbb hb
    go_wp2_with fail
    generalize W9.alloc (.cells #[.int .i64 r.id, .int .i64 r.r, .int .u32 (r.ad : Int), .int .i64 r.ln, .int .i64 r.cp] 34) = W10 at *
    generalize W9.heap.size = q8 at *
    refine (lives16 W10).mono ?_
    rintro e W11 ⟨rfl, hb⟩
    have F8 := Lib.hid (And.intro (bcall F7.out.1 (Nat.le_refl _) hb) (And.intro (F7.out.2.1.keep hb) (And.intro (F7.out.2.2.1.keep hb) (And.intro (F7.out.2.2.2.1.keep hb) (And.intro (F7.out.2.2.2.2.1.keep hb) (And.intro ((hb.block _ (lt_of_blk F7.out.2.2.2.2.2.1)).trans F7.out.2.2.2.2.2.1) (((hb.block _ (lt_of_blk F7.out.2.2.2.2.2.2)).trans F7.out.2.2.2.2.2.2))))))))
    clear F7
    clear hb
    obtain ⟨x0, x1, x2, x3, x4⟩ := IfS.cells (x := r) F8.out.2.2.2.2.2.1
    obtain ⟨y0, y1, y2, y3, y4⟩ := IfS.cells (x := r) F8.out.2.2.2.2.2.2
    go_wp2_with fail
    have hsn : (sortI l).length = n := by rw [sortI_length]; exact HL.out.symm
    refine (all_any F8.out.2.2.1 HGL.out).mono ?_
    rintro e W12 ⟨v, rfl, hown, hb⟩
    obtain ⟨a6, c6, rfl, hsl, -⟩ := hown.sl0
    rw [hsn] at hsl ⊢
    have F9 := Lib.hid (And.intro (bcall F8.out.1 (Nat.le_refl _) hb) (And.intro (F8.out.2.1.keep hb) (And.intro (F8.out.2.2.1.keep hb) (And.intro (F8.out.2.2.2.1.keep hb) (And.intro (F8.out.2.2.2.2.1.keep hb) (hsl))))))
    clear F8
    clear hb hown hsl x0 x1 x2 x3 x4 y0 y1 y2 y3 y4
    go_wp2_with fail
    refine (all_any F9.out.2.2.2.2.1 (HGL.out.perm (rotI l q))).mono ?_
    rintro e W13 ⟨v, rfl, hown, hb⟩
    rw [sortI_perm HGL.out (rotI l q)] at hown
    obtain ⟨a7, c7, rfl, hsl, -⟩ := hown.sl0
    rw [hsn] at hsl ⊢
    have F10 := Lib.hid (And.intro (bcall F9.out.1 (Nat.le_refl _) hb) (And.intro (F9.out.2.1.keep hb) (And.intro (F9.out.2.2.1.keep hb) (And.intro (F9.out.2.2.2.1.keep hb) (And.intro (F9.out.2.2.2.2.1.keep hb) (And.intro (F9.out.2.2.2.2.2.keep hb) (hsl)))))))
    clear F9
    clear hb hown hsl
    go_wp2_with fail
    refine (rsameI F10.out.2.2.2.2.2.1 F10.out.2.2.2.2.2.2).mono ?_
    rintro e W14 ⟨rfl, hb⟩
    have F11 := Lib.hid (And.intro (bcall F10.out.1 (Nat.le_refl _) hb) (And.intro (F10.out.2.1.keep hb) (And.intro (F10.out.2.2.1.keep hb) (And.intro (F10.out.2.2.2.1.keep hb) (And.intro (F10.out.2.2.2.2.1.keep hb) (And.intro (F10.out.2.2.2.2.2.1.keep hb) ((F10.out.2.2.2.2.2.2.keep hb))))))))
    clear F10
    clear hb
    go_wp2_with fail
    go_ret
    exact ⟨rfl, F11.out.1⟩
end Go.Proofs.Ytlkbaplfffbmkaa
/- What an argument that reads as data is in memory: ints, bools, strings, slices; structs by 'Reads.struct'. -/
namespace Go.Proofs.Ytlkbaplfffbmkaa
open Go.ChangeShapes Go.WideShapes Go.ChangeAt Go.RowKit Go.Deep

/-- cells that read as data of type T are those of some a -/
structure Reads (P : Program) (T : TypeId) {α : Type} (cells : α → List Value) (ok : World → α → Prop) : Prop where
  read : ∀ {H : Type} {enc : TypeId × Value → H} {w : World} {spare : Nat → Bool} {held : Bool} {fuel : Nat} {cs : List Value} {x : DataW H × List MemPlace}, DataW.trod enc P w 0 spare held fuel T cs = some x → ∃ a, cs = cells a ∧ ok w a
theorem Reads.int {P : Program} {T : TypeId} {k : IntKind} (ht : P.underlying T = some (.int k)) : Reads P T (fun n : Int => [.int k n]) (fun _ n => (Lit.int k n).wf = true) :=
  ⟨fun h => by obtain ⟨n, e, _, hw⟩ := DataW.trod_int ht h; exact ⟨n, e, hw⟩⟩
theorem Reads.bool {P : Program} {T : TypeId} (ht : P.underlying T = some .bool) : Reads P T (fun b : Bool => [.bool b]) (fun _ _ => True) :=
  ⟨fun h => by obtain ⟨n, e, _⟩ := DataW.trod_bool ht h; exact ⟨n, e, trivial⟩⟩
theorem Reads.string {P : Program} {T : TypeId} (ht : P.underlying T = some .string) : Reads P T (fun s : ByteArray => [.string s]) (fun _ s => s.size ≤ maxLen) :=
  ⟨fun h => by obtain ⟨s, e, _, hw⟩ := DataW.trod_string ht h; exact ⟨s, e, hw⟩⟩
theorem wf64 {n : Int} (h : (Lit.int .i64 n).wf = true) : -9223372036854775808 ≤ n ∧ n ≤ 9223372036854775807 := by
  simp only [Lit.wf, IntKind.min, IntKind.max, IntKind.signed, IntKind.bits, Bool.and_eq_true, decide_eq_true_eq] at h
  simpa using h
theorem wfu32 {n : Int} (h : (Lit.int .u32 n).wf = true) : 0 ≤ n ∧ n ≤ 4294967295 := by
  simp only [Lit.wf, IntKind.min, IntKind.max, IntKind.signed, IntKind.bits, Bool.and_eq_true] at h
  simpa using h
theorem wfu8 {n : Int} (h : (Lit.int .u8 n).wf = true) : 0 ≤ n ∧ n ≤ 255 := by
  simp only [Lit.wf, IntKind.min, IntKind.max, IntKind.signed, IntKind.bits, Bool.and_eq_true] at h
  simpa using h

/-- a slice, and what it reads as -/
structure SlV (α : Type) where
  a : Option Addr
  n : Nat
  c : Nat
  l : List α
structure SlOk {α : Type} [Inhabited α] (R : Rep α) (ok : World → α → Prop) (w : World) (s : SlV α) : Prop where
  sl : R.Sl w s.a s.n s.c s.l
  nil : s.a = none → s.c = 0
  nc : s.n ≤ s.c
  cm : s.c ≤ maxLen
  all : ∀ x ∈ s.l, ok w x
theorem Reads.slice {P : Program} {t : TypeId} {α : Type} [Inhabited α] {R : Rep α} {ok : World → α → Prop} (ht : P.underlying t = some (.slice R.T)) (hk : P.cellsOf R.T = R.k) (h : Reads P R.T R.cells ok) :
    Reads P t (fun s : SlV α => [.slice s.a s.n s.c]) (SlOk R ok) :=
  ⟨fun {H enc w spare held fuel cs x} hx => by
    rcases open_slice ht hx with ⟨rfl, _⟩ | ⟨a, len, cap, m, n, D, Pl, rfl, _, hl, hm, hmm, _, hi⟩
    · exact ⟨⟨none, 0, 0, []⟩, rfl, ⟨⟨rfl, by show 0 ≤ maxLen; omega, fun h0 => absurd h0 (by show ¬ 0 < 0; omega)⟩, fun _ => rfl, Nat.le_refl _, by show 0 ≤ maxLen; omega, fun x hx => by cases hx⟩⟩
    · have hml : len ≤ m := by rw [hmm]; split <;> omega
      have hel : ∀ i, i < len → ∃ y : α, (∀ j, j < R.k → w.cell? (a.add (i * R.k + j)) = (R.cells y)[j]?) ∧ ok w y := by
        intro i hi'
        obtain ⟨cs', hc, ht'⟩ := hi i (by omega)
        rw [hk] at hc
        obtain ⟨y, rfl, hok⟩ := h.read ht'
        obtain ⟨_, _, hat⟩ := World.cells?_some hc
        exact ⟨y, fun j hj => by rw [← add_add]; exact hat j hj, hok⟩
      let f : Nat → α := fun i => if h0 : i < len then (hel i h0).choose else default
      have hf : ∀ i, i < len → (∀ j, j < R.k → w.cell? (a.add (i * R.k + j)) = (R.cells (f i))[j]?) ∧ ok w (f i) := fun i h0 => by
        have := (hel i h0).choose_spec
        simp only [f, h0, dif_pos]; exact this
      refine ⟨⟨some a, len, cap, (List.range len).map f⟩, rfl, ⟨⟨by simp, by show len ≤ maxLen; omega, fun h0 => ?_⟩, fun e => (by cases e), hl, hm, fun x hx => ?_⟩⟩
      · have hpos : 0 < len := h0
        have hk0 := R.pos
        have h00 := (hf 0 hpos).1 0 hk0
        have hsome : ∃ v, (R.cells (f 0))[0]? = some v := ⟨_, List.getElem?_eq_getElem (by rw [R.len]; exact hk0)⟩
        obtain ⟨v, hv⟩ := hsome
        rw [hv, Nat.zero_mul, Nat.add_zero] at h00
        have ha0 : a.add 0 = a := by unfold Addr.add; simp
        rw [ha0] at h00
        have hsp : a.spot = none := by
          unfold World.cell? at h00
          split at h00
          · split at h00
            · cases h00
            · rename_i hs; simpa using hs
          · cases h00
        obtain ⟨b, off, sp⟩ := a
        dsimp only at hsp
        subst hsp
        refine ⟨b, off, rfl, ⟨World.block_lt_of_cell? w _ h00, fun i hi' j hj => ?_⟩⟩
        have hi'' : i < len := by simpa using hi'
        have := (hf i hi'').1 j hj
        have hadd : (⟨b, off, none⟩ : Addr).add (i * R.k + j) = ⟨b, off + i * R.k + j, none⟩ := by
          unfold Addr.add
          split
          · rename_i h0; simp
          · simp [Nat.add_assoc]
        rw [hadd] at this
        rw [this]
        simp [List.getD_eq_getElem?_getD, hi'']
      · obtain ⟨i, hi', rfl⟩ := List.mem_map.1 hx
        exact (hf i (by simpa using hi')).2⟩
/-- the fields of a struct, each by what reads it -/
theorem Reads.fields {P : Program} {T : TypeId} {fs : Array Field} (ht : P.underlying T = some (.struct fs)) {H : Type} {enc : TypeId × Value → H} {w : World} {spare : Nat → Bool} {held : Bool} {fuel : Nat} {cs : List Value} {x : DataW H × List MemPlace}
    (h : DataW.trod enc P w 0 spare held fuel T cs = some x) : cs.length = P.cellsOf T ∧ ∀ (i : Nat) (f : Field), fs[i]? = some f → ∃ (n : Nat) (y : DataW H × List MemPlace), DataW.trod enc P w 0 spare held n f.type ((cs.drop f.offset).take (P.cellsOf f.type)) = some y := by
  obtain ⟨xs, n, _, _, hl, hlen, hx⟩ := DataW.trod_struct ht h
  refine ⟨hl, fun i f hf => ⟨n, ?_⟩⟩
  have hi : i < xs.length := by rw [hlen]; exact (Array.getElem?_eq_some_iff.1 hf).1
  exact ⟨xs[i], by rw [hx i f hf]; simp [hi]⟩
theorem Reads.conv {P : Program} {T : TypeId} {α β : Type} {cells : α → List Value} {ok : World → α → Prop} {cells' : β → List Value} {ok' : World → β → Prop} (h : Reads P T cells ok) (g : ∀ w a, ok w a → ∃ b, cells a = cells' b ∧ ok' w b) : Reads P T cells' ok' :=
  ⟨fun hx => by obtain ⟨a, rfl, hok⟩ := h.read hx; obtain ⟨b, e, hb⟩ := g _ a hok; exact ⟨b, e, hb⟩⟩
/-- an argument of one cell -/
theorem Reads.arg {P : Program} {T : TypeId} {α : Type} {cells : α → List Value} {ok : World → α → Prop} (h : Reads P T cells ok) {H : Type} {enc : TypeId × Value → H} {w : World} {spare : Nat → Bool} {held : Bool} {v : Value} {d : DataW H} {ps : List MemPlace}
    (hd : DataW.Trod enc P w 0 spare held T v d ps) : ∃ a, v.cells.toList = cells a ∧ ok w a := by
  obtain ⟨fuel, hf⟩ := hd
  exact h.read hf
end Go.Proofs.Ytlkbaplfffbmkaa
