/- The reference's Find. -/
import Derived.Test.YtlkbaplfffbmkaaBf
import Derived.Test.YtlkbaplfffbmkaaGd
namespace Go.Proofs.Ytlkbaplfffbmkaa
open Go.RowKit

def FdS (B : Nat) (w0 w : World) : Prop := Below B w0 w ∧ B ≤ w0.heap.size
theorem FdS.call {B : Nat} {w0 w w' : World} (h : FdS B w0 w) (hb : Below w.heap.size w w') : FdS B w0 w' := ⟨h.1.trans (hb.mono (Nat.le_trans h.2 h.1.size)), h.2⟩
section
variable {p : Nat → Bool} {f : Nat → Int} {i k : Nat}
theorem bstG_no (h : p i = false) : bstG p f (i + 1) = bstG p f i := by
  rw [bstG]
  cases bstG p f i <;> simp [h]
theorem bstG_first (hb : bstG p f i = none) (h : p i = true) : bstG p f (i + 1) = some i := by rw [bstG, hb]; simp [h]
theorem bstG_more (hb : bstG p f i = some k) (h : p i = true) (hl : f k < f i) : bstG p f (i + 1) = some i := by rw [bstG, hb]; simp [h, hl]
theorem bstG_less (hb : bstG p f i = some k) (hl : ¬ f k < f i) : bstG p f (i + 1) = some k := by rw [bstG, hb]; simp [hl]
end
def bstV : Option Nat → Value
  | none => .int .i64 (-1)
  | some k => .int .i64 (k : Nat)
set_option maxRecDepth 100000 in
set_option maxHeartbeats 2000000 in
theorem rfindI_any {w : World} {oa : Option Addr} {n c : Nat} {l : List If} (h : Ifs w oa n c l) (ρ : Int) {a : Nat} (ha : a < 4294967296) (r : If) (is : Bool) (hr : (refFind l ρ a).map (fun j => l.getD j default) = if is then some r else none) (hz : is = false → r = ⟨0, 0, 0, 0, 0⟩) : Calls Try.prog 15 #[.slice oa n c, .int .i64 ρ, .int .u32 a] w fun e w' => e = .returned (.tuple #[r.v, .bool is]) ∧ Below w.heap.size w w' := by
  have hal := (Below.refl w.heap.size w).alloc (Nat.le_refl _) (.cells #[.int .i64 0, .int .i64 0, .int .u32 0, .int .i64 0, .int .i64 0] 34)
  have hnw : (w.alloc (.cells #[.int .i64 0, .int .i64 0, .int .u32 0, .int .i64 0, .int .i64 0] 34)).heap[w.heap.size]? = some (.cells #[.int .i64 0, .int .i64 0, .int .u32 0, .int .i64 0, .int .i64 0] 34) := hnew _ _
  have HL := Lib.hid h.sl.len
  have F := Lib.hid h
  have hmax := h.sl.max
  have HR := Lib.hid (And.intro hr hz)
  have HA := Lib.hid (And.intro hal hnw)
  clear h hr hz hal hnw
  go_enter Try.func15, Try.ntmps15
  go_wp2_with fail
  go_loopw [8, 9] (fun bv iv wr => ∃ i : Nat, i ≤ n ∧ iv = .int .i64 i ∧ bv = bstV (bstG (fun i => hits ρ a (l.getD i default)) (fun i => (l.getD i default).ln) i) ∧ Below (w.heap.size + 1) (w.alloc (.cells #[.int .i64 0, .int .i64 0, .int .u32 0, .int .i64 0, .int .i64 0] 34)) wr) (fun _ iv _ => n - (intOf iv).toNat)
  case atStart => exact ⟨0, Nat.zero_le _, rfl, rfl, Below.refl _ _⟩
  case round =>
    obtain ⟨i, hi, rfl, rfl, hb⟩ := hrel
    obtain ⟨w2, rfl⟩ : ∃ w2 : World, w2 = wr := ⟨_, rfl⟩
    by_cases hlt : i < n
    · have hil : ((i : Int) < (n : Int)) = True := by simp; omega
      have hi0 : ((0 : Int) ≤ (i : Int)) = True := by simp
      have hw3 := wrapS hlt hmax
      obtain ⟨x, hx⟩ : ∃ x, l.getD i default = x := ⟨_, rfl⟩
      have hsz : w.heap.size + 1 ≤ w2.heap.size := by have := hb.size; simp at this; omega
      have hbw : Below w.heap.size w w2 := HA.out.1.trans (hb.mono (Nat.le_succ _))
      obtain ⟨b0, o0, hoa⟩ : ∃ b0 o0, oa = some ⟨b0, o0, none⟩ := by obtain ⟨b0, o0, e, -⟩ := F.out.sl.at hlt; exact ⟨b0, o0, e⟩
      subst hoa
      have hxk : ∀ q, q < n → ∀ w', FdS (w.heap.size + 1) w2 w' → IfAt b0 (o0 + q * 5) (l.getD q default) w' := fun q hq w' hw' => by
        obtain ⟨b1, o1, e1, -, hat⟩ := (F.out.keep (hbw.trans (hw'.1.mono (Nat.le_succ _)))).sl.at hq
        obtain ⟨rfl, rfl⟩ : b0 = b1 ∧ o0 = o1 := by simp only [Option.some.injEq, Addr.mk.injEq] at e1; exact ⟨e1.1, e1.2.1⟩
        have c0 := hat 0 (by decide)
        have c1 := hat 1 (by decide)
        have c2 := hat 2 (by decide)
        have c3 := hat 3 (by decide)
        have c4 := hat 4 (by decide)
        simp only [RIf, Nat.add_zero, List.getElem?_cons_zero, List.getElem?_cons_succ] at c0 c1 c2 c3 c4
        exact ⟨c0, c1, c2, c3, c4⟩
      have HK := Lib.hid hxk
      have HX := Lib.hid (hx ▸ hxk i hlt)
      have hadx : x.ad < 4294967296 := hx ▸ F.out.ad _ (getD_mem (by rw [← HL.out]; exact hlt))
      have hC := fun W => rholds_any x.ad x.ln a hadx ha W
      have hit : hits ρ a x = (decide (x.r = ρ) && holdsP x.ad x.ln a) := rfl
      have HB := Lib.hid (And.intro hb hsz)
      clear hxk hb hsz hbw hadx
      obtain ⟨b', hb'⟩ : ∃ b', holdsP x.ad x.ln a = b' := ⟨_, rfl⟩
      rw [hb'] at hit
      simp only [hb'] at hC
      unfold pfx at hC
      have HC := Lib.hid hC
      obtain ⟨BB, hBB⟩ : ∃ BB, bstG (fun i => hits ρ a (l.getD i default)) (fun i => (l.getD i default).ln) i = BB := ⟨_, rfl⟩
      rw [hBB]
      clear hC hb'
      by_cases hr : x.r = ρ
      · have hrt : (x.r = ρ) = True := eq_true hr
        have hrb : (x.r == ρ) = true := by simpa using hr
        rw [decide_eq_true hr, Bool.true_and] at hit
        cases b' with
        | false =>
          have HE := Lib.hid (show bstV BB = bstV (bstG (fun i => hits ρ a (l.getD i default)) (fun i => (l.getD i default).ln) (i + 1)) from by rw [bstG_no (by rw [hx]; exact hit), hBB])
          generalize bstV BB = bv at *
          clear hit hBB hx hr
          go_wp2_with fail
          refine wp_region_quiet_tail (FdS (w.heap.size + 1) w2) 34 (by kernel_rfl) (by kernel_rfl) ⟨Below.drew (Below.refl _ _), HB.out.2⟩ ?_
          simp only [List.take_succ_cons, List.take_zero, List.drop_succ_cons, List.drop_zero]
          iterate 34 ((with_reducible refine wpQuiet_step (fun K hK => ?_)); go_simp; first | (rw [if_neg (by decide)]; (with_reducible refine hK _ ?_); clear hK K) | ((with_reducible refine hK _ ?_); clear hK K) | (apply Exists.intro; (with_reducible refine ⟨fun w' hw' => ?_, hK _ ?_⟩); first | (go_at_call 44; (with_reducible refine (HC.out w').mono ?_); rintro e w9 ⟨rfl, hb9⟩; exact ⟨rfl, hw'.call hb9⟩) | (obtain ⟨f0, f1, f2, f3, f4⟩ := HX.out w' hw'; go_simp; first | exact rfl | exact ⟨rfl, rfl⟩); clear hK K))
          refine wpQuiet_nil ?_
          intro W5 hW5
          have HB := Lib.hid (show Below (w.heap.size + 1) (w.alloc (.cells #[.int .i64 0, .int .i64 0, .int .u32 0, .int .i64 0, .int .i64 0] 34)) W5 from HB.out.1.trans hW5.1)
          clear hW5
          go_wp2_with fail
          exact ⟨⟨i + 1, hlt, by first | rw [hw3] | rw [Int.natCast_succ], HE.out, HB.out⟩, by first | (rw [hw3]; exact mSucc hlt) | (rw [← Int.natCast_succ]; exact mSucc hlt)⟩
        | true =>
          cases BB with
          | none =>
            have HE := Lib.hid (show Value.int .i64 (i : Nat) = bstV (bstG (fun i => hits ρ a (l.getD i default)) (fun i => (l.getD i default).ln) (i + 1)) from by rw [bstG_first hBB (by rw [hx]; exact hit)]; rfl)
            unfold bstV
            clear hit hBB hx hr
            go_wp2_with fail
            refine wp_region_quiet_tail (FdS (w.heap.size + 1) w2) 34 (by kernel_rfl) (by kernel_rfl) ⟨Below.drew (Below.refl _ _), HB.out.2⟩ ?_
            simp only [List.take_succ_cons, List.take_zero, List.drop_succ_cons, List.drop_zero]
            iterate 34 ((with_reducible refine wpQuiet_step (fun K hK => ?_)); go_simp; first | (rw [if_neg (by decide)]; (with_reducible refine hK _ ?_); clear hK K) | ((with_reducible refine hK _ ?_); clear hK K) | (apply Exists.intro; (with_reducible refine ⟨fun w' hw' => ?_, hK _ ?_⟩); first | (go_at_call 44; (with_reducible refine (HC.out w').mono ?_); rintro e w9 ⟨rfl, hb9⟩; exact ⟨rfl, hw'.call hb9⟩) | (obtain ⟨f0, f1, f2, f3, f4⟩ := HX.out w' hw'; go_simp; first | exact rfl | exact ⟨rfl, rfl⟩); clear hK K))
            refine wpQuiet_nil ?_
            intro W5 hW5
            have HB := Lib.hid (show Below (w.heap.size + 1) (w.alloc (.cells #[.int .i64 0, .int .i64 0, .int .u32 0, .int .i64 0, .int .i64 0] 34)) W5 from HB.out.1.trans hW5.1)
            clear hW5
            go_wp2_with fail
            exact ⟨⟨i + 1, hlt, by first | rw [hw3] | rw [Int.natCast_succ], HE.out, HB.out⟩, by first | (rw [hw3]; exact mSucc hlt) | (rw [← Int.natCast_succ]; exact mSucc hlt)⟩
          | some k =>
            have hki : k < i := ((bstG_spec i).1 k hBB).1
            have hkl : ((k : Int) < (n : Int)) = True := by simp; omega
            have hk0 : ((0 : Int) ≤ (k : Int)) = True := by simp
            have hkn : ((k : Int) < 0) = False := by simp
            have HY := Lib.hid (HK.out k (by omega))
            unfold bstV
            obtain ⟨y, hy⟩ : ∃ y, l.getD k default = y := ⟨_, rfl⟩
            rw [hy] at HY
            by_cases hln : y.ln < x.ln
            · have hlt2 : (y.ln < x.ln) = True := eq_true hln
              have HE := Lib.hid (show Value.int .i64 (i : Nat) = bstV (bstG (fun i => hits ρ a (l.getD i default)) (fun i => (l.getD i default).ln) (i + 1)) from by rw [bstG_more hBB (by rw [hx]; exact hit) (by rw [hx, hy]; exact hln)]; rfl)
              clear hit hBB hx hr hki hy hln
              go_wp2_with fail
              refine wp_region_quiet_tail (FdS (w.heap.size + 1) w2) 34 (by kernel_rfl) (by kernel_rfl) ⟨Below.drew (Below.refl _ _), HB.out.2⟩ ?_
              simp only [List.take_succ_cons, List.take_zero, List.drop_succ_cons, List.drop_zero]
              iterate 34 ((with_reducible refine wpQuiet_step (fun K hK => ?_)); go_simp; first | (rw [if_neg (by decide)]; (with_reducible refine hK _ ?_); clear hK K) | ((with_reducible refine hK _ ?_); clear hK K) | (apply Exists.intro; (with_reducible refine ⟨fun w' hw' => ?_, hK _ ?_⟩); first | (go_at_call 44; (with_reducible refine (HC.out w').mono ?_); rintro e w9 ⟨rfl, hb9⟩; exact ⟨rfl, hw'.call hb9⟩) | (obtain ⟨f0, f1, f2, f3, f4⟩ := HX.out w' hw'; obtain ⟨k0, k1, k2, k3, k4⟩ := HY.out w' hw'; go_simp; first | exact rfl | exact ⟨rfl, rfl⟩); clear hK K))
              refine wpQuiet_nil ?_
              intro W5 hW5
              have HB := Lib.hid (show Below (w.heap.size + 1) (w.alloc (.cells #[.int .i64 0, .int .i64 0, .int .u32 0, .int .i64 0, .int .i64 0] 34)) W5 from HB.out.1.trans hW5.1)
              clear hW5
              go_wp2_with fail
              exact ⟨⟨i + 1, hlt, by first | rw [hw3] | rw [Int.natCast_succ], HE.out, HB.out⟩, by first | (rw [hw3]; exact mSucc hlt) | (rw [← Int.natCast_succ]; exact mSucc hlt)⟩
            · have hlt2 : (y.ln < x.ln) = False := eq_false hln
              have HE := Lib.hid (show Value.int .i64 (k : Nat) = bstV (bstG (fun i => hits ρ a (l.getD i default)) (fun i => (l.getD i default).ln) (i + 1)) from by rw [bstG_less hBB (by rw [hx, hy]; exact hln)]; rfl)
              clear hit hBB hx hr hki hy hln
              go_wp2_with fail
              refine wp_region_quiet_tail (FdS (w.heap.size + 1) w2) 34 (by kernel_rfl) (by kernel_rfl) ⟨Below.drew (Below.refl _ _), HB.out.2⟩ ?_
              simp only [List.take_succ_cons, List.take_zero, List.drop_succ_cons, List.drop_zero]
              iterate 34 ((with_reducible refine wpQuiet_step (fun K hK => ?_)); go_simp; first | (rw [if_neg (by decide)]; (with_reducible refine hK _ ?_); clear hK K) | ((with_reducible refine hK _ ?_); clear hK K) | (apply Exists.intro; (with_reducible refine ⟨fun w' hw' => ?_, hK _ ?_⟩); first | (go_at_call 44; (with_reducible refine (HC.out w').mono ?_); rintro e w9 ⟨rfl, hb9⟩; exact ⟨rfl, hw'.call hb9⟩) | (obtain ⟨f0, f1, f2, f3, f4⟩ := HX.out w' hw'; obtain ⟨k0, k1, k2, k3, k4⟩ := HY.out w' hw'; go_simp; first | exact rfl | exact ⟨rfl, rfl⟩); clear hK K))
              refine wpQuiet_nil ?_
              intro W5 hW5
              have HB := Lib.hid (show Below (w.heap.size + 1) (w.alloc (.cells #[.int .i64 0, .int .i64 0, .int .u32 0, .int .i64 0, .int .i64 0] 34)) W5 from HB.out.1.trans hW5.1)
              clear hW5
              go_wp2_with fail
              exact ⟨⟨i + 1, hlt, by first | rw [hw3] | rw [Int.natCast_succ], HE.out, HB.out⟩, by first | (rw [hw3]; exact mSucc hlt) | (rw [← Int.natCast_succ]; exact mSucc hlt)⟩
      · have hrf : (x.r = ρ) = False := eq_false hr
        rw [decide_eq_false hr, Bool.false_and] at hit
        have HE := Lib.hid (show bstV BB = bstV (bstG (fun i => hits ρ a (l.getD i default)) (fun i => (l.getD i default).ln) (i + 1)) from by rw [bstG_no (by rw [hx]; exact hit), hBB])
        generalize bstV BB = bv at *
        clear hit hBB hx hr
        go_wp2_with fail
        refine wp_region_quiet_tail (FdS (w.heap.size + 1) w2) 34 (by kernel_rfl) (by kernel_rfl) ⟨Below.drew (Below.refl _ _), HB.out.2⟩ ?_
        simp only [List.take_succ_cons, List.take_zero, List.drop_succ_cons, List.drop_zero]
        iterate 34 ((with_reducible refine wpQuiet_step (fun K hK => ?_)); go_simp; first | (rw [if_neg (by decide)]; (with_reducible refine hK _ ?_); clear hK K) | ((with_reducible refine hK _ ?_); clear hK K) | (apply Exists.intro; (with_reducible refine ⟨fun w' hw' => ?_, hK _ ?_⟩); first | (go_at_call 44; (with_reducible refine (HC.out w').mono ?_); rintro e w9 ⟨rfl, hb9⟩; exact ⟨rfl, hw'.call hb9⟩) | (obtain ⟨f0, f1, f2, f3, f4⟩ := HX.out w' hw'; go_simp; first | exact rfl | exact ⟨rfl, rfl⟩); clear hK K))
        refine wpQuiet_nil ?_
        intro W5 hW5
        have HB := Lib.hid (show Below (w.heap.size + 1) (w.alloc (.cells #[.int .i64 0, .int .i64 0, .int .u32 0, .int .i64 0, .int .i64 0] 34)) W5 from HB.out.1.trans hW5.1)
        clear hW5
        go_wp2_with fail
        exact ⟨⟨i + 1, hlt, by first | rw [hw3] | rw [Int.natCast_succ], HE.out, HB.out⟩, by first | (rw [hw3]; exact mSucc hlt) | (rw [← Int.natCast_succ]; exact mSucc hlt)⟩
    · obtain rfl : n = i := by omega
      have hil : ((n : Int) < (n : Int)) = False := by simp
      have hfr : (bstG (fun i => hits ρ a (l.getD i default)) (fun i => (l.getD i default).ln) n).map (fun j => l.getD j default) = if is then some r else none := by rw [← HR.out.1, HL.out]; rfl
      have hsp := (bstG_spec (p := fun i => hits ρ a (l.getD i default)) (f := fun i => (l.getD i default).ln) n).1
      generalize bstG (fun i => hits ρ a (l.getD i default)) (fun i => (l.getD i default).ln) n = BB at *
      have hw9 : w2.heap[w.heap.size]? = some (.cells #[.int .i64 0, .int .i64 0, .int .u32 0, .int .i64 0, .int .i64 0] 34) := (hb.block _ (Nat.lt_succ_self _)).trans HA.out.2
      have hbw : Below w.heap.size w w2 := HA.out.1.trans (hb.mono (Nat.le_succ _))
      cases BB with
      | none =>
        have HX := Lib.hid (And.intro hfr (And.intro hw9 hbw))
        clear hfr hsp hw9 hbw hb
        unfold bstV
        go_wp2_with (with_reducible refine halt_store 34 rfl ?_)
        refine Halted.go ?_
        refine store_whole rfl 34 _ _ rfl w.heap.size #[.int .i64 0, .int .i64 0, .int .u32 0, .int .i64 0, .int .i64 0] rfl rfl HX.out.2.1 rfl (by kernel_rfl) (by simp [Value.oneCell']) ?_
        intro wz hwz hsz
        have HZ := Lib.hid (And.intro hwz (Below.trans HX.out.2.2 (hsz.below (Nat.le_refl _))))
        clear hwz hsz
        go_wp2_with fail
        refine ret_cell2 rfl rfl rfl HZ.out.1 Try.underlying34 rfl (by kernel_rfl) ?_
        have hri := HX.out.1
        cases is with
        | true => rw [if_pos rfl] at hri; cases hri
        | false => rw [HR.out.2 rfl]; exact ⟨rfl, HZ.out.2⟩
      | some k =>
        have hkn : k < n := (hsp k rfl).1
        have hkl : ((k : Int) < (n : Int)) = True := by simp; omega
        have hk0 : ((0 : Int) ≤ (k : Int)) = True := by simp
        have hkneg : ((k : Int) < 0) = False := by simp
        obtain ⟨b0, o0, rfl, hbb, hat⟩ := (F.out.keep hbw).sl.at hkn
        obtain ⟨x, hx⟩ : ∃ x, l.getD k default = x := ⟨_, rfl⟩
        rw [hx] at hat
        have c0 := hat 0 (by decide)
        have c1 := hat 1 (by decide)
        have c2 := hat 2 (by decide)
        have c3 := hat 3 (by decide)
        have c4 := hat 4 (by decide)
        simp only [RIf, Nat.add_zero, List.getElem?_cons_zero, List.getElem?_cons_succ] at c0 c1 c2 c3 c4
        have HX := Lib.hid (And.intro hfr (And.intro hw9 (And.intro hbw hx)))
        clear hfr hsp hw9 hbw hb hat hbb hx hkn
        unfold bstV
        go_wp2_with (with_reducible refine halt_store 34 rfl ?_)
        refine Halted.go ?_
        refine store_whole rfl 34 _ _ rfl w.heap.size #[.int .i64 x.id, .int .i64 x.r, .int .u32 (x.ad : Int), .int .i64 x.ln, .int .i64 x.cp] rfl rfl HX.out.2.1 rfl (by kernel_rfl) (by simp [Value.oneCell']) ?_
        intro wz hwz hsz
        have HZ := Lib.hid (And.intro hwz (Below.trans HX.out.2.2.1 (hsz.below (Nat.le_refl _))))
        clear hwz hsz c0 c1 c2 c3 c4
        go_wp2_with fail
        refine ret_cell2 rfl rfl rfl HZ.out.1 Try.underlying34 rfl (by kernel_rfl) ?_
        have hri := HX.out.1
        rw [Option.map_some, HX.out.2.2.2] at hri
        cases is with
        | true => rw [if_pos rfl] at hri; injection hri with hri; subst hri; exact ⟨rfl, HZ.out.2⟩
        | false => rw [if_neg (by decide)] at hri; cases hri
end Go.Proofs.Ytlkbaplfffbmkaa
