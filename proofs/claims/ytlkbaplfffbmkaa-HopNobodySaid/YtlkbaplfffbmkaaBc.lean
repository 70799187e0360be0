/- The reference's Iface, Same; Len; New of those that may not be. -/
import Derived.Test.YtlkbaplfffbmkaaBa
import Derived.Test.YtlkbaplfffbmkaaHh
namespace Go.Proofs.Ytlkbaplfffbmkaa
open Go.RowKit

def HD.len (_D : HD) (es : List (MR.Ent Int)) : Nat := es.length
/-- the one of a number, in a list -/
def getI (l : List If) (id : Int) : Option If := l.find? (fun x => decide (x.id = id))
set_option maxRecDepth 100000 in
set_option maxHeartbeats 1000000 in
theorem riface_any {w : World} {oa : Option Addr} {n c : Nat} {l : List If} (h : Ifs w oa n c l) (id : Int) (r : If) (is : Bool) (hr : getI l id = if is then some r else none) (hz : is = false → r = ⟨0, 0, 0, 0, 0⟩) : Calls Try.prog 17 #[.slice oa n c, .int .i64 id] w fun e w' => e = .returned (.tuple #[r.v, .bool is]) ∧ Below w.heap.size w w' := by
  have hal := (Below.refl w.heap.size w).alloc (Nat.le_refl _) (.cells #[.int .i64 0, .int .i64 0, .int .u32 0, .int .i64 0, .int .i64 0] 34)
  have hnw : (w.alloc (.cells #[.int .i64 0, .int .i64 0, .int .u32 0, .int .i64 0, .int .i64 0] 34)).heap[w.heap.size]? = some (.cells #[.int .i64 0, .int .i64 0, .int .u32 0, .int .i64 0, .int .i64 0] 34) := hnew _ _
  have HL := Lib.hid h.sl.len
  have F := Lib.hid h
  have hmax := h.sl.max
  have HR := Lib.hid (And.intro hr hz)
  have HA := Lib.hid (And.intro hal hnw)
  clear h hr hz hal hnw
  go_enter Try.func17, Try.ntmps17
  go_wp2_with fail
  go_loopw [6] (fun iv wr => ∃ i : Nat, i ≤ n ∧ iv = .int .i64 i ∧ (∀ j, j < i → (l.getD j default).id ≠ id) ∧ wr = w.alloc (.cells #[.int .i64 0, .int .i64 0, .int .u32 0, .int .i64 0, .int .i64 0] 34)) (fun iv _ => n - (intOf iv).toNat)
  case atStart => exact ⟨0, Nat.zero_le _, rfl, fun j hj => by omega, rfl⟩
  case round =>
    obtain ⟨i, hi, rfl, hne, rfl⟩ := hrel
    have HE := Lib.hid hne
    clear hne
    by_cases hlt : i < n
    · have hil : ((i : Int) < (n : Int)) = True := by simp; omega
      have hw3 := wrapS hlt hmax
      obtain ⟨b0, o0, rfl, hbb, hat⟩ := (F.out.keep HA.out.1).sl.at hlt
      have c0 := hat 0 (by decide)
      have c1 := hat 1 (by decide)
      have c2 := hat 2 (by decide)
      have c3 := hat 3 (by decide)
      have c4 := hat 4 (by decide)
      simp only [RIf, Nat.add_zero, List.getElem?_cons_zero, List.getElem?_cons_succ] at c0 c1 c2 c3 c4
      obtain ⟨x, hx⟩ : ∃ x, l.getD i default = x := ⟨_, rfl⟩
      rw [hx] at c0 c1 c2 c3 c4
      obtain ⟨be, hbe⟩ : ∃ be, (x.id == id) = be := ⟨_, rfl⟩
      have HB := Lib.hid (And.intro hbe hx)
      clear hx hat hbb
      cases be with
      | true =>
        have hbi : (x.id = id) = True := by simpa using HB.out.1
        have hget : getI l id = some x := by
          unfold getI
          rw [List.find?_eq_some_iff_getElem]
          refine ⟨by simpa using HB.out.1, i, by rw [← HL.out]; exact hlt, ?_, fun j hj => ?_⟩
          · have := HB.out.2
            simpa [List.getD_eq_getElem?_getD, List.getElem?_eq_getElem (show i < l.length by rw [← HL.out]; exact hlt)] using this
          · have := HE.out j hj
            simpa [List.getD_eq_getElem?_getD, List.getElem?_eq_getElem (show j < l.length by have := HL.out; omega)] using this
        have HG := Lib.hid hget
        clear hget
        go_wp2_with (with_reducible refine halt_store 34 rfl ?_)
        refine Halted.go ?_
        refine store_whole rfl 34 _ _ rfl w.heap.size #[.int .i64 x.id, .int .i64 x.r, .int .u32 (x.ad : Int), .int .i64 x.ln, .int .i64 x.cp] rfl rfl HA.out.2 rfl (by kernel_rfl) (by simp [Value.oneCell']) ?_
        intro wz hwz hsz
        have HZ := Lib.hid (And.intro hwz (Below.trans HA.out.1 (hsz.below (Nat.le_refl _))))
        clear hwz hsz
        go_wp2_with fail
        refine ret_cell2 rfl rfl rfl HZ.out.1 Try.underlying34 rfl (by kernel_rfl) ?_
        have hri := HR.out.1
        rw [HG.out] at hri
        cases is with
        | true => rw [if_pos rfl] at hri; injection hri with hri; subst hri; exact ⟨rfl, HZ.out.2⟩
        | false => rw [if_neg (by decide)] at hri; cases hri
      | false =>
        have hbi : (x.id = id) = False := by simpa using HB.out.1
        go_wp2_with fail
        exact ⟨⟨i + 1, hlt, by first | rw [hw3] | rw [Int.natCast_succ], fun j hj => by
          rcases Nat.lt_succ_iff_lt_or_eq.1 hj with h | rfl
          · exact HE.out j h
          · rw [HB.out.2]; simpa using HB.out.1, trivial⟩, by first | (rw [hw3]; exact mSucc hlt) | (rw [← Int.natCast_succ]; exact mSucc hlt)⟩
    · obtain rfl : n = i := by omega
      have hil : ((n : Int) < (n : Int)) = False := by simp
      go_wp2_with (with_reducible refine halt_store 34 rfl ?_)
      refine Halted.go ?_
      refine store_whole rfl 34 _ _ rfl w.heap.size #[.int .i64 0, .int .i64 0, .int .u32 0, .int .i64 0, .int .i64 0] rfl rfl HA.out.2 rfl (by kernel_rfl) (by simp [Value.oneCell']) ?_
      intro wz hwz hsz
      have HZ := Lib.hid (And.intro hwz (Below.trans HA.out.1 (hsz.below (Nat.le_refl _))))
      clear hwz hsz
      go_wp2_with fail
      refine ret_cell2 rfl rfl rfl HZ.out.1 Try.underlying34 rfl (by kernel_rfl) ?_
      have hget : getI l id = none := by
        unfold getI
        rw [List.find?_eq_none]
        intro x hx
        obtain ⟨j, hj, rfl⟩ := List.mem_iff_getElem.1 hx
        have := HE.out j (by rw [HL.out]; exact hj)
        simpa [List.getD_eq_getElem?_getD, List.getElem?_eq_getElem hj] using this
      have hri := HR.out.1
      rw [hget] at hri
      cases is with
      | true => rw [if_pos rfl] at hri; cases hri
      | false => rw [HR.out.2 rfl]; exact ⟨rfl, HZ.out.2⟩
set_option maxRecDepth 100000 in
theorem len_any {w : World} {h : Nat} {D : HD} (H : HopsAt w h D) : ∃ N : Nat, Calls Try.prog 21 #[.pointer (some ⟨h, 0, none⟩)] w fun e w' => e = .returned (.int .i64 N) ∧ w' = w := by
  obtain ⟨⟨bm, clk, es, b, h1, h2, h3, h4⟩, hw⟩ := H
  refine ⟨es.length, ?_⟩
  have hl3 := fun ty => MR.run_len IN h2 Try.underlying76 ty
  have c0 : w.cell? ⟨h, 0, none⟩ = some (.map (some bm)) := cell_of h1 rfl
  clear h1 h2 h3 h4 hw
  generalize es.length = N at *
  go_enter Try.func21, Try.ntmps21
  go_wp2_with fail
  go_ret
  exact ⟨rfl, rfl⟩
set_option maxRecDepth 100000 in
set_option maxHeartbeats 1000000 in
theorem hnew_bad {w : World} {oa : Option Addr} {n c : Nat} {l : List If} (h : IfsW w oa n c l) (hg : goodB l = false) : Calls Try.prog 11 #[.slice oa n c] w fun e w' => e = .returned (.tuple #[.pointer none, .int .i64 160]) ∧ Below w.heap.size w w' := by
  have HK := Lib.hid (hcheck_any h false hg)
  clear h hg
  go_enter Try.func11, Try.ntmps11
  go_wp2_with fail
  refine (HK.out).mono ?_
  rintro e W ⟨rfl, hb⟩
  have HB := Lib.hid hb
  clear hb
  rw [cond_false]
  go_wp2_with fail
  go_ret2
  exact ⟨rfl, HB.out⟩
set_option maxRecDepth 100000 in
set_option maxHeartbeats 1000000 in
/-- the reference's Same of lists that are the same -/
theorem rsameI {w : World} {oa ob : Option Addr} {n ca cb : Nat} {l : List If} (h1 : RIf.Sl w oa n ca l) (h2 : RIf.Sl w ob n cb l) : Calls Try.prog 18 #[.slice oa n ca, .slice ob n cb] w fun e w' => e = .returned (.bool true) ∧ Below w.heap.size w w' := by
  have hmax := h1.max
  have F := Lib.hid (And.intro h1 h2)
  clear h1 h2
  go_enter Try.func18, Try.ntmps18
  go_wp2_with fail
  go_loopw [5] (fun iv wr => ∃ i : Nat, i ≤ n ∧ iv = .int .i64 i ∧ Below w.heap.size w wr) (fun iv _ => n - (intOf iv).toNat)
  case atStart => exact ⟨0, Nat.zero_le _, rfl, Below.refl _ _⟩
  case round =>
    obtain ⟨i, hi, rfl, hb⟩ := hrel
    obtain ⟨w2, rfl⟩ : ∃ w2 : World, w2 = wr := ⟨_, rfl⟩
    by_cases hlt : i < n
    · have hil : ((i : Int) < (n : Int)) = True := by simp; omega
      have hi0 : ((0 : Int) ≤ (i : Int)) = True := by simp
      have hw3 := wrapS hlt hmax
      obtain ⟨b0, o0, rfl, hbb, hat⟩ := (F.out.1.keep hb).at hlt
      obtain ⟨b1, o1, rfl, hbb1, hat1⟩ := (F.out.2.keep hb).at hlt
      generalize l.getD i default = x at *
      have c0 := hat 0 (by decide)
      have c1 := hat 1 (by decide)
      have c2 := hat 2 (by decide)
      have c3 := hat 3 (by decide)
      have c4 := hat 4 (by decide)
      have d0 := hat1 0 (by decide)
      have d1 := hat1 1 (by decide)
      have d2 := hat1 2 (by decide)
      have d3 := hat1 3 (by decide)
      have d4 := hat1 4 (by decide)
      simp only [RIf, Nat.add_zero, List.getElem?_cons_zero, List.getElem?_cons_succ] at c0 c1 c2 c3 c4 d0 d1 d2 d3 d4
      have HB := Lib.hid hb.drew
      clear hb hat hat1 hbb hbb1
      go_wp2_with fail
      refine wp_region_quiet_tail (fun w' => w' = w2.drew) 8 (by kernel_rfl) (by kernel_rfl) rfl ?_
      simp only [List.take_succ_cons, List.take_zero, List.drop_succ_cons, List.drop_zero]
      iterate 8 ((with_reducible refine wpQuiet_step (fun K hK => ?_)); go_simp; first | ((with_reducible refine hK _ ?_); clear hK K) | (apply Exists.intro; (with_reducible refine ⟨fun w' hw' => ?_, hK _ ?_⟩); (subst hw'; first | (go_simp; first | exact rfl | exact ⟨rfl, rfl⟩) | exact rfl | exact ⟨rfl, rfl⟩); clear hK K))
      refine wpQuiet_nil ?_
      rintro _ rfl
      go_wp2_with fail
      exact ⟨⟨i + 1, hlt, by first | rw [hw3] | rw [Int.natCast_succ], HB.out⟩, by first | (rw [hw3]; exact mSucc hlt) | (rw [← Int.natCast_succ]; exact mSucc hlt)⟩
    · obtain rfl : n = i := by omega
      have hil : ((n : Int) < (n : Int)) = False := by simp
      have HB := Lib.hid hb
      clear hb
      go_wp2_with fail
      go_ret
      exact ⟨rfl, HB.out⟩
end Go.Proofs.Ytlkbaplfffbmkaa
