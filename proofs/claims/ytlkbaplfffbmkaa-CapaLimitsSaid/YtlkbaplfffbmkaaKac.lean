/- Interfaces; the reference's Check. -/
import Derived.Test.YtlkbaplfffbmkaaKab
import Derived.Test.YtlkbaplfffbmkaaKaa
import Derived.Maps.RangeRun
import Derived.Maps.Keyed
import Derived.Maps.Own
import Derived.DeepKeys4
namespace Go.Proofs.Ytlkbaplfffbmkaa
open Go.RowKit

structure If where
  id : Int
  r : Int
  ad : Nat
  ln : Int
  cp : Int
deriving Inhabited
def If.v (x : If) : Value := .agg #[.int .i64 x.id, .int .i64 x.r, .int .u32 x.ad, .int .i64 x.ln, .int .i64 x.cp]
def RIf : Rep If := ⟨34, 5, by decide, fun x => [.int .i64 x.id, .int .i64 x.r, .int .u32 (x.ad : Int), .int .i64 x.ln, .int .i64 x.cp], fun _ => rfl, fun _ => rfl⟩
def okI (x : If) : Bool := decide (0 ≤ x.id) && decide (x.id ≤ 4294967295) && decide (0 ≤ x.r) && decide (x.r ≤ 15) && okP x.ad x.ln && decide (0 ≤ x.cp) && decide (x.cp ≤ 9007199254740991)
/-- interfaces that may be -/
structure Good (l : List If) : Prop where
  ok : ∀ x ∈ l, okI x = true
  ids : ∀ k i, k < i → i < l.length → (l.getD k default).id ≠ (l.getD i default).id
  nets : ∀ k i, k < i → i < l.length → (l.getD k default).r = (l.getD i default).r → (l.getD k default).ad = (l.getD i default).ad → (l.getD k default).ln = (l.getD i default).ln → False
  len : l.length ≤ 256
/-- true is told only where p holds -/
def Tells (e : Ending) (p : Prop) : Prop := ∃ b : Bool, e = .returned (.bool b) ∧ (b = true → p)
theorem Tells.no {p : Prop} : Tells (.returned (.bool false)) p := ⟨false, rfl, fun h => by cases h⟩
theorem Tells.yes {p : Prop} (h : p) : Tells (.returned (.bool true)) p := ⟨true, rfl, fun _ => h⟩
/-- interfaces in a slice -/
structure Ifs (w : World) (oa : Option Addr) (n c : Nat) (l : List If) : Prop where
  sl : RIf.Sl w oa n c l
  ad : ∀ x ∈ l, x.ad < 4294967296
theorem Ifs.keep {w w' : World} {oa : Option Addr} {n c : Nat} {l : List If} (h : Ifs w oa n c l) (hb : Below w.heap.size w w') : Ifs w' oa n c l := ⟨h.sl.keep hb, h.ad⟩
def IfS (b : Nat) (x : If) (w : World) : Prop := w.heap[b]? = some (.cells #[.int .i64 x.id, .int .i64 x.r, .int .u32 (x.ad : Int), .int .i64 x.ln, .int .i64 x.cp] 34)
theorem IfS.cells {b : Nat} {x : If} {w : World} (h : IfS b x w) : w.cell? ⟨b, 0, none⟩ = some (.int .i64 x.id) ∧ w.cell? ⟨b, 1, none⟩ = some (.int .i64 x.r) ∧ w.cell? ⟨b, 2, none⟩ = some (.int .u32 (x.ad : Int)) ∧ w.cell? ⟨b, 3, none⟩ = some (.int .i64 x.ln) ∧ w.cell? ⟨b, 4, none⟩ = some (.int .i64 x.cp) := ⟨cell_of h rfl, cell_of h rfl, cell_of h rfl, cell_of h rfl, cell_of h rfl⟩
theorem IfS.on {b : Nat} {x : If} {w w' : World} (h : IfS b x w) (hb : Below w.heap.size w w') : IfS b x w' := (hb.block _ (lt_of_blk h)).trans h
theorem bcall {B : Nat} {w w2 w3 : World} (h : Below B w w2) (hB : B ≤ w.heap.size) (h3 : Below w2.heap.size w2 w3) : Below B w w3 := h.trans (h3.mono (Nat.le_trans hB h.size))
theorem wrapS {i n : Nat} (h : i < n) (hn : n ≤ maxLen) : wrap64 ((i : Int) + 1) = ((i + 1 : Nat) : Int) := by unfold maxLen at hn; unfold wrap64; omega
theorem mSucc {i n : Nat} (h : i < n) : n - (intOf (.int .i64 ((i + 1 : Nat) : Int))).toNat < n - (intOf (.int .i64 (i : Int))).toNat := by show n - ((i + 1 : Nat) : Int).toNat < n - (i : Int).toNat; omega
theorem okI_iff {x : If} : okI x = true ↔ 0 ≤ x.id ∧ x.id ≤ 4294967295 ∧ 0 ≤ x.r ∧ x.r ≤ 15 ∧ okP x.ad x.ln = true ∧ 0 ≤ x.cp ∧ x.cp ≤ 9007199254740991 := by simp [okI, and_assoc]
/-- so many of them are good -/
structure GoodTo (l : List If) (i : Nat) : Prop where
  ok : ∀ j, j < i → okI (l.getD j default) = true
  ids : ∀ k j, k < j → j < i → (l.getD k default).id ≠ (l.getD j default).id
  nets : ∀ k j, k < j → j < i → (l.getD k default).r = (l.getD j default).r → (l.getD k default).ad = (l.getD j default).ad → (l.getD k default).ln = (l.getD j default).ln → False
theorem GoodTo.good {l : List If} (h : GoodTo l l.length) (hl : l.length ≤ 256) : Good l :=
  ⟨fun x hx => by
    obtain ⟨j, hj, rfl⟩ := List.mem_iff_getElem.1 hx
    have := h.ok j hj
    rw [List.getD_eq_getElem?_getD, List.getElem?_eq_getElem hj] at this
    exact this, h.ids, h.nets, hl⟩
set_option maxRecDepth 100000 in
set_option maxHeartbeats 2000000 in
theorem rchk_any {w : World} {oa : Option Addr} {n c : Nat} {l : List If} (h : Ifs w oa n c l) : Calls Try.prog 12 #[.slice oa n c] w fun e w' => Tells e (Good l) ∧ Below w.heap.size w w' := by
  have HL := Lib.hid h.sl.len
  have F := Lib.hid h
  have hmax := h.sl.max
  clear h
  go_enter Try.func12, Try.ntmps12
  go_wp2_with fail
  go_loopw [3] (fun iv wr => ∃ i : Nat, i ≤ n ∧ iv = .int .i64 i ∧ GoodTo l i ∧ Below w.heap.size w wr) (fun iv _ => n - (intOf iv).toNat)
  case atStart => exact ⟨0, Nat.zero_le _, rfl, ⟨fun j hj => by omega, fun k j _ hj => by omega, fun k j _ hj => by omega⟩, Below.refl _ _⟩
  case round =>
    obtain ⟨i, hi, rfl, hg, hb⟩ := hrel
    obtain ⟨w2, rfl⟩ : ∃ w2 : World, w2 = wr := ⟨_, rfl⟩
    have HG := Lib.hid hg
    clear hg
    by_cases hlt : i < n
    · have hil : ((i : Int) < (n : Int)) = True := by simp; omega
      have hlen : l.length = n := HL.out.symm
      obtain ⟨b0, o0, rfl, hbb, hat⟩ := (F.out.keep hb).sl.at hlt
      have c0 := hat 0 (by decide)
      have c1 := hat 1 (by decide)
      have c2 := hat 2 (by decide)
      have c3 := hat 3 (by decide)
      have c4 := hat 4 (by decide)
      simp only [RIf, Nat.add_zero, List.getElem?_cons_zero, List.getElem?_cons_succ] at c0 c1 c2 c3 c4
      have hadx : (l.getD i default).ad < 4294967296 := F.out.ad _ (getD_mem (by omega))
      obtain ⟨x, hx⟩ : ∃ x, l.getD i default = x := ⟨_, rfl⟩
      rw [hx] at c0 c1 c2 c3 c4 hadx
      have HX := Lib.hid hx
      have hal := (Below.refl w2.heap.size w2).alloc (Nat.le_refl _) (.cells #[.int .i64 x.id, .int .i64 x.r, .int .u32 (x.ad : Int), .int .i64 x.ln, .int .i64 x.cp] 34)
      have hxs : IfS w2.heap.size x (w2.alloc (.cells #[.int .i64 x.id, .int .i64 x.r, .int .u32 (x.ad : Int), .int .i64 x.ln, .int .i64 x.cp] 34)) := hnew _ _
      have F1 := Lib.hid (And.intro (bcall hb (Nat.le_refl _) hal) (And.intro hxs hadx))
      obtain ⟨z0, z1, z2, z3, z4⟩ := hxs.cells
      clear hal hxs hat hx hadx hb hlen
      have hw3 := wrapS hlt hmax
      by_cases h1 : x.id < 0
      · have h1t : (x.id < 0) = True := by simp; omega
        go_wp2_with fail
        go_ret
        exact ⟨Tells.no, F1.out.1⟩
      have h1f : (x.id < 0) = False := by simp; omega
      by_cases h2 : 4294967295 < x.id
      · have h2t : (4294967295 < x.id) = True := by simp; omega
        go_wp2_with fail
        go_ret
        exact ⟨Tells.no, F1.out.1⟩
      have h2f : (4294967295 < x.id) = False := by simp; omega
      by_cases h3 : x.r < 0
      · have h3t : (x.r < 0) = True := by simp; omega
        go_wp2_with fail
        go_ret
        exact ⟨Tells.no, F1.out.1⟩
      have h3f : (x.r < 0) = False := by simp; omega
      by_cases h4 : 15 < x.r
      · have h4t : (15 < x.r) = True := by simp; omega
        go_wp2_with fail
        go_ret
        exact ⟨Tells.no, F1.out.1⟩
      have h4f : (15 < x.r) = False := by simp; omega
      go_wp2_with fail
      generalize w2.alloc (.cells #[.int .i64 x.id, .int .i64 x.r, .int .u32 (x.ad : Int), .int .i64 x.ln, .int .i64 x.cp] 34) = W1 at *
      generalize w2.heap.size = q1 at *
      refine (rcheck_any x.ad x.ln F1.out.2.2 W1).mono ?_
      rintro e W2 ⟨rfl, hb2⟩
      have F2 := Lib.hid (And.intro (bcall F1.out.1 (Nat.le_refl _) hb2) (F1.out.2.1.on hb2))
      clear F1 hb2 z0 z1 z2 z3 z4
      obtain ⟨z0, z1, z2, z3, z4⟩ := F2.out.2.cells
      cases hok : okP x.ad x.ln with
      | false =>
        go_wp2_with fail
        go_ret
        exact ⟨Tells.no, F2.out.1⟩
      | true =>
        by_cases h5 : x.cp < 0
        · have h5t : (x.cp < 0) = True := by simp; omega
          go_wp2_with fail
          go_ret
          exact ⟨Tells.no, F2.out.1⟩
        have h5f : (x.cp < 0) = False := by simp; omega
        by_cases h6 : 9007199254740991 < x.cp
        · have h6t : (9007199254740991 < x.cp) = True := by simp; omega
          go_wp2_with fail
          go_ret
          exact ⟨Tells.no, F2.out.1⟩
        have h6f : (9007199254740991 < x.cp) = False := by simp; omega
        go_wp2_with fail
        have hokx : okI x = true := okI_iff.2 ⟨by omega, by omega, by omega, by omega, hok, by omega, by omega⟩
        have HO := Lib.hid hokx
        clear hokx z0 z1 z2 z3 z4 h1 h2 h3 h4 h5 h6 h1f h2f h3f h4f h5f h6f hok c0 c1 c2 c3 c4
        go_loopw [5] (fun kv wr => ∃ k : Nat, k ≤ i ∧ kv = .int .i64 k ∧ (∀ j, j < k → (l.getD j default).id ≠ x.id ∧ ((l.getD j default).r = x.r → (l.getD j default).ad = x.ad → (l.getD j default).ln = x.ln → False)) ∧ Below w.heap.size w wr ∧ IfS q1 x wr) (fun kv _ => i - (intOf kv).toNat)
        case atStart => exact ⟨0, Nat.zero_le _, rfl, fun j hj => by omega, F2.out⟩
        case round =>
          obtain ⟨k, hk, rfl, hne, hb, hxs⟩ := hrel
          obtain ⟨w3, rfl⟩ : ∃ w3 : World, w3 = wr := ⟨_, rfl⟩
          have HN := Lib.hid hne
          clear hne
          by_cases hkt : k < i
          · have hki : ((k : Int) < (i : Int)) = True := by simp; omega
            have hd := (Below.refl w3.heap.size w3).drew
            have hwk := wrapS hkt (by omega)
            have hkn : k < n := by omega
            have hlenl : l.length = n := HL.out.symm
            obtain ⟨b1, o1, e1, hbb1, hat⟩ := (F.out.keep (bcall hb (Nat.le_refl _) hd)).sl.at hkn
            obtain ⟨rfl, rfl⟩ : b0 = b1 ∧ o0 = o1 := by simp only [Option.some.injEq, Addr.mk.injEq] at e1; exact ⟨e1.1, e1.2.1⟩
            have c0 := hat 0 (by decide)
            have c1 := hat 1 (by decide)
            have c2 := hat 2 (by decide)
            have c3 := hat 3 (by decide)
            simp only [RIf, Nat.add_zero, List.getElem?_cons_zero, List.getElem?_cons_succ] at c0 c1 c2 c3
            obtain ⟨y, hy⟩ : ∃ y, l.getD k default = y := ⟨_, rfl⟩
            rw [hy] at c0 c1 c2 c3
            have F3 := Lib.hid (And.intro (bcall hb (Nat.le_refl _) hd) (And.intro (hxs.on hd) hy))
            clear hd hb hxs hat hbb1 hy hlenl
            go_wp2_with fail
            refine wp_region_heldP (fun w' => w' = w3.drew) (by kernel_rfl) ?_
            obtain ⟨z0, z1, z2, z3, z4⟩ := F3.out.2.1.cells
            generalize w3.drew = Wd at *
            have hcase : ((y.id = x.id) = True ∧ True) ∨ ((y.id = x.id) = False ∧ (y.r = x.r) = False ∧ (y.id ≠ x.id ∧ (y.r = x.r → y.ad = x.ad → y.ln = x.ln → False))) ∨ ((y.id = x.id) = False ∧ (y.r = x.r) = True ∧ ((y.ad : Int) = (x.ad : Int)) = True ∧ (y.ln = x.ln) = True) ∨ ((y.id = x.id) = False ∧ (y.r = x.r) = True ∧ ((y.ad : Int) = (x.ad : Int)) = False ∧ (y.id ≠ x.id ∧ (y.r = x.r → y.ad = x.ad → y.ln = x.ln → False))) ∨ ((y.id = x.id) = False ∧ (y.r = x.r) = True ∧ ((y.ad : Int) = (x.ad : Int)) = True ∧ (y.ln = x.ln) = False ∧ (y.id ≠ x.id ∧ (y.r = x.r → y.ad = x.ad → y.ln = x.ln → False))) := by
              by_cases g1 : y.id = x.id
              · exact .inl ⟨by simp [g1], trivial⟩
              · by_cases g2 : y.r = x.r
                · by_cases g3 : y.ad = x.ad
                  · by_cases g4 : y.ln = x.ln
                    · exact .inr (.inr (.inl ⟨by simp [g1], by simp [g2], by simp [g3], by simp [g4]⟩))
                    · exact .inr (.inr (.inr (.inr ⟨by simp [g1], by simp [g2], by simp [g3], by simp [g4], g1, fun _ _ h => g4 h⟩)))
                  · exact .inr (.inr (.inr (.inl ⟨by simp [g1], by simp [g2], by simp; omega, g1, fun _ h _ => g3 h⟩)))
                · exact .inr (.inl ⟨by simp [g1], by simp [g2], g1, fun h => absurd h g2⟩)
            rcases hcase with ⟨g1, -⟩ | ⟨g1, g2, hnn⟩ | ⟨g1, g2, g3, g4⟩ | ⟨g1, g2, g3, hnn⟩ | ⟨g1, g2, g3, g4, hnn⟩
            · refine held_reads [0, 1, 2, 3, 4, 5, 6, 7, 8, 9, 10, 11, 12, 13, 14, 15, 16, 17, 18, 19, 20, 21, 22, 23, 24, 25, 26, 27] (g := 0) rfl (by kernel_rfl) rfl (fun _ _ d _ _ h => by cases d <;> exact h) ?_
              simp only [pick, List.getD_cons_zero, List.getD_cons_succ]
              iterate 28 ((with_reducible refine wpRead_step (fun K hK => ?_)); go_simp; first | (rw [if_neg (by decide)]; (with_reducible refine hK _ ?_); clear hK K) | ((with_reducible refine hK _ ?_); clear hK K) | (apply Exists.intro; (with_reducible refine ⟨fun w' hw' => ?_, hK _ ?_⟩); (subst hw'; go_simp; first | exact rfl | exact ⟨rfl, rfl⟩); clear hK K))
              with_reducible refine wpRead_nil ?_
              refine wpAnyH_done (by kernel_rfl) ?_ _
              have g1b : (y.id == x.id) = true := by simpa using g1
              simp only [g1b]
              go_wp2_with fail
              go_ret
              exact ⟨Tells.no, F3.out.1⟩
            · have HNN := Lib.hid hnn
              clear hnn
              refine held_reads [0, 1, 2, 3, 4, 5, 6, 7, 8, 9, 10, 11, 12, 13, 14, 15, 16, 17, 18, 19, 20, 21, 22, 23, 24, 25, 26, 27] (g := 0) rfl (by kernel_rfl) rfl (fun _ _ d _ _ h => by cases d <;> exact h) ?_
              simp only [pick, List.getD_cons_zero, List.getD_cons_succ]
              iterate 28 ((with_reducible refine wpRead_step (fun K hK => ?_)); go_simp; first | (rw [if_neg (by decide)]; (with_reducible refine hK _ ?_); clear hK K) | ((with_reducible refine hK _ ?_); clear hK K) | (apply Exists.intro; (with_reducible refine ⟨fun w' hw' => ?_, hK _ ?_⟩); (subst hw'; go_simp; first | exact rfl | exact ⟨rfl, rfl⟩); clear hK K))
              with_reducible refine wpRead_nil ?_
              refine wpAnyH_done (by kernel_rfl) ?_ _
              have g1b : (y.id == x.id) = false := by simpa using g1
              have g2b : (y.r == x.r) = false := by simpa using g2
              simp only [g1b, g2b]
              go_wp2_with fail
              exact ⟨⟨k + 1, hkt, by first | rw [hwk] | rw [Int.natCast_succ], fun j hj => by
                rcases Nat.lt_succ_iff_lt_or_eq.1 hj with h | rfl
                · exact HN.out j h
                · rw [F3.out.2.2]; exact HNN.out, F3.out.1, F3.out.2.1⟩, by first | (rw [hwk]; exact mSucc hkt) | (rw [← Int.natCast_succ]; exact mSucc hkt)⟩
            · refine held_reads [0, 1, 2, 3, 4, 5, 6, 7, 8, 9, 10, 11, 12, 13, 14, 15, 16, 17, 18, 19, 20, 21, 22, 23, 24, 25, 26, 27] (g := 0) rfl (by kernel_rfl) rfl (fun _ _ d _ _ h => by cases d <;> exact h) ?_
              simp only [pick, List.getD_cons_zero, List.getD_cons_succ]
              iterate 28 ((with_reducible refine wpRead_step (fun K hK => ?_)); go_simp; first | (rw [if_neg (by decide)]; (with_reducible refine hK _ ?_); clear hK K) | ((with_reducible refine hK _ ?_); clear hK K) | (apply Exists.intro; (with_reducible refine ⟨fun w' hw' => ?_, hK _ ?_⟩); (subst hw'; go_simp; first | exact rfl | exact ⟨rfl, rfl⟩); clear hK K))
              with_reducible refine wpRead_nil ?_
              refine wpAnyH_done (by kernel_rfl) ?_ _
              have g1b : (y.id == x.id) = false := by simpa using g1
              have g2b : (y.r == x.r) = true := by simpa using g2
              simp only [g1b, g2b, Bool.false_or]
              go_wp2_with fail
              go_ret
              exact ⟨Tells.no, F3.out.1⟩
            · have HNN := Lib.hid hnn
              clear hnn
              refine held_reads [0, 1, 2, 3, 4, 5, 6, 7, 8, 9, 10, 11, 12, 13, 14, 15, 16, 17, 18, 19, 20, 21, 22, 23, 24, 25, 26, 27] (g := 0) rfl (by kernel_rfl) rfl (fun _ _ d _ _ h => by cases d <;> exact h) ?_
              simp only [pick, List.getD_cons_zero, List.getD_cons_succ]
              iterate 28 ((with_reducible refine wpRead_step (fun K hK => ?_)); go_simp; first | (rw [if_neg (by decide)]; (with_reducible refine hK _ ?_); clear hK K) | ((with_reducible refine hK _ ?_); clear hK K) | (apply Exists.intro; (with_reducible refine ⟨fun w' hw' => ?_, hK _ ?_⟩); (subst hw'; go_simp; first | exact rfl | exact ⟨rfl, rfl⟩); clear hK K))
              with_reducible refine wpRead_nil ?_
              refine wpAnyH_done (by kernel_rfl) ?_ _
              have g1b : (y.id == x.id) = false := by simpa using g1
              have g2b : (y.r == x.r) = true := by simpa using g2
              simp only [g1b, g2b]
              go_wp2_with fail
              exact ⟨⟨k + 1, hkt, by first | rw [hwk] | rw [Int.natCast_succ], fun j hj => by
                rcases Nat.lt_succ_iff_lt_or_eq.1 hj with h | rfl
                · exact HN.out j h
                · rw [F3.out.2.2]; exact HNN.out, F3.out.1, F3.out.2.1⟩, by first | (rw [hwk]; exact mSucc hkt) | (rw [← Int.natCast_succ]; exact mSucc hkt)⟩
            · have HNN := Lib.hid hnn
              clear hnn
              refine held_reads [0, 1, 2, 3, 4, 5, 6, 7, 8, 9, 10, 11, 12, 13, 14, 15, 16, 17, 18, 19, 20, 21, 22, 23, 24, 25, 26, 27] (g := 0) rfl (by kernel_rfl) rfl (fun _ _ d _ _ h => by cases d <;> exact h) ?_
              simp only [pick, List.getD_cons_zero, List.getD_cons_succ]
              iterate 28 ((with_reducible refine wpRead_step (fun K hK => ?_)); go_simp; first | (rw [if_neg (by decide)]; (with_reducible refine hK _ ?_); clear hK K) | ((with_reducible refine hK _ ?_); clear hK K) | (apply Exists.intro; (with_reducible refine ⟨fun w' hw' => ?_, hK _ ?_⟩); (subst hw'; go_simp; first | exact rfl | exact ⟨rfl, rfl⟩); clear hK K))
              with_reducible refine wpRead_nil ?_
              refine wpAnyH_done (by kernel_rfl) ?_ _
              have g1b : (y.id == x.id) = false := by simpa using g1
              have g2b : (y.r == x.r) = true := by simpa using g2
              simp only [g1b, g2b]
              go_wp2_with fail
              exact ⟨⟨k + 1, hkt, by first | rw [hwk] | rw [Int.natCast_succ], fun j hj => by
                rcases Nat.lt_succ_iff_lt_or_eq.1 hj with h | rfl
                · exact HN.out j h
                · rw [F3.out.2.2]; exact HNN.out, F3.out.1, F3.out.2.1⟩, by first | (rw [hwk]; exact mSucc hkt) | (rw [← Int.natCast_succ]; exact mSucc hkt)⟩
          · obtain rfl : i = k := by omega
            have hki : ((i : Int) < (i : Int)) = False := by simp
            have F3 := Lib.hid hb
            have hgs : GoodTo l (i + 1) := by
              refine ⟨fun j hj => ?_, fun k j hkj hj => ?_, fun k j hkj hj => ?_⟩
              · rcases Nat.lt_succ_iff_lt_or_eq.1 hj with h | rfl
                · exact HG.out.ok j h
                · rw [HX.out]; exact HO.out
              · rcases Nat.lt_succ_iff_lt_or_eq.1 hj with h | rfl
                · exact HG.out.ids k j hkj h
                · rw [HX.out]; exact (HN.out k hkj).1
              · rcases Nat.lt_succ_iff_lt_or_eq.1 hj with h | rfl
                · exact HG.out.nets k j hkj h
                · rw [HX.out]; exact (HN.out k hkj).2
            have HGS := Lib.hid hgs
            clear hb hxs hgs
            go_wp2_with fail
            exact ⟨⟨i + 1, hlt, by first | rw [hw3] | rw [Int.natCast_succ], HGS.out, F3.out⟩, by first | (rw [hw3]; exact mSucc hlt) | (rw [← Int.natCast_succ]; exact mSucc hlt)⟩
    · obtain rfl : n = i := by omega
      have hil : ((n : Int) < (n : Int)) = False := by simp
      have F1 := Lib.hid hb
      clear hb
      have hgd : n ≤ 256 → Good l := fun h => by have := HG.out; rw [HL.out] at this; exact this.good (by rw [← HL.out]; exact h)
      have HGD := Lib.hid hgd
      clear hgd
      by_cases h256 : n ≤ 256
      · have h2 : ((n : Int) ≤ 256) = True := by simp; omega
        go_wp2_with fail
        go_ret
        exact ⟨Tells.yes (HGD.out h256), F1.out⟩
      · have h2 : ((n : Int) ≤ 256) = False := by simp; omega
        go_wp2_with fail
        go_ret
        exact ⟨Tells.no, F1.out⟩
end Go.Proofs.Ytlkbaplfffbmkaa
/- within, odd; none of the good ones is odd. -/
namespace Go.Proofs.Ytlkbaplfffbmkaa
open Go.RowKit

theorem hwithin_any (n a b : Int) (w : World) : Calls Try.prog 42 #[.int .i64 n, .int .i64 a, .int .i64 b] w fun e w' => e = .returned (.bool (decide (a ≤ n) && decide (n ≤ b))) ∧ w' = w := by
  by_cases h1 : a ≤ n
  · by_cases h2 : n ≤ b
    · go_enter Try.func42, Try.ntmps42
      go_wp2_with fail
      go_ret
      exact ⟨by simp [h1, h2], rfl⟩
    · go_enter Try.func42, Try.ntmps42
      go_wp2_with fail
      go_ret
      exact ⟨by simp [h2], rfl⟩
  · go_enter Try.func42, Try.ntmps42
    go_wp2_with fail
    go_ret
    exact ⟨by rw [decide_eq_false (Int.not_le.2 h1)]; rfl, rfl⟩
theorem hwithin_ok {n a b : Int} (h : a ≤ n ∧ n ≤ b) (w : World) : Calls Try.prog 42 #[.int .i64 n, .int .i64 a, .int .i64 b] w fun e w' => e = .returned (.bool true) ∧ w' = w :=
  (hwithin_any n a b w).mono fun e w' ⟨h1, h2⟩ => ⟨by rw [h1]; simp [h.1, h.2], h2⟩
set_option maxRecDepth 100000 in
set_option maxHeartbeats 1000000 in
theorem odd_ok {x : If} (hok : okI x = true) (had : x.ad < 4294967296) (w : World) : Calls Try.prog 41 #[x.v] w fun e w' => e = .returned (.bool false) ∧ Below w.heap.size w w' := by
  obtain ⟨h1, h2, h3, h4, h5, h6, h7⟩ := okI_iff.1 hok
  have hal := (Below.refl w.heap.size w).alloc (Nat.le_refl _) (.cells #[.int .i64 x.id, .int .i64 x.r, .int .u32 (x.ad : Int), .int .i64 x.ln, .int .i64 x.cp] 34)
  have hxs : IfS w.heap.size x (w.alloc (.cells #[.int .i64 x.id, .int .i64 x.r, .int .u32 (x.ad : Int), .int .i64 x.ln, .int .i64 x.cp] 34)) := hnew _ _
  have H1 := Lib.hid (fun W => hwithin_ok (n := x.id) (a := 0) (b := 4294967295) ⟨h1, h2⟩ W)
  have H2 := Lib.hid (fun W => hwithin_ok (n := x.r) (a := 0) (b := 15) ⟨h3, h4⟩ W)
  have H4 := Lib.hid (fun W => hwithin_ok (n := x.cp) (a := 0) (b := 9007199254740991) ⟨h6, h7⟩ W)
  have H3 := Lib.hid (fun W => by have := check_any x.ad x.ln had W; rw [h5, if_pos rfl] at this; exact this)
  have F := Lib.hid (And.intro hal hxs)
  obtain ⟨z0, z1, z2, z3, z4⟩ := hxs.cells
  unfold If.v
  clear h1 h2 h3 h4 h5 h6 h7 hal hxs hok had
  go_enter Try.func41, Try.ntmps41
  go_wp2_with fail
  refine (H1.out _).mono ?_
  rintro e W1 ⟨rfl, hw1⟩
  generalize w.alloc (.cells #[.int .i64 x.id, .int .i64 x.r, .int .u32 (x.ad : Int), .int .i64 x.ln, .int .i64 x.cp] 34) = W at *
  subst W1
  go_wp2_with fail
  refine (H2.out _).mono ?_
  rintro e W1 ⟨rfl, hw1⟩
  subst W1
  go_wp2_with fail
  refine (H3.out _).mono ?_
  rintro e W1 ⟨rfl, hb1⟩
  have F1 := Lib.hid (And.intro (bcall F.out.1 (Nat.le_refl _) hb1) (F.out.2.on hb1))
  clear z0 z1 z2 z3 z4 hb1 F
  obtain ⟨z0, z1, z2, z3, z4⟩ := F1.out.2.cells
  go_wp2_with fail
  refine (H4.out _).mono ?_
  rintro e W2 ⟨rfl, hw1⟩
  subst W2
  go_wp2_with fail
  go_ret
  exact ⟨rfl, F1.out.1⟩
def CalleeF (f : Nat) : Value := .func (.func f) #[] #[]
set_option maxRecDepth 100000 in
set_option maxHeartbeats 1000000 in
theorem index_ok {w : World} {oa : Option Addr} {n c : Nat} {l : List If} (h : Ifs w oa n c l) (hok : ∀ x ∈ l, okI x = true) : Calls Try.prog 59 #[.slice oa n c, CalleeF 41] w fun e w' => e = .returned (.int .i64 (-1)) ∧ Below w.heap.size w w' := by
  have HL := Lib.hid h.sl.len
  have F := Lib.hid h
  have HO := Lib.hid hok
  have hmax := h.sl.max
  clear h hok
  unfold CalleeF
  go_enter Try.func59, Try.ntmps59
  go_wp2_with fail
  go_loopw [8] (fun iv wr => ∃ i : Nat, i ≤ n ∧ iv = .int .i64 i ∧ Below w.heap.size w wr) (fun iv _ => n - (intOf iv).toNat)
  case atStart => exact ⟨0, Nat.zero_le _, rfl, Below.refl _ _⟩
  case round =>
    obtain ⟨i, hi, rfl, hb⟩ := hrel
    obtain ⟨w2, rfl⟩ : ∃ w2 : World, w2 = wr := ⟨_, rfl⟩
    by_cases hlt : i < n
    · have hil : ((i : Int) < (n : Int)) = True := by simp; omega
      have hw3 := wrapS hlt hmax
      have hlen : l.length = n := HL.out.symm
      obtain ⟨b0, o0, rfl, hbb, hat⟩ := (F.out.keep hb).sl.at hlt
      have c0 := hat 0 (by decide)
      have c1 := hat 1 (by decide)
      have c2 := hat 2 (by decide)
      have c3 := hat 3 (by decide)
      have c4 := hat 4 (by decide)
      simp only [RIf, Nat.add_zero, List.getElem?_cons_zero, List.getElem?_cons_succ] at c0 c1 c2 c3 c4
      have hox := odd_ok (HO.out _ (getD_mem (i := i) (by omega))) (F.out.ad _ (getD_mem (by omega))) w2
      generalize l.getD i default = x at *
      have HX := Lib.hid hox
      have HB := Lib.hid hb
      clear hox hb hat hlen
      go_wp2_with fail
      refine (HX.out).mono ?_
      rintro e W3 ⟨rfl, hb3⟩
      have HB3 := Lib.hid (bcall HB.out (Nat.le_refl _) hb3)
      clear hb3 HB c0 c1 c2 c3 c4
      go_wp2_with fail
      exact ⟨⟨i + 1, hlt, by first | rw [hw3] | rw [Int.natCast_succ], HB3.out⟩, by first | (rw [hw3]; exact mSucc hlt) | (rw [← Int.natCast_succ]; exact mSucc hlt)⟩
    · obtain rfl : n = i := by omega
      have hil : ((n : Int) < (n : Int)) = False := by simp
      have HB := Lib.hid hb
      clear hb
      go_wp2_with fail
      go_ret
      exact ⟨rfl, HB.out⟩
set_option maxRecDepth 100000 in
theorem contains_ok {w : World} {oa : Option Addr} {n c : Nat} {l : List If} (h : Ifs w oa n c l) (hok : ∀ x ∈ l, okI x = true) : Calls Try.prog 40 #[.slice oa n c, CalleeF 41] w fun e w' => e = .returned (.bool false) ∧ Below w.heap.size w w' := by
  have H := Lib.hid (index_ok h hok)
  clear h hok
  unfold CalleeF at *
  go_enter Try.func40, Try.ntmps40
  go_wp2_with fail
  refine (H.out).mono ?_
  rintro e W1 ⟨rfl, hb1⟩
  have HB := Lib.hid hb1
  clear hb1
  go_wp2_with fail
  go_ret
  exact ⟨rfl, HB.out⟩
end Go.Proofs.Ytlkbaplfffbmkaa
/- Maps, as lists of entries: look-up, store, delete, length, and the steps of a range. -/
namespace Go.Proofs.Ytlkbaplfffbmkaa.MR
open Go.Maps Go.MapKept
open Go.ChangeMaps (setBlock)

/-- how keys are written in memory -/
structure Enc (P : Program) (K : TypeId) (κ : Type) where
  enc : κ → Value
  ok : κ → Prop
  law : Keyed P K
  reads : ∀ k, ok k → ∃ l, keyOf P K (enc k) = some l
  inj : ∀ a b, enc a = enc b → a = b

abbrev Ent (κ : Type) := κ × Value × Nat
def ents {κ : Type} (enc : κ → Value) (l : List (Ent κ)) : List MapEntry := l.map fun e => ⟨enc e.1, e.2.1, e.2.2⟩

section
variable {P : Program} {K : TypeId} {κ : Type} (N : Enc P K κ)

structure MapAt (w : World) (b : Nat) (l : List (Ent κ)) (clock : Nat) : Prop where
  blk : w.heap[b]? = some (.map (ents N.enc l).toArray clock)
  ok : ∀ e ∈ l, N.ok e.1
  nodup : (l.map (·.1)).Nodup
  born : ∀ e ∈ l, e.2.2 < clock
  bnodup : (l.map (·.2.2)).Nodup

theorem ents_length (enc : κ → Value) (l : List (Ent κ)) : (ents enc l).length = l.length := by simp [ents]

theorem find_cases {w w' : World} {b clock : Nat} {l : List (Ent κ)} (h : MapAt N w b l clock) {x : κ} (hx : N.ok x) :
    ((Instr.findKey K (N.enc x) (ents N.enc l)).run P w' = .ok none w' ∧ x ∉ l.map (·.1)) ∨
    ∃ j v bn, (Instr.findKey K (N.enc x) (ents N.enc l)).run P w' = .ok (some (j, v)) w' ∧ l[j]? = some (x, v, bn) := by
  obtain ⟨lx, hlx⟩ := N.reads x hx
  have hr : ∀ e ∈ ents N.enc l, ∃ l', keyOf P K e.key = some l' := by
    intro e he
    obtain ⟨y, hy, rfl⟩ := List.mem_map.1 he
    exact N.reads _ (h.ok y hy)
  rcases N.law.find w' hlx (ents N.enc l) hr with ⟨h1, h2⟩ | ⟨j, e, h1, h2, h3⟩
  · left
    refine ⟨h1, fun hm => ?_⟩
    obtain ⟨y, hy, rfl⟩ := List.mem_map.1 hm
    exact h2 ⟨N.enc y.1, y.2.1, y.2.2⟩ (List.mem_map.2 ⟨y, hy, rfl⟩) rfl
  · right
    simp only [ents, List.getElem?_map, Option.map_eq_some_iff] at h2
    obtain ⟨⟨yk, yv, yb⟩, hy, rfl⟩ := h2
    obtain rfl : yk = x := N.inj _ _ h3
    exact ⟨j, yv, yb, h1, hy⟩

theorem run_len {w : World} {b clock : Nat} {l : List (Ent κ)} (h : MapAt N w b l clock) {T E : TypeId} (ht : P.underlying T = some (.map K E)) (ty : TypeId) :
    (Builtin.len_ #[T] ty #[.map (some b)]).run P w = .ok (.int .i64 l.length) w := by
  unfold Builtin.len_
  simp [run_underlying ht, Result.andThen, getObj, Sem.run, h.blk, goInt, ents]

theorem MapAt.blk_iff {w w' : World} {b clock : Nat} {l : List (Ent κ)} (h : MapAt N w b l clock) (e : w'.heap[b]? = w.heap[b]?) : MapAt N w' b l clock := ⟨e.trans h.blk, h.ok, h.nodup, h.born, h.bnodup⟩
theorem mapAt_made {w : World} {b : Nat} (h : w.heap[b]? = some (.map #[] 0)) : MapAt N w b [] 0 := ⟨h, by simp, by simp, by simp, by simp⟩
section
variable [DecidableEq κ]
def get? (l : List (Ent κ)) (x : κ) : Option Value := (l.find? (fun e => decide (e.1 = x))).map (·.2.1)
def put (l : List (Ent κ)) (x : κ) (v : Value) (clock : Nat) : List (Ent κ) :=
  if x ∈ l.map (·.1) then l.map (fun e => if e.1 = x then (x, v, e.2.2) else e) else l ++ [(x, v, clock)]
def clock' (l : List (Ent κ)) (x : κ) (clock : Nat) : Nat := if x ∈ l.map (·.1) then clock else clock + 1
def del (l : List (Ent κ)) (x : κ) : List (Ent κ) := l.filter (fun e => decide (e.1 ≠ x))

theorem get?_none {l : List (Ent κ)} {x : κ} (h : x ∉ l.map (·.1)) : get? l x = none := by
  unfold get?
  rw [List.find?_eq_none.2]
  · rfl
  · intro e he
    simp only [decide_eq_true_eq]
    rintro rfl
    exact h (List.mem_map.2 ⟨e, he, rfl⟩)
theorem get?_mem {l : List (Ent κ)} (hn : (l.map (·.1)).Nodup) {e : Ent κ} (he : e ∈ l) : get? l e.1 = some e.2.1 := by
  induction l with
  | nil => cases he
  | cons y r ih =>
    simp only [List.map_cons, List.nodup_cons] at hn
    unfold get?
    rw [List.find?_cons]
    rcases List.mem_cons.1 he with rfl | he'
    · simp
    · have hne : y.1 ≠ e.1 := fun h => hn.1 (List.mem_map.2 ⟨e, he', h.symm⟩)
      simp only [hne, decide_false]
      exact ih hn.2 he'
theorem mem_of_get? {l : List (Ent κ)} {x : κ} {v : Value} (h : get? l x = some v) : ∃ e ∈ l, e.1 = x ∧ e.2.1 = v := by
  unfold get? at h
  simp only [Option.map_eq_some_iff] at h
  obtain ⟨e, he, rfl⟩ := h
  have h1 := List.find?_some he
  exact ⟨e, List.mem_of_find?_eq_some he, by simpa using h1, rfl⟩

theorem get?_put (l : List (Ent κ)) (x y : κ) (v : Value) (c : Nat) : get? (put l x v c) y = if y = x then some v else get? l y := by
  unfold put
  split
  · rename_i hx
    clear c
    induction l with
    | nil => simp at hx
    | cons e r ih =>
      unfold get?
      simp only [List.map_cons, List.find?_cons]
      by_cases he : e.1 = x
      · by_cases hy : y = x
        · subst hy; simp [he]
        · have : ¬ (x = y) := fun h => hy h.symm
          have hey : ¬ (e.1 = y) := by rw [he]; exact this
          simp only [he, if_true, this, decide_false, hy, if_false]
          by_cases hxr : x ∈ r.map (·.1)
          · have := ih hxr
            unfold get? at this
            rw [this, if_neg hy]
          · have : r.map (fun e => if e.1 = x then (x, v, e.2.2) else e) = r := by
              conv => rhs; rw [← List.map_id r]
              refine List.map_congr_left fun e' he' => ?_
              rw [if_neg]
              · rfl
              · rintro rfl; exact hxr (List.mem_map.2 ⟨e', he', rfl⟩)
            rw [this]
      · simp only [he, if_false]
        have hxr : x ∈ r.map (·.1) := by
          simp only [List.map_cons, List.mem_cons] at hx
          rcases hx with h | h
          · exact absurd h.symm he
          · exact h
        have ih' := ih hxr
        unfold get? at ih'
        by_cases hey : e.1 = y
        · have : y ≠ x := by rintro rfl; exact he hey
          simp [hey, this]
        · simp only [hey, decide_false]
          exact ih'
  · rename_i hx
    unfold get?
    rw [List.find?_append]
    by_cases hy : y = x
    · subst hy
      have := get?_none hx
      unfold get? at this
      simp only [Option.map_eq_none_iff] at this
      simp [this]
    · have : ¬ (x = y) := fun h => hy h.symm
      simp [hy, this]

theorem get?_del (l : List (Ent κ)) (x y : κ) : get? (del l x) y = if y = x then none else get? l y := by
  unfold del get?
  rw [List.find?_filter]
  by_cases hy : y = x
  · subst hy
    rw [if_pos rfl, List.find?_eq_none.2]
    · rfl
    · intro e he; simp
  · rw [if_neg hy]
    congr 2
    funext e
    by_cases h : e.1 = y
    · have : ¬ (e.1 = x) := by rw [h]; exact hy
      simp [h, hy]
    · simp [h]

theorem run_lookup {w : World} {b clock : Nat} {l : List (Ent κ)} (h : MapAt N w b l clock) {x : κ} (hx : N.ok x) {T E : TypeId} (ht : P.underlying T = some (.map K E)) {z : Value} (hz : ∀ w, (zeroValue E).run P w = .ok z w) (ok : Bool) :
    (Instr.lookup T (.map (some b)) (N.enc x) ok).run P w = .ok (if ok then .tuple #[(get? l x).getD z, .bool (get? l x).isSome] else (get? l x).getD z) w := by
  obtain ⟨lx, hlx⟩ := N.reads x hx
  unfold Instr.lookup
  simp only [Sem.run_bind, run_underlying ht, Result.andThen, getObj, Sem.run, h.blk, N.law.check w _ hlx, Sem.run_pure]
  rcases find_cases N h (w' := w) hx with ⟨h1, h2⟩ | ⟨j, v, bn, h1, h2⟩
  · simp only [h1, Sem.run_bind, Result.andThen, hz, Sem.run_pure, get?_none h2]
    cases ok <;> rfl
  · have hm : (x, v, bn) ∈ l := List.mem_of_getElem? h2
    have := get?_mem h.nodup hm
    simp only [h1, this]
    cases ok <;> rfl

theorem setBlock_heap (w : World) (b : Nat) (o : Obj) (hb : b < w.heap.size) : (setBlock w b o).heap[b]? = some o := by
  simp [setBlock, hb]

theorem ents_put_old (enc : κ → Value) (_inj : ∀ a b, enc a = enc b → a = b) {l : List (Ent κ)} (hn : (l.map (·.1)).Nodup) {j : Nat} {x : κ} {u v : Value} {bn : Nat} (hj : l[j]? = some (x, u, bn)) :
    (ents enc l).toArray.modify j (fun e => { e with key := enc x, val := v }) = (ents enc (l.map fun e => if e.1 = x then (x, v, e.2.2) else e)).toArray := by
  apply Array.ext_getElem?
  intro i
  simp only [Array.getElem?_modify, List.getElem?_toArray, ents, List.getElem?_map]
  by_cases hij : j = i
  · subst hij
    simp [hj]
  · rw [if_neg hij]
    cases hi : l[i]? with
    | none => rfl
    | some e =>
      have hne : ¬ (e.1 = x) := by
        rintro rfl
        have hi' := List.getElem?_eq_some_iff.1 hi
        have hj' := List.getElem?_eq_some_iff.1 hj
        obtain ⟨a1, a2⟩ := hi'
        obtain ⟨b1, b2⟩ := hj'
        have h1 : (l.map (·.1))[i]'(by simpa using a1) = (l.map (·.1))[j]'(by simpa using b1) := by simp [a2, b2]
        exact hij ((List.getElem_inj hn).1 h1.symm)
      simp [hne]

theorem mapAt_put {w' : World} {b clock : Nat} {l : List (Ent κ)} {w : World} (h : MapAt N w b l clock) {x : κ} (hx : N.ok x) (v : Value) (hw : w'.heap[b]? = some (.map (ents N.enc (put l x v clock)).toArray (clock' l x clock))) : MapAt N w' b (put l x v clock) (clock' l x clock) := by
  refine ⟨hw, ?_, ?_, ?_, ?_⟩
  all_goals unfold put
  all_goals try unfold clock'
  all_goals split
  · intro e he
    obtain ⟨y, hy, rfl⟩ := List.mem_map.1 he
    split
    · exact hx
    · exact h.ok y hy
  · intro e he
    rcases List.mem_append.1 he with he | he
    · exact h.ok e he
    · simp at he; subst he; exact hx
  · have : (l.map fun e => if e.1 = x then (x, v, e.2.2) else e).map (·.1) = l.map (·.1) := by
      rw [List.map_map]
      refine List.map_congr_left fun e _ => ?_
      simp only [Function.comp]
      split
      · rename_i h'; exact h'.symm
      · rfl
    rw [this]; exact h.nodup
  · rename_i hni
    rw [List.map_append, List.nodup_append]
    refine ⟨h.nodup, by simp, ?_⟩
    intro a ha c hc
    simp at hc
    subst hc
    rintro rfl
    exact hni ha
  · intro e he
    obtain ⟨y, hy, rfl⟩ := List.mem_map.1 he
    have := h.born y hy
    split <;> exact this
  · intro e he
    rcases List.mem_append.1 he with he | he
    · have := h.born e he; omega
    · simp at he; subst he; simp
  · have : (l.map fun e => if e.1 = x then (x, v, e.2.2) else e).map (·.2.2) = l.map (·.2.2) := by
      rw [List.map_map]
      refine List.map_congr_left fun e _ => ?_
      simp only [Function.comp]
      split <;> rfl
    rw [this]; exact h.bnodup
  · rw [List.map_append, List.nodup_append]
    refine ⟨h.bnodup, by simp, ?_⟩
    intro a ha c hc
    simp at hc
    subst hc
    obtain ⟨y, hy, rfl⟩ := List.mem_map.1 ha
    have := h.born y hy
    omega

theorem run_update {w : World} {b clock : Nat} {l : List (Ent κ)} (h : MapAt N w b l clock) {x : κ} (hx : N.ok x) {T E : TypeId} (ht : P.underlying T = some (.map K E)) (v : Value) :
    (Instr.mapUpdate T (.map (some b)) (N.enc x) v).run P w = .ok () (setBlock w b (.map (ents N.enc (put l x v clock)).toArray (clock' l x clock))) ∧
    MapAt N (setBlock w b (.map (ents N.enc (put l x v clock)).toArray (clock' l x clock))) b (put l x v clock) (clock' l x clock) := by
  have hlt : b < w.heap.size := by
    rcases Nat.lt_or_ge b w.heap.size with h' | h'
    · exact h'
    · have := h.blk; rw [Array.getElem?_eq_none h'] at this; cases this
  refine ⟨?_, mapAt_put N h hx v (setBlock_heap _ _ _ hlt)⟩
  obtain ⟨lx, hlx⟩ := N.reads x hx
  unfold Instr.mapUpdate
  simp only [Sem.run_bind, run_underlying ht, Result.andThen, getObj, Sem.run, h.blk, N.law.check w _ hlx]
  have hset : ∀ o : Obj, (setObj b o).run P w = .ok () (setBlock w b o) := by
    intro o; simp [setObj, Sem.run, h.blk, setBlock]
  rcases find_cases N h (w' := w) hx with ⟨h1, h2⟩ | ⟨j, u, bn, h1, h2⟩
  · simp only [h1, hset]
    unfold put clock'
    rw [if_neg h2, if_neg h2]
    simp [ents]
  · have hm : x ∈ l.map (·.1) := List.mem_map.2 ⟨_, List.mem_of_getElem? h2, rfl⟩
    have hk : ((((ents N.enc l).toArray[j]?).map (·.key)).getD (N.enc x)) = N.enc x := by simp [ents, h2]
    simp only [h1, Sem.run_bind, hk, N.law.stays w hlx, Result.andThen, hset]
    unfold put clock'
    rw [if_pos hm, if_pos hm, ents_put_old N.enc N.inj h.nodup h2]

theorem ents_del (_enc : κ → Value) {l : List (Ent κ)} (hn : (l.map (·.1)).Nodup) {j : Nat} {x : κ} {u : Value} {bn : Nat} (hj : l[j]? = some (x, u, bn)) :
    l.eraseIdx j = del l x := by
  induction l generalizing j with
  | nil => simp at hj
  | cons y r ih =>
    simp only [List.map_cons, List.nodup_cons] at hn
    cases j with
    | zero =>
      simp at hj
      subst hj
      simp only [List.eraseIdx_zero, List.tail_cons, del, List.filter_cons]
      simp only [ne_eq, not_true_eq_false, decide_false, Bool.false_eq_true, if_false]
      symm
      rw [List.filter_eq_self]
      intro e he
      simp only [decide_eq_true_eq]
      rintro rfl
      exact hn.1 (List.mem_map.2 ⟨e, he, rfl⟩)
    | succ j =>
      simp at hj
      have hne : y.1 ≠ x := by
        rintro rfl
        exact hn.1 (List.mem_map.2 ⟨_, List.mem_of_getElem? hj, rfl⟩)
      simp only [List.eraseIdx_cons_succ, del, List.filter_cons]
      simp only [ne_eq, hne, not_false_eq_true, decide_true, if_true]
      rw [ih hn.2 hj]
      rfl

theorem mapAt_del {w w' : World} {b clock : Nat} {l : List (Ent κ)} (h : MapAt N w b l clock) (x : κ) (hw : w'.heap[b]? = some (.map (ents N.enc (del l x)).toArray clock)) : MapAt N w' b (del l x) clock :=
  ⟨hw, fun e he => h.ok e (List.mem_filter.1 he).1, (List.filter_sublist.map _).nodup h.nodup, fun e he => h.born e (List.mem_filter.1 he).1, (List.filter_sublist.map _).nodup h.bnodup⟩

theorem del_none {l : List (Ent κ)} {x : κ} (h : x ∉ l.map (·.1)) : del l x = l := by
  unfold del
  rw [List.filter_eq_self]
  intro e he
  simp only [decide_eq_true_eq]
  rintro rfl
  exact h (List.mem_map.2 ⟨e, he, rfl⟩)

theorem run_delete {w : World} {b clock : Nat} {l : List (Ent κ)} (h : MapAt N w b l clock) {x : κ} (hx : N.ok x) {T E K' : TypeId} (ht : P.underlying T = some (.map K E)) (ty : TypeId) :
    (Builtin.delete_ #[T, K'] ty #[.map (some b), N.enc x]).run P w = .ok (.tuple #[]) (setBlock w b (.map (ents N.enc (del l x)).toArray clock)) ∧
    MapAt N (setBlock w b (.map (ents N.enc (del l x)).toArray clock)) b (del l x) clock := by
  have hlt : b < w.heap.size := by
    rcases Nat.lt_or_ge b w.heap.size with h' | h'
    · exact h'
    · have := h.blk; rw [Array.getElem?_eq_none h'] at this; cases this
  refine ⟨?_, mapAt_del N h x (setBlock_heap _ _ _ hlt)⟩
  obtain ⟨lx, hlx⟩ := N.reads x hx
  have hset : ∀ o : Obj, (setObj b o).run P w = .ok () (setBlock w b o) := by
    intro o; simp [setObj, Sem.run, h.blk, setBlock]
  unfold Builtin.delete_
  simp only [Sem.run_bind, run_underlying ht, Result.andThen, getObj, Sem.run, h.blk, N.law.check w _ hlx, List.getElem?_toArray, List.getElem?_cons_zero, List.getElem?_cons_succ]
  rcases find_cases N h (w' := w) hx with ⟨h1, h2⟩ | ⟨j, u, bn, h1, h2⟩
  · simp only [h1, Sem.run_bind, Result.andThen, hset, del_none h2, Sem.run_pure]
  · have := ents_del N.enc h.nodup h2
    simp only [h1, Sem.run_bind, Result.andThen, hset, Sem.run_pure]
    rw [show (ents N.enc l).toArray.eraseIdxIfInBounds j = (ents N.enc (del l x)).toArray by
      rw [← this]; simp [ents, ChangeMaps.map_eraseIdx]]

end
end
end Go.Proofs.Ytlkbaplfffbmkaa.MR
/- Maps by numbers, and by nets; hop.Check of good ones. -/
namespace Go.Proofs.Ytlkbaplfffbmkaa
open Go.RowKit
open Go.ChangeMaps (setBlock)

theorem laidOut : laidOutB Try.prog = true := by kernel_rfl
theorem row133 : (87 : TypeId) < Try.prog.types.size := of_decide_eq_true (by kernel_rfl)
theorem wide133 : (match Try.prog.underlying 87 with | some (.array _ _) | some (.struct _) => true | _ => false) = true := by kernel_rfl
set_option maxRecDepth 100000 in
theorem law133 : WideMaps.KeyLaw Try.prog 87 := deep_law_laid laidOut (m := 3) (by omega) row133 (by kernel_rfl) wide133
theorem key133 : Try.prog.keyType 87 = true := by kernel_rfl
theorem key3 : Try.prog.keyType 3 = true := by kernel_rfl
theorem sizeT : Try.prog.types.size + 1 = 166 + 1 + 1 + 1 := by kernel_rfl
structure NK where
  r : Int
  a : Int
  l : Int
  deriving DecidableEq
def NK.val (k : NK) : Value := .agg #[.int .i64 k.r, .int .u32 k.a, .int .i64 k.l]
def NK.wf (k : NK) : Prop := (Lit.int .i64 k.r).wf = true ∧ (Lit.int .u32 k.a).wf = true ∧ (Lit.int .i64 k.l).wf = true
theorem cells133 : Try.prog.cellsOf 87 = 3 := by kernel_rfl
theorem cells37 : Try.prog.cellsOf 32 = 2 := by kernel_rfl
theorem cells3 : Try.prog.cellsOf 3 = 1 := by kernel_rfl
theorem cells22 : Try.prog.cellsOf 23 = 1 := by kernel_rfl
theorem lits3 (d : Nat) (n : Int) (h : (Lit.int .i64 n).wf = true) : Try.prog.keyLits (d + 1) 3 [.int .i64 n] = some [.int .i64 n] := by
  simp [Program.keyLits, Try.underlying3, h]
theorem NK.reads (k : NK) (h : k.wf) : ∃ l, keyOf Try.prog 87 k.val = some l := by
  obtain ⟨h1, h2, h3⟩ := h
  have hf : (NK.val k).formed Try.prog 87 = true := by simp [Value.formed, Try.underlying87, NK.val, cells133]
  have i2 : ∀ d n, (Lit.int .u32 n).wf = true → Try.prog.keyLits (d + 1) 23 [.int .u32 n] = some [.int .u32 n] := by
    intro d n h; simp [Program.keyLits, Try.underlying23, h]
  have i3 : ∀ d, Try.prog.keyLits (d + 1 + 1) 32 [.int .u32 k.a, .int .i64 k.l] = some [.int .u32 k.a, .int .i64 k.l] := by
    intro d; unfold Program.keyLits; simp [Try.underlying32, cells37, cells3, cells22, lits3 d _ h3, i2 d _ h2]
  have i4 : ∀ d, Try.prog.keyLits (d + 1 + 1 + 1) 87 [.int .i64 k.r, .int .u32 k.a, .int .i64 k.l] = some [.int .i64 k.r, .int .u32 k.a, .int .i64 k.l] := by
    intro d; unfold Program.keyLits; simp [Try.underlying87, cells133, cells37, cells3, lits3 (d + 1) _ h1, i3 d]
  unfold keyOf
  simp only [Try.underlying87]
  rw [key133, hf, sizeT]
  have := i4 166
  simp only [NK.val, Value.cells, this]
  exact ⟨_, rfl⟩
def NN : MR.Enc Try.prog 87 NK where
  enc := NK.val
  ok := NK.wf
  law := Maps.Keyed.of_law law133
  reads := NK.reads
  inj a b h := by
    cases a; cases b
    simp [NK.val] at h
    simp [h]
def IN : MR.Enc Try.prog 3 Int where
  enc := .int .i64
  ok n := (Lit.int .i64 n).wf = true
  law := Maps.int_keyed Try.underlying3
  reads n h := by
    unfold keyOf
    simp only [Try.underlying3]
    exact ⟨.int .i64 n, by simp [mapKey, Try.underlying3, h]⟩
  inj a b h := by simpa using h
theorem below_setBlock {B b : Nat} {w W : World} {o : Obj} (h : Below B w W) (hb : B ≤ b) : Below B w (setBlock W b o) :=
  ⟨h.os, h.tape, h.output, by show w.heap.size ≤ (W.heap.setIfInBounds b o).size; rw [Array.size_setIfInBounds]; exact h.size, fun i hi => by
    show (W.heap.setIfInBounds b o)[i]? = _
    rw [Array.getElem?_setIfInBounds, if_neg (by omega)]
    exact h.block i hi⟩
theorem setBlock_other {b i : Nat} {W : World} {o : Obj} (h : i ≠ b) : (setBlock W b o).heap[i]? = W.heap[i]? := by
  show (W.heap.setIfInBounds b o)[i]? = _
  rw [Array.getElem?_setIfInBounds, if_neg (Ne.symm h)]
theorem wfI {n : Int} (h : -9223372036854775808 ≤ n ∧ n ≤ 9223372036854775807) : (Lit.int .i64 n).wf = true := by
  simp only [Lit.wf, IntKind.min, IntKind.max, IntKind.signed, IntKind.bits, Bool.and_eq_true, decide_eq_true_eq]
  simpa using h
theorem wfU {n : Int} (h : 0 ≤ n ∧ n ≤ 4294967295) : (Lit.int .u32 n).wf = true := by
  simp only [Lit.wf, IntKind.min, IntKind.max, IntKind.signed, IntKind.bits, Bool.and_eq_true]
  simpa using h
def If.net (x : If) : NK := ⟨x.r, x.ad, x.ln⟩
theorem put_new {κ : Type} [DecidableEq κ] {l : List (MR.Ent κ)} {x : κ} (v : Value) (c : Nat) (h : x ∉ l.map (·.1)) : MR.put l x v c = l ++ [(x, v, c)] := by unfold MR.put; rw [if_neg h]
theorem put_keys {κ : Type} [DecidableEq κ] {l : List (MR.Ent κ)} {x : κ} (v : Value) (c : Nat) (h : x ∉ l.map (·.1)) : (MR.put l x v c).map (·.1) = l.map (·.1) ++ [x] := by rw [put_new v c h]; simp
theorem Good.id_new {l : List If} (h : Good l) {i : Nat} (hi : i < l.length) : (l.getD i default).id ∉ (l.take i).map If.id := by
  intro hm
  obtain ⟨y, hy, e⟩ := List.mem_map.1 hm
  obtain ⟨k, hk, rfl⟩ := List.mem_iff_getElem.1 hy
  rw [List.length_take] at hk
  have := h.ids k i (by omega) hi
  rw [List.getElem_take] at e
  rw [← e, List.getD_eq_getElem?_getD, List.getElem?_eq_getElem (by omega)] at this
  exact this rfl
theorem Good.net_new {l : List If} (h : Good l) {i : Nat} (hi : i < l.length) : (l.getD i default).net ∉ (l.take i).map If.net := by
  intro hm
  obtain ⟨y, hy, e⟩ := List.mem_map.1 hm
  obtain ⟨k, hk, rfl⟩ := List.mem_iff_getElem.1 hy
  rw [List.length_take] at hk
  have := h.nets k i (by omega) hi
  rw [List.getElem_take] at e
  simp only [If.net, NK.mk.injEq] at e
  have e2 : l.getD k default = l[k] := by rw [List.getD_eq_getElem?_getD, List.getElem?_eq_getElem (by omega)]; rfl
  rw [e2] at this
  exact this e.1 (by omega) e.2.2
theorem take_map_succ {α β : Type} [Inhabited α] (f : α → β) (l : List α) {i : Nat} (h : i < l.length) : (l.take (i + 1)).map f = (l.take i).map f ++ [f (l.getD i default)] := by
  rw [List.take_succ_eq_append_getElem h, List.map_append]
  simp [List.getD_eq_getElem?_getD, h]
theorem okI_bd {x : If} (h : okI x = true) : IN.ok x.id ∧ (x.ad < 4294967296 → NN.ok x.net) := by
  obtain ⟨h1, h2, h3, h4, h5, h6, h7⟩ := okI_iff.1 h
  obtain ⟨h8, h9, -⟩ := okP_iff.1 h5
  exact ⟨wfI (by omega), fun ha => ⟨wfI (by show -9223372036854775808 ≤ x.r ∧ x.r ≤ 9223372036854775807; omega), wfU (by show 0 ≤ (x.ad : Int) ∧ (x.ad : Int) ≤ 4294967295; omega), wfI (by show -9223372036854775808 ≤ x.ln ∧ x.ln ≤ 9223372036854775807; omega)⟩⟩

end Go.Proofs.Ytlkbaplfffbmkaa
/- hop.Check of good ones. -/
namespace Go.Proofs.Ytlkbaplfffbmkaa
open Go.RowKit
open Go.ChangeMaps (setBlock)

set_option maxRecDepth 100000 in
set_option maxHeartbeats 2000000 in
theorem hcheck_ok {w : World} {oa : Option Addr} {n c : Nat} {l : List If} (h : Ifs w oa n c l) (hg : Good l) : Calls Try.prog 13 #[.slice oa n c] w fun e w' => e = .returned (.int .i64 0) ∧ Below w.heap.size w w' := by
  have HL := Lib.hid h.sl.len
  have F := Lib.hid h
  have HG := Lib.hid hg
  have hmax := h.sl.max
  have h256 : n ≤ 256 := by have h1 := hg.len; have h2 := h.sl.len; omega
  have hal := ((Below.refl w.heap.size w).alloc (Nat.le_refl _) (.map #[] 0)).alloc (by simp) (.map #[] 0)
  have m3 : MR.MapAt IN ((w.alloc (.map #[] 0)).alloc (.map #[] 0)) w.heap.size [] 0 := MR.mapAt_made IN (hold (hnew _ _))
  have m4 : MR.MapAt NN ((w.alloc (.map #[] 0)).alloc (.map #[] 0)) (w.heap.size + 1) [] 0 := MR.mapAt_made NN (hnewAt (by simp))
  have G := Lib.hid (And.intro m3 (And.intro m4 hal))
  clear h hg hal m3 m4
  have hmm := @run_makeMap Try.prog
  go_enter Try.func13, Try.ntmps13
  go_wp2_with fail
  clear hmm
  generalize ((w.alloc (.map #[] 0)).alloc (.map #[] 0)) = W at *
  go_loopw [11] (fun iv wr => ∃ (i : Nat) (es : List (MR.Ent Int)) (c3 : Nat) (fs : List (MR.Ent NK)) (c4 : Nat), i ≤ n ∧ iv = .int .i64 i ∧ es.map (·.1) = (l.take i).map If.id ∧ fs.map (·.1) = (l.take i).map If.net ∧ MR.MapAt IN wr w.heap.size es c3 ∧ MR.MapAt NN wr (w.heap.size + 1) fs c4 ∧ Below w.heap.size w wr) (fun iv _ => n - (intOf iv).toNat)
  case atStart => exact ⟨0, [], 0, [], 0, Nat.zero_le _, rfl, rfl, rfl, G.out.1, G.out.2.1, G.out.2.2⟩
  case round =>
    obtain ⟨i, es, c3, fs, c4, hi, rfl, hes, hfs, hm3, hm4, hb⟩ := hrel
    obtain ⟨w2, rfl⟩ : ∃ w2 : World, w2 = wr := ⟨_, rfl⟩
    by_cases hlt : i < n
    · have hil : ((i : Int) < (n : Int)) = True := by simp; omega
      have hw3 := wrapS hlt hmax
      have hlen : l.length = n := HL.out.symm
      obtain ⟨b0, o0, rfl, hbb, hat⟩ := (F.out.keep hb).sl.at hlt
      have c0 := hat 0 (by decide)
      have c1 := hat 1 (by decide)
      have c2 := hat 2 (by decide)
      have c3' := hat 3 (by decide)
      have c4' := hat 4 (by decide)
      simp only [RIf, Nat.add_zero, List.getElem?_cons_zero, List.getElem?_cons_succ] at c0 c1 c2 c3' c4'
      have hbd := okI_bd (HG.out.ok _ (getD_mem (i := i) (by omega)))
      have hadx := F.out.ad _ (getD_mem (i := i) (by omega))
      have hn1 := HG.out.id_new (i := i) (by omega)
      have hn2 := HG.out.net_new (i := i) (by omega)
      have t1 := take_map_succ If.id l (i := i) (by omega)
      have t2 := take_map_succ If.net l (i := i) (by omega)
      rw [← hes] at hn1 t1
      rw [← hfs] at hn2 t2
      generalize l.getD i default = x at *
      have hal := (Below.refl w2.heap.size w2).alloc (Nat.le_refl _) (.cells #[.int .i64 x.id, .int .i64 x.r, .int .u32 (x.ad : Int), .int .i64 x.ln, .int .i64 x.cp] 34)
      have hxs : IfS w2.heap.size x (w2.alloc (.cells #[.int .i64 x.id, .int .i64 x.r, .int .u32 (x.ad : Int), .int .i64 x.ln, .int .i64 x.cp] 34)) := hnew _ _
      have l3 : w.heap.size < w2.heap.size := lt_of_blk hm3.blk
      have l4 : w.heap.size + 1 < w2.heap.size := lt_of_blk hm4.blk
      have hm3a : MR.MapAt IN (w2.alloc (.cells #[.int .i64 x.id, .int .i64 x.r, .int .u32 (x.ad : Int), .int .i64 x.ln, .int .i64 x.cp] 34)) w.heap.size es c3 := hm3.blk_iff IN (hal.block _ l3)
      have hm4a : MR.MapAt NN (w2.alloc (.cells #[.int .i64 x.id, .int .i64 x.r, .int .u32 (x.ad : Int), .int .i64 x.ln, .int .i64 x.cp] 34)) (w.heap.size + 1) fs c4 := hm4.blk_iff NN (hal.block _ l4)
      obtain ⟨O1, hO1⟩ : ∃ O, O = Obj.map (MR.ents IN.enc (MR.put es x.id (.bool true) c3)).toArray (MR.clock' es x.id c3) := ⟨_, rfl⟩
      have hu1 : (Instr.mapUpdate 84 (.map (some w.heap.size)) (.int .i64 x.id) (.bool true)).run Try.prog (w2.alloc (.cells #[.int .i64 x.id, .int .i64 x.r, .int .u32 (x.ad : Int), .int .i64 x.ln, .int .i64 x.cp] 34)) = .ok () (setBlock (w2.alloc (.cells #[.int .i64 x.id, .int .i64 x.r, .int .u32 (x.ad : Int), .int .i64 x.ln, .int .i64 x.cp] 34)) w.heap.size O1) := by rw [hO1]; exact (MR.run_update IN hm3a hbd.1 Try.underlying84 (.bool true)).1
      have hm3b : MR.MapAt IN (setBlock (w2.alloc (.cells #[.int .i64 x.id, .int .i64 x.r, .int .u32 (x.ad : Int), .int .i64 x.ln, .int .i64 x.cp] 34)) w.heap.size O1) w.heap.size (MR.put es x.id (.bool true) c3) (MR.clock' es x.id c3) := by rw [hO1]; exact (MR.run_update IN hm3a hbd.1 Try.underlying84 (.bool true)).2
      have hm4b : MR.MapAt NN (setBlock (w2.alloc (.cells #[.int .i64 x.id, .int .i64 x.r, .int .u32 (x.ad : Int), .int .i64 x.ln, .int .i64 x.cp] 34)) w.heap.size O1) (w.heap.size + 1) fs c4 := hm4a.blk_iff NN (setBlock_other (by omega))
      have hxs2 : IfS w2.heap.size x (setBlock (w2.alloc (.cells #[.int .i64 x.id, .int .i64 x.r, .int .u32 (x.ad : Int), .int .i64 x.ln, .int .i64 x.cp] 34)) w.heap.size O1) := (setBlock_other (by omega)).trans hxs
      obtain ⟨O2, hO2⟩ : ∃ O, O = Obj.map (MR.ents NN.enc (MR.put fs x.net (.bool true) c4)).toArray (MR.clock' fs x.net c4) := ⟨_, rfl⟩
      have hu2 : (Instr.mapUpdate 85 (.map (some (w.heap.size + 1))) (.agg #[.int .i64 x.r, .int .u32 (x.ad : Int), .int .i64 x.ln]) (.bool true)).run Try.prog (setBlock (w2.alloc (.cells #[.int .i64 x.id, .int .i64 x.r, .int .u32 (x.ad : Int), .int .i64 x.ln, .int .i64 x.cp] 34)) w.heap.size O1) = .ok () (setBlock (setBlock (w2.alloc (.cells #[.int .i64 x.id, .int .i64 x.r, .int .u32 (x.ad : Int), .int .i64 x.ln, .int .i64 x.cp] 34)) w.heap.size O1) (w.heap.size + 1) O2) := by rw [hO2]; exact (MR.run_update NN hm4b (hbd.2 hadx) Try.underlying85 (.bool true)).1
      have hm4c : MR.MapAt NN (setBlock (setBlock (w2.alloc (.cells #[.int .i64 x.id, .int .i64 x.r, .int .u32 (x.ad : Int), .int .i64 x.ln, .int .i64 x.cp] 34)) w.heap.size O1) (w.heap.size + 1) O2) (w.heap.size + 1) (MR.put fs x.net (.bool true) c4) (MR.clock' fs x.net c4) := by rw [hO2]; exact (MR.run_update NN hm4b (hbd.2 hadx) Try.underlying85 (.bool true)).2
      have hm3c : MR.MapAt IN (setBlock (setBlock (w2.alloc (.cells #[.int .i64 x.id, .int .i64 x.r, .int .u32 (x.ad : Int), .int .i64 x.ln, .int .i64 x.cp] 34)) w.heap.size O1) (w.heap.size + 1) O2) w.heap.size (MR.put es x.id (.bool true) c3) (MR.clock' es x.id c3) := hm3b.blk_iff IN (setBlock_other (by omega))
      have hbc : Below w.heap.size w (setBlock (setBlock (w2.alloc (.cells #[.int .i64 x.id, .int .i64 x.r, .int .u32 (x.ad : Int), .int .i64 x.ln, .int .i64 x.cp] 34)) w.heap.size O1) (w.heap.size + 1) O2) := below_setBlock (below_setBlock (bcall hb (Nat.le_refl _) hal) (Nat.le_refl _)) (by omega)
      have H := Lib.hid (And.intro (t1 ▸ put_keys (.bool true) c3 hn1) (And.intro (t2 ▸ put_keys (.bool true) c4 hn2) (And.intro hm3c (And.intro hm4c hbc))))
      obtain ⟨z0, z1, z2, z3, z4⟩ := hxs.cells
      obtain ⟨y0, y1, y2, y3, y4⟩ := hxs2.cells
      clear hO1 hO2 hm3a hm3b hm4a hm4b hm3c hm4c hbc hxs hxs2 hal hm3 hm4 hb hbd hadx hn1 hn2 t1 t2 hat hes hfs hlen
      go_wp2_with fail
      exact ⟨⟨i + 1, _, _, _, _, hlt, by first | rw [hw3] | rw [Int.natCast_succ], H.out.1, H.out.2.1, H.out.2.2.1, H.out.2.2.2.1, H.out.2.2.2.2⟩, by first | (rw [hw3]; exact mSucc hlt) | (rw [← Int.natCast_succ]; exact mSucc hlt)⟩
    · obtain rfl : n = i := by omega
      have hil : ((n : Int) < (n : Int)) = False := by simp
      have h25 : ((256 : Int) < (n : Int)) = False := by simp; omega
      have e3 : es.length = n := by have := congrArg List.length hes; rw [List.length_map, List.length_map, List.length_take] at this; have := HL.out; omega
      have e4 : fs.length = n := by have := congrArg List.length hfs; rw [List.length_map, List.length_map, List.length_take] at this; have := HL.out; omega
      have hl3 := fun ty => MR.run_len IN hm3 Try.underlying84 ty
      have hl4 := fun ty => MR.run_len NN hm4 Try.underlying85 ty
      rw [e3] at hl3
      rw [e4] at hl4
      have HB := Lib.hid hb
      have HK := Lib.hid (contains_ok (F.out.keep hb) HG.out.ok)
      clear hb hm3 hm4 hes hfs e3 e4
      go_wp2_with fail
      refine (HK.out).mono ?_
      rintro e W3 ⟨rfl, hb3⟩
      have HB3 := Lib.hid (bcall HB.out (Nat.le_refl _) hb3)
      clear hb3 HB HK hl3 hl4
      go_wp2_with fail
      go_ret
      exact ⟨rfl, HB3.out⟩
end Go.Proofs.Ytlkbaplfffbmkaa
/- made, find, at nodes. -/
namespace Go.Proofs.Ytlkbaplfffbmkaa
open Go.RowKit

abbrev TrieI := TrieAt (α := Int) 110 112 (Value.int .i64) (0 : Int)
theorem madeI_nil (w : World) : Calls Try.prog 55 #[.pointer none] w fun e w' => e = .returned (.bool false) ∧ w' = w := by
  go_enter Try.func55, Try.ntmps55
  go_wp2_with fail
  go_ret
  exact ⟨rfl, rfl⟩
theorem madeI_any {w : World} {b n : Nat} {N : Nat → Nat → Option Nat} {M : Nat → Nat → Option Int} (h : TrieI w b N n M) : Calls Try.prog 55 #[.pointer (some ⟨b, 0, none⟩)] w fun e w' => e = .returned (.bool true) ∧ w' = w := by
  obtain ⟨r, hr, hb⟩ := h.root
  have c0 : w.cell? ⟨b, 0, none⟩ = some (.pointer (some ⟨r, 0, none⟩)) := cell_of hb rfl
  clear h hb
  go_enter Try.func55, Try.ntmps55
  go_wp2_with fail
  go_ret
  exact ⟨rfl, rfl⟩
/-- a node's cells -/
theorem nodeI {w : World} {b n : Nat} {N : Nat → Nat → Option Nat} {M : Nat → Nat → Option Int} (h : TrieI w b N n M) {a d k : Nat} (hk : N a d = some k) :
    w.cell? ⟨k, 0, none⟩ = some (ptr (N (kid a d false) (d + 1))) ∧ w.cell? ⟨k, 1, none⟩ = some (ptr (N (kid a d true) (d + 1))) ∧ w.cell? ⟨k, 2, none⟩ = some (.int .i64 ((M a d).getD (0 : Int))) ∧ w.cell? ⟨k, 3, none⟩ = some (.bool (M a d).isSome) ∧ (∀ o, w.frozen? ⟨k, o, none⟩ = false) := by
  have hb := h.node a d k hk
  exact ⟨cell_of hb rfl, cell_of hb rfl, cell_of hb rfl, cell_of hb rfl, fun o => free_of hb⟩
end Go.Proofs.Ytlkbaplfffbmkaa
