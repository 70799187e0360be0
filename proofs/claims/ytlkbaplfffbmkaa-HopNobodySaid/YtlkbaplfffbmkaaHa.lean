/- Interfaces; the reference's Check. -/
import Derived.Test.YtlkbaplfffbmkaaRb
import Derived.Test.YtlkbaplfffbmkaaGd
import Derived.Test.YtlkbaplfffbmkaaPc
namespace Go.Proofs.Ytlkbaplfffbmkaa
open Go.RowKit

structure If where
  id : Int
  r : Int
  ad : Nat
  ln : Int
  cp : Int
deriving Inhabited
def If.v (x : If) : Value := .agg #[.int .i64 x.id, .int .i64 x.r, .int .u32 x.ad, .int .i64 x.ln, .int .i64 x.cp]
def RIf : Rep If := ⟨34, 5, by decide, fun x => [.int .i64 x.id, .int .i64 x.r, .int .u32 (x.ad : Int), .int .i64 x.ln, .int .i64 x.cp], fun _ => rfl, fun _ => rfl⟩
def okI (x : If) : Bool := decide (0 ≤ x.id) && decide (x.id ≤ 4294967295) && decide (0 ≤ x.r) && decide (x.r ≤ 15) && okP x.ad x.ln && decide (0 ≤ x.cp) && decide (x.cp ≤ 9007199254740991)
/-- interfaces that may be -/
structure Good (l : List If) : Prop where
  ok : ∀ x ∈ l, okI x = true
  ids : ∀ k i, k < i → i < l.length → (l.getD k default).id ≠ (l.getD i default).id
  nets : ∀ k i, k < i → i < l.length → (l.getD k default).r = (l.getD i default).r → (l.getD k default).ad = (l.getD i default).ad → (l.getD k default).ln = (l.getD i default).ln → False
  len : l.length ≤ 256
/-- true is told only where p holds -/
def Tells (e : Ending) (p : Prop) : Prop := ∃ b : Bool, e = .returned (.bool b) ∧ (b = true → p)
theorem Tells.no {p : Prop} : Tells (.returned (.bool false)) p := ⟨false, rfl, fun h => by cases h⟩
theorem Tells.yes {p : Prop} (h : p) : Tells (.returned (.bool true)) p := ⟨true, rfl, fun _ => h⟩
/-- interfaces in a slice -/
structure Ifs (w : World) (oa : Option Addr) (n c : Nat) (l : List If) : Prop where
  sl : RIf.Sl w oa n c l
  ad : ∀ x ∈ l, x.ad < 4294967296
theorem Ifs.keep {w w' : World} {oa : Option Addr} {n c : Nat} {l : List If} (h : Ifs w oa n c l) (hb : Below w.heap.size w w') : Ifs w' oa n c l := ⟨h.sl.keep hb, h.ad⟩
def IfS (b : Nat) (x : If) (w : World) : Prop := w.heap[b]? = some (.cells #[.int .i64 x.id, .int .i64 x.r, .int .u32 (x.ad : Int), .int .i64 x.ln, .int .i64 x.cp] 34)
theorem IfS.cells {b : Nat} {x : If} {w : World} (h : IfS b x w) : w.cell? ⟨b, 0, none⟩ = some (.int .i64 x.id) ∧ w.cell? ⟨b, 1, none⟩ = some (.int .i64 x.r) ∧ w.cell? ⟨b, 2, none⟩ = some (.int .u32 (x.ad : Int)) ∧ w.cell? ⟨b, 3, none⟩ = some (.int .i64 x.ln) ∧ w.cell? ⟨b, 4, none⟩ = some (.int .i64 x.cp) := ⟨cell_of h rfl, cell_of h rfl, cell_of h rfl, cell_of h rfl, cell_of h rfl⟩
theorem IfS.on {b : Nat} {x : If} {w w' : World} (h : IfS b x w) (hb : Below w.heap.size w w') : IfS b x w' := (hb.block _ (lt_of_blk h)).trans h
theorem bcall {B : Nat} {w w2 w3 : World} (h : Below B w w2) (hB : B ≤ w.heap.size) (h3 : Below w2.heap.size w2 w3) : Below B w w3 := h.trans (h3.mono (Nat.le_trans hB h.size))
theorem wrapS {i n : Nat} (h : i < n) (hn : n ≤ maxLen) : wrap64 ((i : Int) + 1) = ((i + 1 : Nat) : Int) := by unfold maxLen at hn; unfold wrap64; omega
theorem mSucc {i n : Nat} (h : i < n) : n - (intOf (.int .i64 ((i + 1 : Nat) : Int))).toNat < n - (intOf (.int .i64 (i : Int))).toNat := by show n - ((i + 1 : Nat) : Int).toNat < n - (i : Int).toNat; omega
theorem okI_iff {x : If} : okI x = true ↔ 0 ≤ x.id ∧ x.id ≤ 4294967295 ∧ 0 ≤ x.r ∧ x.r ≤ 15 ∧ okP x.ad x.ln = true ∧ 0 ≤ x.cp ∧ x.cp ≤ 9007199254740991 := by simp [okI, and_assoc]
/-- so many of them are good -/
structure GoodTo (l : List If) (i : Nat) : Prop where
  ok : ∀ j, j < i → okI (l.getD j default) = true
  ids : ∀ k j, k < j → j < i → (l.getD k default).id ≠ (l.getD j default).id
  nets : ∀ k j, k < j → j < i → (l.getD k default).r = (l.getD j default).r → (l.getD k default).ad = (l.getD j default).ad → (l.getD k default).ln = (l.getD j default).ln → False
theorem GoodTo.good {l : List If} (h : GoodTo l l.length) (hl : l.length ≤ 256) : Good l :=
  ⟨fun x hx => by
    obtain ⟨j, hj, rfl⟩ := List.mem_iff_getElem.1 hx
    have := h.ok j hj
    rw [List.getD_eq_getElem?_getD, List.getElem?_eq_getElem hj] at this
    exact this, h.ids, h.nets, hl⟩
set_option maxRecDepth 100000 in
set_option maxHeartbeats 2000000 in
theorem rchk_any {w : World} {oa : Option Addr} {n c : Nat} {l : List If} (h : Ifs w oa n c l) : Calls Try.prog 12 #[.slice oa n c] w fun e w' => Tells e (Good l) ∧ Below w.heap.size w w' := by
  have HL := Lib.hid h.sl.len
  have F := Lib.hid h
  have hmax := h.sl.max
  clear h
  go_enter Try.func12, Try.ntmps12
  go_wp2_with fail
  go_loopw [3] (fun iv wr => ∃ i : Nat, i ≤ n ∧ iv = .int .i64 i ∧ GoodTo l i ∧ Below w.heap.size w wr) (fun iv _ => n - (intOf iv).toNat)
  case atStart => exact ⟨0, Nat.zero_le _, rfl, ⟨fun j hj => by omega, fun k j _ hj => by omega, fun k j _ hj => by omega⟩, Below.refl _ _⟩
  case round =>
    obtain ⟨i, hi, rfl, hg, hb⟩ := hrel
    obtain ⟨w2, rfl⟩ : ∃ w2 : World, w2 = wr := ⟨_, rfl⟩
    have HG := Lib.hid hg
    clear hg
    by_cases hlt : i < n
    · have hil : ((i : Int) < (n : Int)) = True := by simp; omega
      have hlen : l.length = n := HL.out.symm
      obtain ⟨b0, o0, rfl, hbb, hat⟩ := (F.out.keep hb).sl.at hlt
      have c0 := hat 0 (by decide)
      have c1 := hat 1 (by decide)
      have c2 := hat 2 (by decide)
      have c3 := hat 3 (by decide)
      have c4 := hat 4 (by decide)
      simp only [RIf, Nat.add_zero, List.getElem?_cons_zero, List.getElem?_cons_succ] at c0 c1 c2 c3 c4
      have hadx : (l.getD i default).ad < 4294967296 := F.out.ad _ (getD_mem (by omega))
      obtain ⟨x, hx⟩ : ∃ x, l.getD i default = x := ⟨_, rfl⟩
      rw [hx] at c0 c1 c2 c3 c4 hadx
      have HX := Lib.hid hx
      have hal := (Below.refl w2.heap.size w2).alloc (Nat.le_refl _) (.cells #[.int .i64 x.id, .int .i64 x.r, .int .u32 (x.ad : Int), .int .i64 x.ln, .int .i64 x.cp] 34)
      have hxs : IfS w2.heap.size x (w2.alloc (.cells #[.int .i64 x.id, .int .i64 x.r, .int .u32 (x.ad : Int), .int .i64 x.ln, .int .i64 x.cp] 34)) := hnew _ _
      have F1 := Lib.hid (And.intro (bcall hb (Nat.le_refl _) hal) (And.intro hxs hadx))
      obtain ⟨z0, z1, z2, z3, z4⟩ := hxs.cells
      clear hal hxs hat hx hadx hb hlen
      have hw3 := wrapS hlt hmax
      by_cases h1 : x.id < 0
      · have h1t : (x.id < 0) = True := by simp; omega
        go_wp2_with fail
        go_ret
        exact ⟨Tells.no, F1.out.1⟩
      have h1f : (x.id < 0) = False := by simp; omega
      by_cases h2 : 4294967295 < x.id
      · have h2t : (4294967295 < x.id) = True := by simp; omega
        go_wp2_with fail
        go_ret
        exact ⟨Tells.no, F1.out.1⟩
      have h2f : (4294967295 < x.id) = False := by simp; omega
      by_cases h3 : x.r < 0
      · have h3t : (x.r < 0) = True := by simp; omega
        go_wp2_with fail
        go_ret
        exact ⟨Tells.no, F1.out.1⟩
      have h3f : (x.r < 0) = False := by simp; omega
      by_cases h4 : 15 < x.r
      · have h4t : (15 < x.r) = True := by simp; omega
        go_wp2_with fail
        go_ret
        exact ⟨Tells.no, F1.out.1⟩
      have h4f : (15 < x.r) = False := by simp; omega
      go_wp2_with fail
      generalize w2.alloc (.cells #[.int .i64 x.id, .int .i64 x.r, .int .u32 (x.ad : Int), .int .i64 x.ln, .int .i64 x.cp] 34) = W1 at *
      generalize w2.heap.size = q1 at *
      refine (rcheck_any x.ad x.ln F1.out.2.2 W1).mono ?_
      rintro e W2 ⟨rfl, hb2⟩
      have F2 := Lib.hid (And.intro (bcall F1.out.1 (Nat.le_refl _) hb2) (F1.out.2.1.on hb2))
      clear F1 hb2 z0 z1 z2 z3 z4
      obtain ⟨z0, z1, z2, z3, z4⟩ := F2.out.2.cells
      cases hok : okP x.ad x.ln with
      | false =>
        go_wp2_with fail
        go_ret
        exact ⟨Tells.no, F2.out.1⟩
      | true =>
        by_cases h5 : x.cp < 0
        · have h5t : (x.cp < 0) = True := by simp; omega
          go_wp2_with fail
          go_ret
          exact ⟨Tells.no, F2.out.1⟩
        have h5f : (x.cp < 0) = False := by simp; omega
        by_cases h6 : 9007199254740991 < x.cp
        · have h6t : (9007199254740991 < x.cp) = True := by simp; omega
          go_wp2_with fail
          go_ret
          exact ⟨Tells.no, F2.out.1⟩
        have h6f : (9007199254740991 < x.cp) = False := by simp; omega
        go_wp2_with fail
        have hokx : okI x = true := okI_iff.2 ⟨by omega, by omega, by omega, by omega, hok, by omega, by omega⟩
        have HO := Lib.hid hokx
        clear hokx z0 z1 z2 z3 z4 h1 h2 h3 h4 h5 h6 h1f h2f h3f h4f h5f h6f hok c0 c1 c2 c3 c4
        go_loopw [5] (fun kv wr => ∃ k : Nat, k ≤ i ∧ kv = .int .i64 k ∧ (∀ j, j < k → (l.getD j default).id ≠ x.id ∧ ((l.getD j default).r = x.r → (l.getD j default).ad = x.ad → (l.getD j default).ln = x.ln → False)) ∧ Below w.heap.size w wr ∧ IfS q1 x wr) (fun kv _ => i - (intOf kv).toNat)
        case atStart => exact ⟨0, Nat.zero_le _, rfl, fun j hj => by omega, F2.out⟩
        case round =>
          obtain ⟨k, hk, rfl, hne, hb, hxs⟩ := hrel
          obtain ⟨w3, rfl⟩ : ∃ w3 : World, w3 = wr := ⟨_, rfl⟩
          have HN := Lib.hid hne
          clear hne
          by_cases hkt : k < i
          · have hki : ((k : Int) < (i : Int)) = True := by simp; omega
            have hd := (Below.refl w3.heap.size w3).drew
            have hwk := wrapS hkt (by omega)
            have hkn : k < n := by omega
            have hlenl : l.length = n := HL.out.symm
            obtain ⟨b1, o1, e1, hbb1, hat⟩ := (F.out.keep (bcall hb (Nat.le_refl _) hd)).sl.at hkn
            obtain ⟨rfl, rfl⟩ : b0 = b1 ∧ o0 = o1 := by simp only [Option.some.injEq, Addr.mk.injEq] at e1; exact ⟨e1.1, e1.2.1⟩
            have c0 := hat 0 (by decide)
            have c1 := hat 1 (by decide)
            have c2 := hat 2 (by decide)
            have c3 := hat 3 (by decide)
            simp only [RIf, Nat.add_zero, List.getElem?_cons_zero, List.getElem?_cons_succ] at c0 c1 c2 c3
            obtain ⟨y, hy⟩ : ∃ y, l.getD k default = y := ⟨_, rfl⟩
            rw [hy] at c0 c1 c2 c3
            have F3 := Lib.hid (And.intro (bcall hb (Nat.le_refl _) hd) (And.intro (hxs.on hd) hy))
            clear hd hb hxs hat hbb1 hy hlenl
            go_wp2_with fail
            refine wp_region_heldP (fun w' => w' = w3.drew) (by kernel_rfl) ?_
            obtain ⟨z0, z1, z2, z3, z4⟩ := F3.out.2.1.cells
            generalize w3.drew = Wd at *
            have hcase : ((y.id = x.id) = True ∧ True) ∨ ((y.id = x.id) = False ∧ (y.r = x.r) = False ∧ (y.id ≠ x.id ∧ (y.r = x.r → y.ad = x.ad → y.ln = x.ln → False))) ∨ ((y.id = x.id) = False ∧ (y.r = x.r) = True ∧ ((y.ad : Int) = (x.ad : Int)) = True ∧ (y.ln = x.ln) = True) ∨ ((y.id = x.id) = False ∧ (y.r = x.r) = True ∧ ((y.ad : Int) = (x.ad : Int)) = False ∧ (y.id ≠ x.id ∧ (y.r = x.r → y.ad = x.ad → y.ln = x.ln → False))) ∨ ((y.id = x.id) = False ∧ (y.r = x.r) = True ∧ ((y.ad : Int) = (x.ad : Int)) = True ∧ (y.ln = x.ln) = False ∧ (y.id ≠ x.id ∧ (y.r = x.r → y.ad = x.ad → y.ln = x.ln → False))) := by
              by_cases g1 : y.id = x.id
              · exact .inl ⟨by simp [g1], trivial⟩
              · by_cases g2 : y.r = x.r
                · by_cases g3 : y.ad = x.ad
                  · by_cases g4 : y.ln = x.ln
                    · exact .inr (.inr (.inl ⟨by simp [g1], by simp [g2], by simp [g3], by simp [g4]⟩))
                    · exact .inr (.inr (.inr (.inr ⟨by simp [g1], by simp [g2], by simp [g3], by simp [g4], g1, fun _ _ h => g4 h⟩)))
                  · exact .inr (.inr (.inr (.inl ⟨by simp [g1], by simp [g2], by simp; omega, g1, fun _ h _ => g3 h⟩)))
                · exact .inr (.inl ⟨by simp [g1], by simp [g2], g1, fun h => absurd h g2⟩)
            rcases hcase with ⟨g1, -⟩ | ⟨g1, g2, hnn⟩ | ⟨g1, g2, g3, g4⟩ | ⟨g1, g2, g3, hnn⟩ | ⟨g1, g2, g3, g4, hnn⟩
            · refine held_reads [0, 1, 2, 3, 4, 5, 6, 7, 8, 9, 10, 11, 12, 13, 14, 15, 16, 17, 18, 19, 20, 21, 22, 23, 24, 25, 26, 27] (g := 0) rfl (by kernel_rfl) rfl (fun _ _ d _ _ h => by cases d <;> exact h) ?_
              simp only [pick, List.getD_cons_zero, List.getD_cons_succ]
              iterate 28 ((with_reducible refine wpRead_step (fun K hK => ?_)); go_simp; first | (rw [if_neg (by decide)]; (with_reducible refine hK _ ?_); clear hK K) | ((with_reducible refine hK _ ?_); clear hK K) | (apply Exists.intro; (with_reducible refine ⟨fun w' hw' => ?_, hK _ ?_⟩); (subst hw'; go_simp; first | exact rfl | exact ⟨rfl, rfl⟩); clear hK K))
              with_reducible refine wpRead_nil ?_
              refine wpAnyH_done (by kernel_rfl) ?_ _
              have g1b : (y.id == x.id) = true := by simpa using g1
              simp only [g1b]
              go_wp2_with fail
              go_ret
              exact ⟨Tells.no, F3.out.1⟩
            · have HNN := Lib.hid hnn
              clear hnn
              refine held_reads [0, 1, 2, 3, 4, 5, 6, 7, 8, 9, 10, 11, 12, 13, 14, 15, 16, 17, 18, 19, 20, 21, 22, 23, 24, 25, 26, 27] (g := 0) rfl (by kernel_rfl) rfl (fun _ _ d _ _ h => by cases d <;> exact h) ?_
              simp only [pick, List.getD_cons_zero, List.getD_cons_succ]
              iterate 28 ((with_reducible refine wpRead_step (fun K hK => ?_)); go_simp; first | (rw [if_neg (by decide)]; (with_reducible refine hK _ ?_); clear hK K) | ((with_reducible refine hK _ ?_); clear hK K) | (apply Exists.intro; (with_reducible refine ⟨fun w' hw' => ?_, hK _ ?_⟩); (subst hw'; go_simp; first | exact rfl | exact ⟨rfl, rfl⟩); clear hK K))
              with_reducible refine wpRead_nil ?_
              refine wpAnyH_done (by kernel_rfl) ?_ _
              have g1b : (y.id == x.id) = false := by simpa using g1
              have g2b : (y.r == x.r) = false := by simpa using g2
              simp only [g1b, g2b]
              go_wp2_with fail
              exact ⟨⟨k + 1, hkt, by first | rw [hwk] | rw [Int.natCast_succ], fun j hj => by
                rcases Nat.lt_succ_iff_lt_or_eq.1 hj with h | rfl
                · exact HN.out j h
                · rw [F3.out.2.2]; exact HNN.out, F3.out.1, F3.out.2.1⟩, by first | (rw [hwk]; exact mSucc hkt) | (rw [← Int.natCast_succ]; exact mSucc hkt)⟩
            · refine held_reads [0, 1, 2, 3, 4, 5, 6, 7, 8, 9, 10, 11, 12, 13, 14, 15, 16, 17, 18, 19, 20, 21, 22, 23, 24, 25, 26, 27] (g := 0) rfl (by kernel_rfl) rfl (fun _ _ d _ _ h => by cases d <;> exact h) ?_
              simp only [pick, List.getD_cons_zero, List.getD_cons_succ]
              iterate 28 ((with_reducible refine wpRead_step (fun K hK => ?_)); go_simp; first | (rw [if_neg (by decide)]; (with_reducible refine hK _ ?_); clear hK K) | ((with_reducible refine hK _ ?_); clear hK K) | (apply Exists.intro; (with_reducible refine ⟨fun w' hw' => ?_, hK _ ?_⟩); (subst hw'; go_simp; first | exact rfl | exact ⟨rfl, rfl⟩); clear hK K))
              with_reducible refine wpRead_nil ?_
              refine wpAnyH_done (by kernel_rfl) ?_ _
              have g1b : (y.id == x.id) = false := by simpa using g1
              have g2b : (y.r == x.r) = true := by simpa using g2
              simp only [g1b, g2b, Bool.false_or]
              go_wp2_with fail
              go_ret
              exact ⟨Tells.no, F3.out.1⟩
            · have HNN := Lib.hid hnn
              clear hnn
              refine held_reads [0, 1, 2, 3, 4, 5, 6, 7, 8, 9, 10, 11, 12, 13, 14, 15, 16, 17, 18, 19, 20, 21, 22, 23, 24, 25, 26, 27] (g := 0) rfl (by kernel_rfl) rfl (fun _ _ d _ _ h => by cases d <;> exact h) ?_
              simp only [pick, List.getD_cons_zero, List.getD_cons_succ]
              iterate 28 ((with_reducible refine wpRead_step (fun K hK => ?_)); go_simp; first | (rw [if_neg (by decide)]; (with_reducible refine hK _ ?_); clear hK K) | ((with_reducible refine hK _ ?_); clear hK K) | (apply Exists.intro; (with_reducible refine ⟨fun w' hw' => ?_, hK _ ?_⟩); (subst hw'; go_simp; first | exact rfl | exact ⟨rfl, rfl⟩); clear hK K))
              with_reducible refine wpRead_nil ?_
              refine wpAnyH_done (by kernel_rfl) ?_ _
              have g1b : (y.id == x.id) = false := by simpa using g1
              have g2b : (y.r == x.r) = true := by simpa using g2
              simp only [g1b, g2b]
              go_wp2_with fail
              exact ⟨⟨k + 1, hkt, by first | rw [hwk] | rw [Int.natCast_succ], fun j hj => by
                rcases Nat.lt_succ_iff_lt_or_eq.1 hj with h | rfl
                · exact HN.out j h
                · rw [F3.out.2.2]; exact HNN.out, F3.out.1, F3.out.2.1⟩, by first | (rw [hwk]; exact mSucc hkt) | (rw [← Int.natCast_succ]; exact mSucc hkt)⟩
            · have HNN := Lib.hid hnn
              clear hnn
              refine held_reads [0, 1, 2, 3, 4, 5, 6, 7, 8, 9, 10, 11, 12, 13, 14, 15, 16, 17, 18, 19, 20, 21, 22, 23, 24, 25, 26, 27] (g := 0) rfl (by kernel_rfl) rfl (fun _ _ d _ _ h => by cases d <;> exact h) ?_
              simp only [pick, List.getD_cons_zero, List.getD_cons_succ]
              iterate 28 ((with_reducible refine wpRead_step (fun K hK => ?_)); go_simp; first | (rw [if_neg (by decide)]; (with_reducible refine hK _ ?_); clear hK K) | ((with_reducible refine hK _ ?_); clear hK K) | (apply Exists.intro; (with_reducible refine ⟨fun w' hw' => ?_, hK _ ?_⟩); (subst hw'; go_simp; first | exact rfl | exact ⟨rfl, rfl⟩); clear hK K))
              with_reducible refine wpRead_nil ?_
              refine wpAnyH_done (by kernel_rfl) ?_ _
              have g1b : (y.id == x.id) = false := by simpa using g1
              have g2b : (y.r == x.r) = true := by simpa using g2
              simp only [g1b, g2b]
              go_wp2_with fail
              exact ⟨⟨k + 1, hkt, by first | rw [hwk] | rw [Int.natCast_succ], fun j hj => by
                rcases Nat.lt_succ_iff_lt_or_eq.1 hj with h | rfl
                · exact HN.out j h
                · rw [F3.out.2.2]; exact HNN.out, F3.out.1, F3.out.2.1⟩, by first | (rw [hwk]; exact mSucc hkt) | (rw [← Int.natCast_succ]; exact mSucc hkt)⟩
          · obtain rfl : i = k := by omega
            have hki : ((i : Int) < (i : Int)) = False := by simp
            have F3 := Lib.hid hb
            have hgs : GoodTo l (i + 1) := by
              refine ⟨fun j hj => ?_, fun k j hkj hj => ?_, fun k j hkj hj => ?_⟩
              · rcases Nat.lt_succ_iff_lt_or_eq.1 hj with h | rfl
                · exact HG.out.ok j h
                · rw [HX.out]; exact HO.out
              · rcases Nat.lt_succ_iff_lt_or_eq.1 hj with h | rfl
                · exact HG.out.ids k j hkj h
                · rw [HX.out]; exact (HN.out k hkj).1
              · rcases Nat.lt_succ_iff_lt_or_eq.1 hj with h | rfl
                · exact HG.out.nets k j hkj h
                · rw [HX.out]; exact (HN.out k hkj).2
            have HGS := Lib.hid hgs
            clear hb hxs hgs
            go_wp2_with fail
            exact ⟨⟨i + 1, hlt, by first | rw [hw3] | rw [Int.natCast_succ], HGS.out, F3.out⟩, by first | (rw [hw3]; exact mSucc hlt) | (rw [← Int.natCast_succ]; exact mSucc hlt)⟩
    · obtain rfl : n = i := by omega
      have hil : ((n : Int) < (n : Int)) = False := by simp
      have F1 := Lib.hid hb
      clear hb
      have hgd : n ≤ 256 → Good l := fun h => by have := HG.out; rw [HL.out] at this; exact this.good (by rw [← HL.out]; exact h)
      have HGD := Lib.hid hgd
      clear hgd
      by_cases h256 : n ≤ 256
      · have h2 : ((n : Int) ≤ 256) = True := by simp; omega
        go_wp2_with fail
        go_ret
        exact ⟨Tells.yes (HGD.out h256), F1.out⟩
      · have h2 : ((n : Int) ≤ 256) = False := by simp; omega
        go_wp2_with fail
        go_ret
        exact ⟨Tells.no, F1.out⟩
end Go.Proofs.Ytlkbaplfffbmkaa
