/- Check. -/
import Derived.Test.YtpjfgfdpngibgaaQae
import Derived.Test.YtpjfgfdpngibgaaQab
import Derived.Test.YtpjfgfdpngibgaaQac
import Derived.Test.YtpjfgfdpngibgaaQaa
import Derived.RangeFuncNested
import Derived.RangeFuncBox
import Derived.RangeFuncBound
import Derived.RangeFuncLeaves
import Derived.OwnWalkIn
import Derived.TacticsInMore
import Derived.OrdersIn
import Derived.TacticsIn
import Derived.Shelf.Abstract
import Derived.LoopNIn
import Derived.LoopIn
import Derived.Shelf.SlLaysF0
import Derived.Test.YtpjfgfdpngibgaaProg
namespace Go.Proofs.Ytpjfgfdpngibgaa
open Go.RowKit

/-- a slice of such -/
structure Nls (w : World) (oa : Option Addr) (n c : Nat) (L : List Nl) : Prop where
  sl : RNl.Sl w oa n c L
  ad : ∀ x ∈ L, x.a < 4294967296
  nil : oa = none → c = 0
  le : n ≤ c
  cap : c ≤ maxLen
theorem Nls.keep {w w' : World} {oa : Option Addr} {n c : Nat} {L : List Nl} (h : Nls w oa n c L) (hb : Below w.heap.size w w') : Nls w' oa n c L := ⟨h.sl.keep hb, h.ad, h.nil, h.le, h.cap⟩
def okL (paths : Bool) (L : List Nl) : Bool := decide (L.length ≤ 1024) && L.all (okN paths)
theorem all_take_s {α : Type} [Inhabited α] (l : List α) (p : α → Bool) (i : Nat) (h : i < l.length) : (l.take (i + 1)).all p = ((l.take i).all p && p (l.getD i default)) := by
  rw [List.take_succ_eq_append_getElem h, List.all_append]
  simp [List.getD_eq_getElem?_getD, h]
def BxB (q : Nat) (b : Bool) (W : World) : Prop := W.heap[q]? = some (.cells #[.bool b] 4)
theorem BxB.cell {q : Nat} {b : Bool} {W : World} (h : BxB q b W) : W.cell? ⟨q, 0, none⟩ = some (.bool b) := cell_of h rfl
theorem BxB.keep {q : Nat} {b : Bool} {W W' : World} (h : BxB q b W) (hb : Below W.heap.size W W') : BxB q b W' := (hb.block _ (lt_of_blk h)).trans h
theorem clo_any {q : Nat} {paths : Bool} {w : World} (hq : BxB q paths w) (n : Nl) (ha : n.a < 4294967296) : Calls Try.prog 37 #[n.v, .pointer (some ⟨q, 0, none⟩)] w fun e w' => e = .returned (.bool (!okN paths n)) ∧ Below w.heap.size w w' := by
  have HO := Lib.hid (odd_any paths n ha)
  have hal := (Below.refl w.heap.size w).alloc (Nat.le_refl _) (.cells #[.int .i64 n.id, .int .u32 (n.a : Int), .int .i64 n.ln] 41)
  have hx : BxN w.heap.size n (w.alloc (.cells #[.int .i64 n.id, .int .u32 (n.a : Int), .int .i64 n.ln] 41)) := hnew _ _
  have F0 := Lib.hid hal
  obtain ⟨c0, c1, c2⟩ := hx.cells
  have c3 := (hq.keep hal).cell
  generalize okN paths n = o at *
  unfold Nl.v at *
  clear hal hx hq
  go_enter Try.func37, Try.ntmps37
  go_wp2_with fail
  refine (HO.out _).mono ?_
  rintro e w1 ⟨rfl, hb⟩
  have F1 := Lib.hid (bcall F0.out (by simp) hb)
  clear hb c0 c1 c2 c3 F0
  go_wp2_with fail
  go_ret
  exact ⟨rfl, F1.out⟩
set_option maxRecDepth 100000 in
set_option maxHeartbeats 1000000 in
theorem nindex_any {w : World} {oa : Option Addr} {n c : Nat} {L : List Nl} (h : Nls w oa n c L) {q : Nat} {paths : Bool} (hq : BxB q paths w) : Calls Try.prog 67 #[.slice oa n c, .func (.func 37) #[] #[.pointer (some ⟨q, 0, none⟩)]] w fun e w' => (∃ k : Int, e = .returned (.int .i64 k) ∧ decide (0 ≤ k) = !(L.all (okN paths))) ∧ Below w.heap.size w w' := by
  have HL := Lib.hid h.sl.len
  have F := Lib.hid (And.intro h hq)
  have hmax := h.sl.max
  clear h hq
  go_enter Try.func67, Try.ntmps67
  go_wp2_with fail
  go_loopw [8] (fun iv wr => ∃ i : Nat, i ≤ n ∧ iv = .int .i64 i ∧ (L.take i).all (okN paths) = true ∧ Below w.heap.size w wr) (fun iv _ => n - (intOf iv).toNat)
  case atStart => exact ⟨0, Nat.zero_le _, rfl, rfl, Below.refl _ _⟩
  case round =>
    obtain ⟨i, hi, rfl, hall, hb⟩ := hrel
    obtain ⟨w2, rfl⟩ : ∃ w2 : World, w2 = wr := ⟨_, rfl⟩
    by_cases hlt : i < n
    · have hil : ((i : Int) < (n : Int)) = True := by simp; omega
      have hw3 := wrapS hlt hmax
      have hlen : L.length = n := HL.out.symm
      obtain ⟨b0, o0, rfl, hbb, hat⟩ := (F.out.1.keep hb).sl.at hlt
      have c0 := hat 0 (by decide)
      have c1 := hat 1 (by decide)
      have c2 := hat 2 (by decide)
      simp only [RNl, Nat.add_zero, List.getElem?_cons_zero, List.getElem?_cons_succ] at c0 c1 c2
      have t1 := all_take_s L (okN paths) i (by omega)
      rw [hall, Bool.true_and] at t1
      have hmem : L.getD i default ∈ L := getD_mem (by omega)
      have hox := clo_any (F.out.2.keep hb) (L.getD i default) (F.out.1.ad _ hmem)
      generalize L.getD i default = y at *
      obtain ⟨bo, hbo⟩ : ∃ bo, okN paths y = bo := ⟨_, rfl⟩
      rw [hbo] at hox t1
      unfold Nl.v at hox
      have HX := Lib.hid hox
      have HB := Lib.hid hb
      have HT := Lib.hid (And.intro t1 (And.intro hmem hbo))
      clear hox hb hat hlen t1 hmem hall hbo
      go_wp2_with fail
      refine (HX.out).mono ?_
      rintro e W3 ⟨rfl, hb3⟩
      have HB3 := Lib.hid (bcall HB.out (Nat.le_refl _) hb3)
      clear hb3 HB c0 c1 c2 HX
      cases bo with
      | true =>
        rw [Bool.not_true]
        go_wp2_with fail
        exact ⟨⟨i + 1, hlt, by first | rw [hw3] | rw [Int.natCast_succ], HT.out.1, HB3.out⟩, by first | (rw [hw3]; exact mSucc hlt) | (rw [← Int.natCast_succ]; exact mSucc hlt)⟩
      | false =>
        rw [Bool.not_false]
        go_wp2_with fail
        go_ret
        have hno : L.all (okN paths) = false := by
          rw [List.all_eq_false]
          exact ⟨_, HT.out.2.1, by simp [HT.out.2.2]⟩
        exact ⟨⟨_, rfl, by rw [hno]; simp⟩, HB3.out⟩
    · obtain rfl : n = i := by omega
      have hil : ((n : Int) < (n : Int)) = False := by simp
      have HB := Lib.hid hb
      have HA := Lib.hid (show L.all (okN paths) = true from by
        have := hall
        rwa [HL.out, List.take_length] at this)
      clear hb hall
      go_wp2_with fail
      go_ret
      exact ⟨⟨_, rfl, by rw [HA.out]; rfl⟩, HB.out⟩
set_option maxRecDepth 100000 in
theorem ncontains_any {w : World} {oa : Option Addr} {n c : Nat} {L : List Nl} (h : Nls w oa n c L) {q : Nat} {paths : Bool} (hq : BxB q paths w) : Calls Try.prog 36 #[.slice oa n c, .func (.func 37) #[] #[.pointer (some ⟨q, 0, none⟩)]] w fun e w' => e = .returned (.bool (!(L.all (okN paths)))) ∧ Below w.heap.size w w' := by
  have HK := Lib.hid (nindex_any h hq)
  clear h hq
  go_enter Try.func36, Try.ntmps36
  go_wp2_with fail
  refine (HK.out).mono ?_
  rintro e w1 ⟨⟨k, rfl, hk⟩, hb⟩
  have HB := Lib.hid (And.intro hk hb)
  clear hk hb
  go_wp2_with fail
  go_ret
  exact ⟨ret_bool (by rw [← HB.out.1]), HB.out.2⟩
set_option maxRecDepth 100000 in
theorem ncheck_any {w : World} {oa : Option Addr} {n c : Nat} {L : List Nl} (h : Nls w oa n c L) (paths : Bool) : Calls Try.prog 13 #[.slice oa n c, .bool paths] w fun e w' => e = .returned (.int .i64 (if okL paths L then 0 else 60)) ∧ Below w.heap.size w w' := by
  have hal := (Below.refl w.heap.size w).alloc (Nat.le_refl _) (.cells #[.bool paths] 4)
  have hq : BxB w.heap.size paths (w.alloc (.cells #[.bool paths] 4)) := hnew _ _
  have HK := Lib.hid (ncontains_any (h.keep hal) hq)
  have HL := Lib.hid h.sl.len
  have HB := Lib.hid hal
  have hcase : (((1024 : Int) < (n : Int)) = True ∧ okL paths L = false) ∨ (((1024 : Int) < (n : Int)) = False ∧ L.all (okN paths) = false ∧ okL paths L = false) ∨ (((1024 : Int) < (n : Int)) = False ∧ L.all (okN paths) = true ∧ okL paths L = true) := by
    have hl := h.sl.len
    unfold okL
    rw [← hl]
    by_cases h1 : (1024 : Int) < n
    · exact .inl ⟨eq_true h1, by simp; omega⟩
    · cases h2 : L.all (okN paths) with
      | false => exact .inr (.inl ⟨eq_false h1, rfl, by simp⟩)
      | true => exact .inr (.inr ⟨eq_false h1, rfl, by simp; omega⟩)
  clear h hal hq
  generalize okL paths L = o at *
  generalize L.all (okN paths) = al at *
  rcases hcase with ⟨h1, rfl⟩ | ⟨h1, rfl, rfl⟩ | ⟨h1, rfl, rfl⟩
  · go_enter Try.func13, Try.ntmps13
    go_wp2_with fail
    go_ret
    exact ⟨rfl, HB.out⟩
  all_goals
    go_enter Try.func13, Try.ntmps13
    go_wp2_with fail
    refine (HK.out).mono ?_
    rintro e w1 ⟨rfl, hb⟩
    have HB2 := Lib.hid (bcall HB.out (by simp) hb)
    clear hb
    go_wp2_with fail
    go_ret
    exact ⟨rfl, HB2.out⟩
set_option maxRecDepth 100000 in
set_option maxHeartbeats 1000000 in
theorem rncheck_any {w : World} {oa : Option Addr} {n c : Nat} {L : List Nl} (h : Nls w oa n c L) (paths : Bool) : Calls Try.prog 12 #[.slice oa n c, .bool paths] w fun e w' => e = .returned (.bool (okL paths L)) ∧ Below w.heap.size w w' := by
  have HL := Lib.hid h.sl.len
  have F := Lib.hid h
  have hmax := h.sl.max
  clear h
  go_enter Try.func12, Try.ntmps12
  go_wp2_with fail
  go_loopw [5] (fun iv wr => ∃ i : Nat, i ≤ n ∧ iv = .int .i64 i ∧ (L.take i).all (okN paths) = true ∧ Below w.heap.size w wr) (fun iv _ => n - (intOf iv).toNat)
  case atStart => exact ⟨0, Nat.zero_le _, rfl, rfl, Below.refl _ _⟩
  case round =>
    obtain ⟨i, hi, rfl, hall, hb⟩ := hrel
    obtain ⟨w2, rfl⟩ : ∃ w2 : World, w2 = wr := ⟨_, rfl⟩
    by_cases hlt : i < n
    · have hil : ((i : Int) < (n : Int)) = True := by simp; omega
      have hw3 := wrapS hlt hmax
      have hlen : L.length = n := HL.out.symm
      obtain ⟨b0, o0, rfl, hbb, hat⟩ := (F.out.keep hb).sl.at hlt
      have c0 := hat 0 (by decide)
      have c1 := hat 1 (by decide)
      have c2 := hat 2 (by decide)
      simp only [RNl, Nat.add_zero, List.getElem?_cons_zero, List.getElem?_cons_succ] at c0 c1 c2
      have t1 := all_take_s L (okN paths) i (by omega)
      rw [hall, Bool.true_and] at t1
      have hmem : L.getD i default ∈ L := getD_mem (by omega)
      have hox := one_any paths (L.getD i default) (F.out.ad _ hmem) w2
      generalize L.getD i default = y at *
      obtain ⟨bo, hbo⟩ : ∃ bo, okN paths y = bo := ⟨_, rfl⟩
      rw [hbo] at hox t1
      unfold Nl.v at hox
      have HX := Lib.hid hox
      have HB := Lib.hid hb
      have HT := Lib.hid (And.intro t1 (And.intro hmem hbo))
      clear hox hb hat hlen t1 hmem hall hbo
      go_wp2_with fail
      refine (HX.out).mono ?_
      rintro e W3 ⟨rfl, hb3⟩
      have HB3 := Lib.hid (bcall HB.out (Nat.le_refl _) hb3)
      clear hb3 HB c0 c1 c2 HX
      cases bo with
      | true =>
        go_wp2_with fail
        exact ⟨⟨i + 1, hlt, by first | rw [hw3] | rw [Int.natCast_succ], HT.out.1, HB3.out⟩, by first | (rw [hw3]; exact mSucc hlt) | (rw [← Int.natCast_succ]; exact mSucc hlt)⟩
      | false =>
        go_wp2_with fail
        go_ret
        have hno : L.all (okN paths) = false := by
          rw [List.all_eq_false]
          exact ⟨_, HT.out.2.1, by simp [HT.out.2.2]⟩
        exact ⟨by unfold okL; rw [hno]; simp, HB3.out⟩
    · obtain rfl : n = i := by omega
      have hil : ((n : Int) < (n : Int)) = False := by simp
      have HB := Lib.hid hb
      have HA := Lib.hid (show L.all (okN paths) = true from by
        have := hall
        rwa [HL.out, List.take_length] at this)
      clear hb hall
      go_wp2_with fail
      go_ret
      exact ⟨by unfold okL; rw [HA.out, ← HL.out, Bool.and_true]; exact ret_bool (by rw [Bool.eq_iff_iff, decide_eq_true_eq, decide_eq_true_eq]; omega), HB.out⟩
end Go.Proofs.Ytpjfgfdpngibgaa
/- The unlike ones of a list, as a map's keys are laid. -/
namespace Go.Proofs.Ytpjfgfdpngibgaa
section
variable {κ : Type} [DecidableEq κ]
def addK (S : List κ) (x : κ) : List κ := if x ∈ S then S else S ++ [x]
def keysOf (L : List κ) : List κ := L.foldl addK []
theorem keysOf_snoc (L : List κ) (x : κ) : keysOf (L ++ [x]) = addK (keysOf L) x := by unfold keysOf; rw [List.foldl_append]; rfl
theorem keysOf_succ {α : Type} [Inhabited α] (f : α → κ) {L : List α} {i : Nat} (h : i < L.length) : keysOf ((L.take (i + 1)).map f) = addK (keysOf ((L.take i).map f)) (f (L.getD i default)) := by
  rw [List.take_succ_eq_append_getElem h, List.map_append, List.map_singleton, keysOf_snoc]
  simp [List.getD_eq_getElem?_getD, h]
omit [DecidableEq κ] in
theorem snoc_list {P : List κ → Prop} (h0 : P []) (h1 : ∀ L x, P L → P (L ++ [x])) : ∀ L, P L := by
  intro L
  have : ∀ n (L : List κ), L.length = n → P L := by
    intro n
    induction n with
    | zero => intro L h; rw [List.length_eq_zero_iff.1 h]; exact h0
    | succ n ih =>
      intro L h
      have hne : L ≠ [] := by rintro rfl; simp at h
      rw [← List.dropLast_concat_getLast hne]
      exact h1 _ _ (ih _ (by simp; omega))
  exact this _ _ rfl
theorem keysOf_mem : ∀ (L : List κ) (y : κ), y ∈ keysOf L ↔ y ∈ L := by
  refine snoc_list (fun y => Iff.rfl) fun L x ih y => ?_
  rw [keysOf_snoc]
  unfold addK
  split
  · rename_i h
    rw [ih, List.mem_append, List.mem_singleton]
    refine ⟨.inl, ?_⟩
    rintro (h1 | rfl)
    · exact h1
    · exact (ih _).1 h
  · rw [List.mem_append, List.mem_append, ih]
theorem keysOf_len : ∀ L : List κ, (L.Nodup → (keysOf L).length = L.length) ∧ (¬ L.Nodup → (keysOf L).length < L.length) ∧ (keysOf L).length ≤ L.length := by
  refine snoc_list ⟨fun _ => rfl, fun h => absurd List.nodup_nil h, Nat.le_refl _⟩ fun L x ih => ?_
  obtain ⟨h1, h2, h3⟩ := ih
  rw [keysOf_snoc]
  unfold addK
  by_cases hx : x ∈ keysOf L
  · rw [if_pos hx]
    have hm := (keysOf_mem L x).1 hx
    refine ⟨fun h => ?_, fun _ => by simp; omega, by simp; omega⟩
    rw [List.nodup_append] at h
    exact absurd rfl (h.2.2 x hm x (by simp))
  · rw [if_neg hx]
    have hm : x ∉ L := fun h => hx ((keysOf_mem L x).2 h)
    refine ⟨fun h => ?_, fun h => ?_, by simp; omega⟩
    · rw [List.nodup_append] at h
      simp [h1 h.1]
    · have : ¬ L.Nodup := fun hn => h (by rw [List.nodup_append]; exact ⟨hn, by simp, fun a ha b hb => by simp at hb; subst hb; rintro rfl; exact hm ha⟩)
      simp
      exact h2 this
theorem put_keysOf {l : List (MR.Ent κ)} {x : κ} (v : Value) (c : Nat) : (MR.put l x v c).map (·.1) = addK (l.map (·.1)) x := by
  unfold MR.put addK
  split
  · rw [List.map_map]
    refine List.map_congr_left fun e _ => ?_
    simp only [Function.comp]
    split
    · rename_i h; exact h.symm
    · rfl
  · simp

omit [DecidableEq κ] in
theorem nodup_get {α : Type} [Inhabited α] {f : α → κ} {L : List α} : (L.map f).Nodup ↔ ∀ k i, k < i → i < L.length → f (L.getD k default) ≠ f (L.getD i default) := by
  rw [List.nodup_iff_pairwise_ne, List.pairwise_iff_getElem]
  constructor
  · intro h k i hk hi
    have := h k i (by simp; omega) (by simpa using hi) hk
    simpa [List.getD_eq_getElem?_getD, List.getElem?_eq_getElem hi, List.getElem?_eq_getElem (show k < L.length by omega)] using this
  · intro h k i hk hi hki
    have hi' : i < L.length := by simpa using hi
    have := h k i hki hi'
    simpa [List.getD_eq_getElem?_getD, List.getElem?_eq_getElem hi', List.getElem?_eq_getElem (show k < L.length by omega)] using this
end
end Go.Proofs.Ytpjfgfdpngibgaa
/- Maps by prefixes that are told. -/
namespace Go.Proofs.Ytpjfgfdpngibgaa
open Go.RowKit
open Go.ChangeMaps (setBlock)

theorem laidOut : laidOutB Try.prog = true := by kernel_rfl
theorem rowN : (41 : TypeId) < Try.prog.types.size := of_decide_eq_true (by kernel_rfl)
theorem wideN : (match Try.prog.underlying 41 with | some (.array _ _) | some (.struct _) => true | _ => false) = true := by kernel_rfl
set_option maxRecDepth 100000 in
theorem lawN : WideMaps.KeyLaw Try.prog 41 := deep_law_laid laidOut (m := 3) (by omega) rowN (by kernel_rfl) wideN
theorem keyN : Try.prog.keyType 41 = true := by kernel_rfl
theorem sizeT : Try.prog.types.size + 1 = 219 + 1 + 1 + 1 := by kernel_rfl
theorem cellsN : Try.prog.cellsOf 41 = 3 := by kernel_rfl
theorem cellsP : Try.prog.cellsOf 39 = 2 := by kernel_rfl
theorem cells3 : Try.prog.cellsOf 3 = 1 := by kernel_rfl
theorem cellsU : Try.prog.cellsOf 37 = 1 := by kernel_rfl
def Nl.wf (n : Nl) : Prop := (Lit.int .u32 (n.a : Int)).wf = true ∧ (Lit.int .i64 n.id).wf = true ∧ (Lit.int .i64 n.ln).wf = true
theorem Nl.reads (n : Nl) (h : Nl.wf n) : ∃ l, keyOf Try.prog 41 n.v = some l := by
  obtain ⟨h2, h1, h3⟩ := h
  have hf : (n.v).formed Try.prog 41 = true := by simp [Value.formed, Try.underlying41, Nl.v, cellsN]
  have i1 : ∀ d n, (Lit.int .i64 n).wf = true → Try.prog.keyLits (d + 1) 3 [.int .i64 n] = some [.int .i64 n] := by
    intro d n h; simp [Program.keyLits, Try.underlying3, h]
  have i2 : ∀ d n, (Lit.int .u32 n).wf = true → Try.prog.keyLits (d + 1) 37 [.int .u32 n] = some [.int .u32 n] := by
    intro d n h; simp [Program.keyLits, Try.underlying37, h]
  have i3 : ∀ d, Try.prog.keyLits (d + 1 + 1) 39 [.int .u32 (n.a : Int), .int .i64 n.ln] = some [.int .u32 (n.a : Int), .int .i64 n.ln] := by
    intro d; unfold Program.keyLits; simp [Try.underlying39, cellsP, cells3, cellsU, i1 d _ h3, i2 d _ h2]
  have i4 : ∀ d, Try.prog.keyLits (d + 1 + 1 + 1) 41 [.int .i64 n.id, .int .u32 (n.a : Int), .int .i64 n.ln] = some [.int .i64 n.id, .int .u32 (n.a : Int), .int .i64 n.ln] := by
    intro d; unfold Program.keyLits; simp [Try.underlying41, cellsN, cellsP, cells3, i1 (d + 1) _ h1, i3 d]
  unfold keyOf
  simp only [Try.underlying41]
  rw [keyN, hf, sizeT]
  have := i4 219
  simp only [Nl.v, Value.cells, this]
  exact ⟨_, rfl⟩
def NN : MR.Enc Try.prog 41 Nl where
  enc := Nl.v
  ok := Nl.wf
  law := Maps.Keyed.of_law lawN
  reads := Nl.reads
  inj a b h := by
    obtain ⟨a1, a2, a3⟩ := a
    obtain ⟨b1, b2, b3⟩ := b
    simp [Nl.v] at h
    rw [Nl.mk.injEq]
    exact ⟨h.1, by omega, h.2.2⟩
end Go.Proofs.Ytpjfgfdpngibgaa
/- A range over a function whose body always goes on, over an iterator that may write variables of its own. -/
namespace Go.Proofs.Ytpjfgfdpngibgaa
open Go Go.RowKit

section
variable {P : Program}
/-- the two blocks of a loop's own -/
structure LoopAt (l D : Nat) (r : Loop) (W : World) : Prop where
  loop : W.heap[l]? = some (.loop r)
  defd : W.heap[D]? = some (.deferred (some []))
theorem LoopAt.from {l D B : Nat} {r : Loop} {W W' : World} (h : LoopAt l D r W) (hl : B ≤ l) (hD : B ≤ D) (hk : KeepsFrom B W W') : LoopAt l D r W' := ⟨hk.same _ _ hl h.loop rfl, hk.same _ _ hD h.defd rfl⟩
theorem range_on {g : Operand} {ps : Array Tmp} {assign body : Code} {Q : Exit → Act → World → Prop} {a : Act} {w : World} {n gf : Nat} {lb : Array Value}
    (hg : a.eval g = .func (.func gf) #[] lb) (eg : ∀ args w, (callFunc gf args).run P w = .ok (.enter gf args) w) (encs : Nat → Array Value) (hps : ∀ i, (encs i).size = ps.size)
    (J J' : Nat → World → Prop) (E : World → Prop)
    (hput : ∀ W l o o', w.heap.size ≤ l → W.heap[l]? = some o → o.isCells = false → (∀ i, J i W → J i (W.putObj l o')) ∧ (∀ i, J' i W → J' i (W.putObj l o')) ∧ (E W → E (W.putObj l o')))
    (a₁ : Nat → Act)
    (hassign : ∀ (l i : Nat) (W : World) (K : Act → World → Prop), K (a₁ i) W → assign.wpIn (Fence.wide.inRound l) n P (Exit.then K (fun _ _ _ => False)) { tmps := (ps.zip (encs i)).foldl (fun t (p, v) => t.setIfInBounds p v) a.tmps, defers := [] } W)
    (hbody : ∀ (l i : Nat) (W : World), w.heap.size ≤ l → J i W → body.wpIn (Fence.wide.inRound l) n P (fun e _ W' => e = .normal ∧ KeepsFrom w.heap.size W W' ∧ J' i W') (a₁ i) W)
    (hiter : ∀ (l D : Nat) (r : Loop) (W1 : World), w.heap.size ≤ l → w.heap.size ≤ D → Below w.heap.size w W1 → LoopAt l D r W1 →
      (∀ i W, J i W → LoopAt l D r W → YieldAt Fence.wide n P l (encs i) W fun e W' => e = .returned (.bool true) ∧ J' i W' ∧ LoopAt l D r W') →
      Calls P gf (#[.func (.yield l) #[] #[]] ++ lb) W1 fun e W' => (∃ v, e = .returned v) ∧ E W' ∧ LoopAt l D r W')
    (hdone : ∀ D W, w.heap.size ≤ D → E W → W.heap[D]? = some (.deferred (some [])) → Q .normal { a with defers := { target := .collected D, args := #[] } :: a.defers } W) :
    (Code.rangeFunc g ps assign body).wpIn Fence.wide n P Q a w := by
  refine wpIn_rangeFunc fun fn hfn => ?_
  obtain ⟨r, hr⟩ : ∃ r : Loop, r = { state := .ready, pending := none, fn, tmps := a.tmps, params := ps, assign, body, defers := w.heap.size } := ⟨_, rfl⟩
  have hbel : Below w.heap.size w ((w.alloc (.deferred (some []))).alloc (.loop r)) := ((Below.refl w.heap.size w).alloc (Nat.le_refl _) _).alloc (by simp) _
  have hlp : LoopAt (w.heap.size + 1) w.heap.size r ((w.alloc (.deferred (some []))).alloc (.loop r)) := ⟨hnewAt (Array.size_push _).symm, hold (hnew _ _)⟩
  refine ⟨w.heap.size + 1, [{ target := .collected w.heap.size, args := #[] }], (w.alloc (.deferred (some []))).alloc (.loop r), { target := .fn (.func gf) lb, args := #[.func (.yield (w.heap.size + 1)) #[] #[]] }, (w.alloc (.deferred (some []))).alloc (.loop r), gf, #[.func (.yield (w.heap.size + 1)) #[] #[]] ++ lb, (w.alloc (.deferred (some []))).alloc (.loop r), ?_, ?_, ?_, ?_, fun h => (by cases h), ?_⟩
  · rw [hr]; exact run_enterLoop_outer _ _ _ _ _
  · simp only [resolve, hg]; simp [go_sem]
  · intro _ _; trivial
  · simp [invoke, go_sem, eg]
  · refine callsIn_wide.2 ((hiter (w.heap.size + 1) w.heap.size r _ (by omega) (Nat.le_refl _) hbel hlp ?_).mono ?_)
    · intro i W hJ hL
      have hlt : w.heap.size + 1 < W.heap.size := lt_of_blk hL.loop
      have hy := run_yield (P := P) (args := encs i) hL.loop (by rw [hr]; exact hps i)
      rw [hr] at hy
      refine ⟨fn, _, assign, body, hy, roundIn_of_wpIn trivial (hassign _ i W _ ⟨_, run_beginRound hL.loop (by rw [hr]), ?_⟩)⟩
      have hl2 : (W.putObj (w.heap.size + 1) (.loop { r with state := .busy })).heap[w.heap.size + 1]? = some (.loop { r with state := .busy }) := World.putObj_heap_same hlt
      have hd2 : (W.putObj (w.heap.size + 1) (.loop { r with state := .busy })).heap[w.heap.size]? = some (.deferred (some [])) := (World.putObj_heap_other (by omega)).trans hL.defd
      refine wpIn_mono (hbody _ i _ (by omega) ((hput W _ _ _ (by omega) hL.loop rfl).1 i hJ)) ?_
      rintro e a3 W3 ⟨rfl, hk, hJ'⟩
      have hl3 := hk.same _ _ (by omega) hl2 rfl
      have hd3 := hk.same _ _ (Nat.le_refl _) hd2 rfl
      have hend := run_endRound (P := P) none hl3
      refine ⟨_, _, hend, rfl, (hput W3 _ _ _ (by omega) hl3 rfl).2.1 i hJ', ?_, (World.putObj_heap_other (by omega)).trans hd3⟩
      rw [World.putObj_heap_same (lt_of_blk hl3), hr]
      rfl
    · rintro e W2 ⟨⟨v, rfl⟩, hE, hL⟩
      have hend := run_endLoop (P := P) hL.loop (by rw [hr]; simp)
      rw [hr] at hend
      exact ⟨none, _, hend, hdone _ _ (Nat.le_refl _) ((hput W2 _ _ _ (by omega) hL.loop rfl).2.2 hE) ((World.putObj_heap_other (by omega)).trans hL.defd)⟩
end
end Go.Proofs.Ytpjfgfdpngibgaa
/- A range over a function, as in Rf; what is yielded is named by things of any type. -/
namespace Go.Proofs.Ytpjfgfdpngibgaa
open Go Go.RowKit

section
variable {P : Program}
theorem range_any {ι : Type} {g : Operand} {ps : Array Tmp} {assign body : Code} {Q : Exit → Act → World → Prop} {a : Act} {w : World} {n gf : Nat} {lb : Array Value}
    (hg : a.eval g = .func (.func gf) #[] lb) (eg : ∀ args w, (callFunc gf args).run P w = .ok (.enter gf args) w) (encs : ι → Array Value) (hps : ∀ i, (encs i).size = ps.size)
    (J J' : ι → World → Prop) (J2 : ι → Act → World → Prop) (E : World → Prop)
    (hput : ∀ W l r o', w.heap.size ≤ l → W.heap[l]? = some (.loop r) → (∀ i a, J2 i a W → J2 i a (W.putObj l o')) ∧ (∀ i, J' i W → J' i (W.putObj l o')) ∧ (E W → E (W.putObj l o')))
    (hassign : ∀ (l : Nat) (i : ι) (W : World) (K : Act → World → Prop), w.heap.size ≤ l → J i W → (∀ a₁ W', J2 i a₁ W' → Below W.heap.size W W' → K a₁ W') → assign.wpIn (Fence.wide.inRound l) n P (Exit.then K (fun _ _ _ => False)) { tmps := (ps.zip (encs i)).foldl (fun t (p, v) => t.setIfInBounds p v) a.tmps, defers := [] } W)
    (hbody : ∀ (l : Nat) (i : ι) (a₁ : Act) (W : World), w.heap.size ≤ l → J2 i a₁ W → body.wpIn (Fence.wide.inRound l) n P (fun e _ W' => e = .normal ∧ KeepsFrom w.heap.size W W' ∧ J' i W') a₁ W)
    (hiter : ∀ (l D : Nat) (r : Loop) (W1 : World), w.heap.size ≤ l → w.heap.size ≤ D → Below w.heap.size w W1 → LoopAt l D r W1 →
      (∀ i W, J i W → LoopAt l D r W → YieldAt Fence.wide n P l (encs i) W fun e W' => e = .returned (.bool true) ∧ J' i W' ∧ LoopAt l D r W') →
      Calls P gf (#[.func (.yield l) #[] #[]] ++ lb) W1 fun e W' => (∃ v, e = .returned v) ∧ E W' ∧ LoopAt l D r W')
    (hdone : ∀ D W, w.heap.size ≤ D → E W → W.heap[D]? = some (.deferred (some [])) → Q .normal { a with defers := { target := .collected D, args := #[] } :: a.defers } W) :
    (Code.rangeFunc g ps assign body).wpIn Fence.wide n P Q a w := by
  refine wpIn_rangeFunc fun fn hfn => ?_
  obtain ⟨r, hr⟩ : ∃ r : Loop, r = { state := .ready, pending := none, fn, tmps := a.tmps, params := ps, assign, body, defers := w.heap.size } := ⟨_, rfl⟩
  have hbel : Below w.heap.size w ((w.alloc (.deferred (some []))).alloc (.loop r)) := ((Below.refl w.heap.size w).alloc (Nat.le_refl _) _).alloc (by simp) _
  have hlp : LoopAt (w.heap.size + 1) w.heap.size r ((w.alloc (.deferred (some []))).alloc (.loop r)) := ⟨hnewAt (Array.size_push _).symm, hold (hnew _ _)⟩
  refine ⟨w.heap.size + 1, [{ target := .collected w.heap.size, args := #[] }], (w.alloc (.deferred (some []))).alloc (.loop r), { target := .fn (.func gf) lb, args := #[.func (.yield (w.heap.size + 1)) #[] #[]] }, (w.alloc (.deferred (some []))).alloc (.loop r), gf, #[.func (.yield (w.heap.size + 1)) #[] #[]] ++ lb, (w.alloc (.deferred (some []))).alloc (.loop r), ?_, ?_, ?_, ?_, fun h => (by cases h), ?_⟩
  · rw [hr]; exact run_enterLoop_outer _ _ _ _ _
  · simp only [resolve, hg]; simp [go_sem]
  · intro _ _; trivial
  · simp [invoke, go_sem, eg]
  · refine callsIn_wide.2 ((hiter (w.heap.size + 1) w.heap.size r _ (by omega) (Nat.le_refl _) hbel hlp ?_).mono ?_)
    · intro i W0 hJ hL0
      have hy := run_yield (P := P) (args := encs i) hL0.loop (by rw [hr]; exact hps i)
      rw [hr] at hy
      refine ⟨fn, _, assign, body, hy, roundIn_of_wpIn trivial (hassign _ i W0 _ (by omega) hJ fun a₁ W hJ2 hbW => ?_)⟩
      have hL : LoopAt (w.heap.size + 1) w.heap.size r W := ⟨(hbW.block _ (lt_of_blk hL0.loop)).trans hL0.loop, (hbW.block _ (lt_of_blk hL0.defd)).trans hL0.defd⟩
      have hlt : w.heap.size + 1 < W.heap.size := lt_of_blk hL.loop
      refine ⟨_, run_beginRound hL.loop (by rw [hr]), ?_⟩
      have hl2 : (W.putObj (w.heap.size + 1) (.loop { r with state := .busy })).heap[w.heap.size + 1]? = some (.loop { r with state := .busy }) := World.putObj_heap_same hlt
      have hd2 : (W.putObj (w.heap.size + 1) (.loop { r with state := .busy })).heap[w.heap.size]? = some (.deferred (some [])) := (World.putObj_heap_other (by omega)).trans hL.defd
      refine wpIn_mono (hbody _ i a₁ _ (by omega) ((hput W _ _ _ (by omega) hL.loop).1 i a₁ hJ2)) ?_
      rintro e a3 W3 ⟨rfl, hk, hJ'⟩
      have hl3 := hk.same _ _ (by omega) hl2 rfl
      have hd3 := hk.same _ _ (Nat.le_refl _) hd2 rfl
      have hend := run_endRound (P := P) none hl3
      refine ⟨_, _, hend, rfl, (hput W3 _ _ _ (by omega) hl3).2.1 i hJ', ?_, (World.putObj_heap_other (by omega)).trans hd3⟩
      rw [World.putObj_heap_same (lt_of_blk hl3), hr]
      rfl
    · rintro e W2 ⟨⟨v, rfl⟩, hE, hL⟩
      have hend := run_endLoop (P := P) hL.loop (by rw [hr]; simp)
      rw [hr] at hend
      exact ⟨none, _, hend, hdone _ _ (Nat.le_refl _) ((hput W2 _ _ _ (by omega) hL.loop).2.2 hE) ((World.putObj_heap_other (by omega)).trans hL.defd)⟩
end
end Go.Proofs.Ytpjfgfdpngibgaa
/- A struct stored whole, inside a fence; the walk stops ahead of it. -/
namespace Go.Proofs.Ytpjfgfdpngibgaa
open Go Go.RowKit
section
variable {F : Fence} {n : Nat} {P : Program} {ops : Array Oper} {rest : List Oper} {o : Oper} {a : Act} {Q : Exit → Act → World → Prop} {w : World}
theorem halt_storeIn (ty : TypeId) {x y : Operand} (_ho : o.op = .store ty x y) (h : Halted (wpListIn F n P ops Q (o :: rest) a w)) : wpListIn F n P ops Q (o :: rest) a w := h
theorem haltIn (h : Halted (wpListIn F n P ops Q (o :: rest) a w)) : wpListIn F n P ops Q (o :: rest) a w := h
theorem store_wholeIn (hgd : o.guard = none) (ty : TypeId) (x y : Operand) (ho : o.op = .store ty x y) (b : Nat) (cells : Array Value) (hx : a.eval x = .pointer (some ⟨b, 0, none⟩)) (hy : a.eval y = .agg cells)
    {cur : Array Value} {T : TypeId} (hb : w.heap[b]? = some (.cells cur T (0, 0))) (hs : cur.size = cells.size) (hi : (P.info? ty).map (·.size) = some cells.size) (h1 : cells.all (·.oneCell') = true)
    (h : ∀ w1, w1.heap[b]? = some (.cells cells T (0, 0)) → SetB w w1 b (.cells cells T (0, 0)) → wpListIn F n P ops Q rest (a.put o.dst undef) w1) : wpListIn F n P ops Q (o :: rest) a w :=
  wpListIn_plain hgd fun K hK => by
    obtain ⟨w1, e1, e2, e3⟩ := run_store_whole (P := P) (w := w) hb hs hi h1
    have hk := hK _ _ (h w1 e2 e3)
    unfold Oper.wpIn
    refine ⟨?_, ?_⟩
    · simp [Oper.about, ho]
    · rw [Oper.semAt_plain F _ _ (by rw [ho]; intro c hc'; cases hc')]
      unfold execOp
      simp only [ho, hx, hy, Sem.run_bind, e1, Sem.run_pure, Result.andThen_ok]
      exact hk
end
end Go.Proofs.Ytpjfgfdpngibgaa
/- A region that draws its order, inside a fence: one that comes up alone, two that come up together. -/
namespace Go.Proofs.Ytpjfgfdpngibgaa
open Go Go.RowKit

section
variable {F : Fence} {n : Nat} {P : Program} {ops : Array Oper} {md : Region.Mode}
theorem wpIn_then {o : Oper} {a : Act} {w : World} {K K0 : Act → World → Prop} {Q : Exit → Act → World → Prop} (h : o.wpIn F n P a w K (Exit.then K0 Q)) : o.wpIn F n P a w K Q := by
  unfold Oper.wpIn at *
  refine ⟨h.1, ?_⟩
  have h := h.2
  generalize (o.semAt F.round a.eval).run P w = r at *
  cases r with
  | ok x w' =>
    cases x <;> simp only [Oper.uponIn] at h ⊢ <;>
      first
        | exact h
        | exact ⟨h.1, CallsIn.mono h.2 (fun e w'' he => by cases e <;> first | exact he | exact (let ⟨a, w, h⟩ := he; ⟨a, w, h⟩))⟩
        | exact ⟨h.1, RoundIn.mono h.2 (fun e w'' he => by cases e <;> first | exact he | exact (let ⟨a, w, h⟩ := he; ⟨a, w, h⟩))⟩
  | halt x w' => cases x <;> simp only [Oper.uponIn] at h ⊢ <;> exact h
theorem inOp {Q : Exit → Act → World → Prop} {g : Nat} {i : Nat} {l0 : Array Bool} {a : Act} {w : World} (hi : i ∈ Region.ready md ops l0)
    (h : wpListIn F n P ops (Exit.then (wpAnyIn F n P md ops Q g (l0.setIfInBounds i true)) Q) (pick ops.toList [i]) a w) : wpOpIn F n P ops Q i (wpAnyIn F n P md ops Q g (l0.setIfInBounds i true)) a w := by
  obtain ⟨o, ho⟩ := ready_lt hi
  have hp : pick ops.toList [i] = [o] := by simp [pick, List.getD_eq_getElem?_getD, ho]
  rw [hp] at h
  unfold wpOpIn
  simp only [ho]
  unfold wpListIn at h
  by_cases hw : Region.wanted o (yielded ops a.tmps) = true
  · rw [if_pos hw] at h ⊢
    exact wpIn_then (Oper.wpIn_mono (fun a' w' h' => h') h)
  · rw [if_neg hw] at h ⊢
    exact ⟨h.1, h.2⟩
theorem inAny_one {Q : Exit → Act → World → Prop} {g : Nat} (i : Nat) {l0 : Array Bool} {a : Act} {w : World} (hB : decide (Region.ready md ops l0 = [i]) = true)
    (h : wpListIn F n P ops (Exit.then (wpAnyIn F n P md ops Q g (l0.setIfInBounds i true)) Q) (pick ops.toList [i]) a w) : wpAnyIn F n P md ops Q (g + 1) l0 a w := by
  have hr : Region.ready md ops l0 = [i] := by simpa using hB
  refine wpAnyIn_all hr (by simp) fun j hj => ?_
  obtain rfl : j = i := by simpa using hj
  exact inOp (by rw [hr]; simp) h
theorem inAny_two {Q : Exit → Act → World → Prop} {g : Nat} (i j : Nat) {l0 : Array Bool} {a : Act} {w : World} (hB : decide (Region.ready md ops l0 = [i, j]) = true)
    (h1 : wpListIn F n P ops (Exit.then (wpAnyIn F n P md ops Q g (l0.setIfInBounds i true)) Q) (pick ops.toList [i]) a w)
    (h2 : wpListIn F n P ops (Exit.then (wpAnyIn F n P md ops Q g (l0.setIfInBounds j true)) Q) (pick ops.toList [j]) a w) : wpAnyIn F n P md ops Q (g + 1) l0 a w := by
  have hr : Region.ready md ops l0 = [i, j] := by simpa using hB
  refine wpAnyIn_all hr (by simp) fun k hk => ?_
  simp only [List.mem_cons, List.not_mem_nil, or_false] at hk
  rcases hk with rfl | rfl
  · exact inOp (by rw [hr]; simp) h1
  · exact inOp (by rw [hr]; simp) h2
theorem wpIn_region_pieces {id : Nat} {Q : Exit → Act → World → Prop} {a : Act} {w : World} {l : List Oper} (hm : P.follows .mixedOrders = true)
    (h : wpAnyIn F n P .any l.toArray Q l.length (Array.replicate l.length false) a w.drew) : (Code.region id l.toArray true).wpIn F n P Q a w := by
  refine wpIn_region_any hm ?_
  simpa using h
end
end Go.Proofs.Ytpjfgfdpngibgaa
/- maps.Keys; its iterator. -/
namespace Go.Proofs.Ytpjfgfdpngibgaa
open Go.RowKit Go.Shelf
attribute [local go_sem] Oper.semAt_some

theorem keys_any (b : Nat) (w : World) : Calls Try.prog 50 #[.map (some b)] w fun e w' => e = .returned (.func (.func 80) #[] #[.pointer (some ⟨w.heap.size, 0, none⟩)]) ∧ w' = w.alloc (.cells #[.map (some b)] 86) := by
  go_enter Try.func50, Try.ntmps50
  go_wp2_with fail
  go_ret
  exact ⟨rfl, rfl⟩
end Go.Proofs.Ytpjfgfdpngibgaa
/- The iterator of a map's keys. -/
namespace Go.Proofs.Ytpjfgfdpngibgaa
open Go.RowKit Go.Shelf
attribute [local go_sem] Oper.semAt_some

structure ItS (bm qk clk : Nat) (es : List (MR.Ent Nl)) (q : Nat) (seen : Array Nat) (W : World) : Prop where
  it : W.heap[q]? = some (.mapIter (some bm) clk seen clk)
  mp : MR.MapAt NN W bm es clk
  bx : W.heap[qk]? = some (.cells #[.map (some bm)] 86)
theorem ItS.keep {bm qk clk : Nat} {es : List (MR.Ent Nl)} {q : Nat} {seen : Array Nat} {W W' : World} (h : ItS bm qk clk es q seen W) (hb : Below W.heap.size W W') : ItS bm qk clk es q seen W' :=
  ⟨(hb.block _ (lt_of_blk h.it)).trans h.it, h.mp.blk_iff NN (hb.block _ (lt_of_blk h.mp.blk)), (hb.block _ (lt_of_blk h.bx)).trans h.bx⟩
theorem Ran_len {κ : Type} {l done : List (MR.Ent κ)} {seen : Array Nat} (h : MR.Ran l seen done) (hb : (l.map (·.2.2)).Nodup) : done.length ≤ l.length ∧ seen.size = done.length := by
  refine ⟨?_, by have := congrArg List.length h.seen; simpa using this⟩
  have h1 : done.length ≤ (l.filter fun e => decide (e.2.2 ∈ done.map (·.2.2))).length := by
    have hp : done.Perm (l.filter fun e => decide (e.2.2 ∈ done.map (·.2.2))) := by
      rw [List.perm_ext_iff_of_nodup (MR.nodup_of_map h.nodup) ((MR.nodup_of_map hb).filter _)]
      intro e
      rw [List.mem_filter, decide_eq_true_eq]
      constructor
      · intro he; exact ⟨h.sub e he, List.mem_map.2 ⟨e, he, rfl⟩⟩
      · rintro ⟨h1, h2⟩
        obtain ⟨x, hx, hxe⟩ := List.mem_map.1 h2
        rw [← MR.inj_of_nodup hb (h.sub x hx) h1 hxe]
        exact hx
    exact Nat.le_of_eq hp.length_eq
  exact Nat.le_trans h1 (List.length_filter_le _ _)
theorem LoopAt.below {l D : Nat} {r : Loop} {W W' : World} (h : LoopAt l D r W) (hb : Below W.heap.size W W') : LoopAt l D r W' := ⟨(hb.block _ (lt_of_blk h.loop)).trans h.loop, (hb.block _ (lt_of_blk h.defd)).trans h.defd⟩
set_option maxRecDepth 100000 in
set_option maxHeartbeats 4000000 in
theorem keys_iter {j : Nat} (l D : Nat) (r : Loop) (bm qk clk : Nat) (es : List (MR.Ent Nl)) (U : List Nl → World → Prop) (W1 : World)
    (hUb : ∀ d W W', U d W → Below W.heap.size W W' → U d W')
    (hUs : ∀ d W W' q o m c s z, U d W → W1.heap.size ≤ q → W.heap[q]? = some (.mapIter m c s z) → SetB W W' q o → U d W')
    (hlD : l < W1.heap.size ∧ D < W1.heap.size) (hm : MR.MapAt NN W1 bm es clk) (hx : W1.heap[qk]? = some (.cells #[.map (some bm)] 86)) (hu : U [] W1) (hL : LoopAt l D r W1)
    (hY : ∀ q seen done (e : MR.Ent Nl) W, W1.heap.size ≤ q → e ∈ es → done.length < es.length → U done W → ItS bm qk clk es q seen W → LoopAt l D r W → YieldAt Fence.wide j Try.prog l #[e.1.v] W fun e' W' => e' = .returned (.bool true) ∧ U (done ++ [e.1]) W' ∧ ItS bm qk clk es q seen W' ∧ LoopAt l D r W') :
    Calls Try.prog 80 #[.func (.yield l) #[] #[], .pointer (some ⟨qk, 0, none⟩)] W1 fun e W' => (∃ v, e = .returned v) ∧ (∃ done : List (MR.Ent Nl), done.Perm es ∧ U (done.map (·.1)) W') ∧ LoopAt l D r W' := by
  obtain ⟨q, hq⟩ : ∃ q, W1.heap.size = q := ⟨_, rfl⟩
  have hlts : bm < q ∧ qk < q ∧ l < q ∧ D < q := by have h1 := lt_of_blk hm.blk; have h2 := lt_of_blk hx; omega
  have hrg := MR.run_range NN hm Try.underlying86
  have hal := (Below.refl W1.heap.size W1).alloc (Nat.le_refl _) (.mapIter (some bm) clk #[] clk)
  have hit : (W1.alloc (.mapIter (some bm) clk #[] clk)).heap[W1.heap.size]? = some (.mapIter (some bm) clk #[] clk) := hnew _ _
  have e0 := cell_of (o := 0) hx rfl
  have F := Lib.hid (And.intro (hUb _ _ _ hu hal) (And.intro (show ItS bm qk clk es W1.heap.size #[] (W1.alloc (.mapIter (some bm) clk #[] clk)) from ⟨hit, hm.blk_iff NN (hal.block _ (lt_of_blk hm.blk)), (hal.block _ (lt_of_blk hx)).trans hx⟩) (hL.below hal)))
  have H := Lib.hid (And.intro hUb (And.intro hUs (And.intro hY (And.intro hq (And.intro hlts hm)))))
  clear hUb hUs hY hlD hlts hm hx hu hL hal hit
  refine callsIn_wide.1 (show CallsIn Fence.wide (j + 1) _ _ _ _ _ from callsIn_of_wp Try.func80 rfl trivial ?_ rfl)
  simp only [Try.ntmps80, List.size_toArray, List.length_cons, List.length_nil, Nat.reduceAdd, Nat.reduceSub, Array.replicate_succ, Array.replicate_zero, List.push_toArray, List.append_toArray, List.nil_append, List.cons_append]
  gi_wp2
  generalize W1.alloc (.mapIter (some bm) clk #[] clk) = W2 at *
  rw [hq] at F
  try rw [hq]
  clear e0 hrg hq
  gi_loopw [6] (fun _ wr => ∃ (done : List (MR.Ent Nl)) (seen : Array Nat), U (done.map (·.1)) wr ∧ ItS bm qk clk es q seen wr ∧ MR.Ran es seen done ∧ LoopAt l D r wr) (fun _ wr => es.length - seenN wr q)
  case atStart => exact ⟨[], #[], F.out.1, F.out.2.1, MR.Ran.none _, F.out.2.2⟩
  case round =>
    obtain ⟨done, seen, hu, hits, hran, hL⟩ := hrel
    obtain ⟨w2, rfl⟩ : ∃ w2 : World, w2 = wr := ⟨_, rfl⟩
    obtain ⟨hdl, hsd⟩ := Ran_len hran hits.mp.bnodup
    rcases MR.next_step NN hits.mp hits.it 0 with ⟨hall, hnx⟩ | ⟨e, hein, hens, w3, hnx, hset⟩
    · have HE := Lib.hid (And.intro (hran.all hits.mp.bnodup hall) (And.intro hu hL))
      clear hu hits hran hL hdl hsd hall
      gi_wp2
      go_end0
      exact ⟨⟨_, rfl⟩, ⟨done, HE.out.1, HE.out.2.1⟩, HE.out.2.2⟩
    · have hqs := lt_of_blk hits.it
      have hb4 := H.out.2.2.2.2.1
      have hit3 := hset.at hqs
      have hm3 := hits.mp.blk_iff NN (hset.other (show bm ≠ q by omega))
      have hen := MR.run_entry NN hm3 hein hit3
      have hits3 : ItS bm qk clk es q (seen.push e.2.2) w3 := ⟨hit3, hm3, (hset.other (show qk ≠ q by omega)).trans hits.bx⟩
      have hL3 : LoopAt l D r w3 := ⟨(hset.other (show l ≠ q by omega)).trans hL.loop, (hset.other (show D ≠ q by omega)).trans hL.defd⟩
      have hu3 := H.out.2.1 _ _ _ _ _ _ _ _ _ hu (Nat.le_of_eq H.out.2.2.2.1) hits.it hset
      have hr3 := hran.more hein hens
      have hd3 := Ran_len hr3 hits.mp.bnodup
      have hms : seenN w2 q = seen.size := seenN_of hits.it
      have HG := Lib.hid (And.intro hu3 (And.intro hits3 (And.intro hL3 (And.intro hr3 (And.intro hd3 (And.intro hms hein))))))
      obtain ⟨x, hx⟩ : ∃ x, e.1 = x := ⟨_, rfl⟩
      have HX := Lib.hid hx
      have hne : NN.enc e.1 = x.v := by rw [hx]; rfl
      rw [hne] at hnx hen
      unfold Nl.v at hnx hen
      clear hu hits hran hL hdl hsd hqs hb4 hit3 hm3 hits3 hL3 hu3 hr3 hd3 hms hein hens hset hx hne
      gi_wp2_with (with_reducible refine halt_storeIn 41 rfl ?_)
      refine Halted.go ?_
      have hal := (Below.refl w3.heap.size w3).alloc (Nat.le_refl _) (.cells #[.int .i64 0, .int .u32 0, .int .i64 0] 41)
      refine store_wholeIn rfl 41 _ _ rfl w3.heap.size #[.int .i64 x.id, .int .u32 (x.a : Int), .int .i64 x.ln] rfl rfl (hnew _ _) rfl (by kernel_rfl) (by simp [Value.oneCell']) ?_
      intro wz hwz hsz
      have hzb : Below w3.heap.size w3 wz := Below.trans hal (hsz.below (Nat.le_refl _))
      have z0 := cell_of (o := 0) hwz rfl
      have z1 := cell_of (o := 1) hwz rfl
      have z2 := cell_of (o := 2) hwz rfl
      have hy := H.out.2.2.1 q (seen.push e.2.2) (done.map (·.1)) e wz (Nat.le_of_eq H.out.2.2.2.1) HG.out.2.2.2.2.2.2 (by have h7 := HG.out.2.2.2.2.1.1; rw [List.length_append, List.length_singleton] at h7; rw [List.length_map]; omega) (H.out.1 _ _ _ HG.out.1 hzb) (HG.out.2.1.keep hzb) (HG.out.2.2.1.below hzb)
      rw [HX.out] at hy
      unfold Nl.v at hy
      obtain ⟨fn, tmps, assign, body, hyr, hR⟩ := hy
      have HZ := Lib.hid hR
      clear hwz hsz hal hzb hR
      generalize w3.heap.size = q3 at *
      gi_wp2_with (refine (HZ.out).mono ?_; rintro e3 w9 ⟨rfl, hu9, hits9, hL9⟩)
      refine ⟨⟨done ++ [e], seen.push e.2.2, ?_, hits9, HG.out.2.2.2.1, hL9⟩, ?_⟩
      · rw [List.map_append, List.map_singleton, HX.out]
        exact hu9
      · rw [HG.out.2.2.2.2.2.1, seenN_of hits9.it]
        have h6 := HG.out.2.2.2.2.1.2
        have h7 := HG.out.2.2.2.2.1.1
        rw [Array.size_push] at h6 ⊢
        omega
end Go.Proofs.Ytpjfgfdpngibgaa
/- append, and in which block its result lies. -/
namespace Go.Proofs.Ytpjfgfdpngibgaa
open Go Go.RowKit

/-- append's block is the old one, or new -/
theorem append_block {P : Program} (w : World) (base : Nat) (t ty e : TypeId) (i : TypeInfo) (z : Value) (size bytes : Nat) (ht : P.underlying t = some (.slice e)) (hi : P.info? e = some i) (hz : i.zero = some z)
    (hsize : i.size = size) (hby : i.bytes = bytes) (v : Value) (n : Nat) (xs : List Value) (hown : w.ownsRow base e size v n xs)
    (a : Addr) (m c : Nat) (news : List Value) (hl : news.length = m * size) (hnews : ∀ j u, news[j]? = some u → w.cell? (a.add j) = some u) (h1 : ∀ u ∈ news, u.oneCell' = true)
    (hm : 0 < m) (h63 : n + m ≤ maxLen) (hbytes : (n + m) * bytes ≤ 140737488355328) {v' : Value} {w' : World} (hrun : (Builtin.append_ #[t, t] ty #[v, .slice (some a) m c]).run P w = .ok v' w') :
    v'.ownBlock = v.ownBlock ∨ v'.ownBlock = some w.heap.size := by
  subst hsize
  subst hby
  have hsmall : n + m ≤ 9223372036854775807 := by simp only [maxLen] at h63; omega
  rcases hown.2 with ⟨rfl, rfl⟩ | ⟨g, cap, cur, rfl, hbg, hg, hnc, hcm, hcs, htake⟩
  · have hr := run_append_nil (P := P) w t ty e i z ht hi hz a m c news hl hnews (by omega) (by omega) (by have hb := hbytes; simp only [Nat.zero_add] at hb; omega)
    rw [hr] at hrun
    injection hrun with h2 _
    subst h2
    exact .inr rfl
  · by_cases hroom : n + m ≤ cap
    · have hfit : n * i.size + news.length ≤ cur.size := by rw [hl, hcs, ← Nat.add_mul]; exact Nat.mul_le_mul_right _ hroom
      have hr := run_append_room (P := P) w t ty e i ht hi g n cap cur hg a m c news hl hnews h1 hroom hfit
      rw [hr] at hrun
      injection hrun with h2 _
      subst h2
      exact .inl rfl
    · have holds : ∀ j u, xs[j]? = some u → w.cell? ((⟨g, 0, none⟩ : Addr).add j) = some u := hown.cells (g := g) rfl
      have hr := run_append_grow (P := P) w t ty e i z ht hi hz ⟨g, 0, none⟩ n cap xs hown.1 holds a m c news hl hnews (by omega) (by omega) (growslice_fits (by omega) hbytes)
      rw [hr] at hrun
      injection hrun with h2 _
      subst h2
      exact .inr rfl

namespace Rep
variable {α : Type} [Inhabited α] {R : Rep α} {P : Program} {ops : Array Oper} {rest : List Oper} {o : Oper} {a : Act} {Q : Exit → Act → World → Prop} {w : World}
theorem run_append_list2 {t ty : TypeId} {bytes : Nat} (hT : Ty P t R bytes) {base : Nat} {v : Value} {L : List α} (hown : R.Own w base v L) {sa : Option Addr} {m c : Nat} {M : List α} (hM : R.Sl w sa m c M) (h0 : 0 < m)
    (hmax : L.length + m ≤ maxLen) (hbytes : (L.length + m) * bytes ≤ 140737488355328) (hbase : base ≤ w.heap.size) :
    ∃ v' w', (Builtin.append_ #[t, t] ty #[v, .slice sa m c]).run P w = .ok v' w' ∧ R.Own w' base v' (L ++ M) ∧ Below base w w' ∧ ∀ bad, v.ownBlock ≠ some bad → bad < w.heap.size → v'.ownBlock ≠ some bad ∧ w'.heap[bad]? = w.heap[bad]? := by
  obtain ⟨b, off, rfl, hr⟩ := hM.row h0
  obtain ⟨v', w', e1, e2, e3, e4⟩ := run_append_list (ty := ty) hT hown hM (fun h => by cases h) hmax hbytes hbase
  obtain ⟨i, z, h1, h2, h3, h4, h5⟩ := hT.hi
  have hb := append_block w base t ty R.T i z R.k bytes hT.ht h1 h2 h3 h4 v L.length (R.flat L) hown ⟨b, off, none⟩ m c (R.flat M) (by rw [R.flat_length, ← hM.len]) (news_of_row hr) (fun u hu => R.flat_cell1 M u hu) h0 hmax hbytes e1
  refine ⟨v', w', e1, e2, e3, fun bad h6 h7 => ⟨?_, e4.block bad h7 (fun h => h6 h.symm)⟩⟩
  rcases hb with hb | hb
  · rw [hb]; exact h6
  · rw [hb]; intro h; injection h with h; omega
theorem append_list2 {t : TypeId} {bytes : Nat} (hT : Ty P t R bytes) (hgd : o.guard = none) (s x : Operand) (ho : o.op = .call { callee := .builtin .append, args := #[s, x], argTypes := #[t, t] })
    {base : Nat} {v : Value} {L : List α} (hs : a.eval s = v) (hown : R.Own w base v L) {sa : Option Addr} {m c : Nat} {M : List α} (hx : a.eval x = .slice sa m c) (hM : R.Sl w sa m c M) (h0 : 0 < m)
    (hmax : L.length + m ≤ maxLen) (hbytes : (L.length + m) * bytes ≤ 140737488355328) (hbase : base ≤ w.heap.size)
    (h : ∀ v' w', R.Own w' base v' (L ++ M) → Below base w w' → (∀ bad, v.ownBlock ≠ some bad → bad < w.heap.size → v'.ownBlock ≠ some bad ∧ w'.heap[bad]? = w.heap[bad]?) → wpList P ops Q rest (a.put o.dst v') w') : wpList P ops Q (o :: rest) a w :=
  wpList_plain hgd fun K hK => by
    obtain ⟨v', w', e1, e2, e3, e4⟩ := run_append_list2 hT hown hM h0 hmax hbytes hbase (ty := o.type)
    have hk := hK _ _ (h v' w' e2 e3 e4)
    unfold Oper.wp execOp
    simp only [ho, resolve, invoke, builtin, Sem.run_bind, Sem.run_pure, Result.andThen_ok, List.map_toArray, List.map_cons, List.map_nil, hs, hx, e1]
    exact hk
end Rep
end Go.Proofs.Ytpjfgfdpngibgaa
/- slices.AppendSeq of a map's keys; slices.Collect. -/
namespace Go.Proofs.Ytpjfgfdpngibgaa
open Go.RowKit Go.Shelf
attribute [local go_sem] Oper.semAt_some

section
variable {F : Fence} {nF : Nat} {P : Program} {ops : Array Oper} {rest : List Oper} {o : Oper} {a : Act} {Q : Exit → Act → World → Prop} {w : World} {α : Type} [Inhabited α] {R : Rep α}
theorem append_listIn {t : TypeId} {bytes : Nat} (hT : Rep.Ty P t R bytes) (hgd : o.guard = none) (s x : Operand) (ho : o.op = .call { callee := .builtin .append, args := #[s, x], argTypes := #[t, t] })
    {base : Nat} {v : Value} {L : List α} (hs : a.eval s = v) (hown : R.Own w base v L) {sa : Option Addr} {m c : Nat} {M : List α} (hx : a.eval x = .slice sa m c) (hM : R.Sl w sa m c M) (h0 : 0 < m)
    (hmax : L.length + m ≤ maxLen) (hbytes : (L.length + m) * bytes ≤ 140737488355328) (hbase : base ≤ w.heap.size)
    (h : ∀ v' w', R.Own w' base v' (L ++ M) → Below base w w' → (∀ bad, v.ownBlock ≠ some bad → bad < w.heap.size → v'.ownBlock ≠ some bad ∧ w'.heap[bad]? = w.heap[bad]?) → w.grownBy w' v.ownBlock → wpListIn F nF P ops Q rest (a.put o.dst v') w') : wpListIn F nF P ops Q (o :: rest) a w :=
  wpListIn_plain hgd fun K hK => by
    obtain ⟨v', w', e1, e2, e3, e4⟩ := Rep.run_append_list2 hT hown hM h0 hmax hbytes hbase (ty := o.type)
    have e5 : w.grownBy w' v.ownBlock := by
      obtain ⟨b, off, rfl, _⟩ := hM.row h0
      obtain ⟨v2, w2, f1, _, _, f4⟩ := Rep.run_append_list (ty := o.type) hT hown hM (fun h => by cases h) hmax hbytes hbase
      rw [e1] at f1; injection f1 with f1 f2; subst f2; exact f4
    have hk := hK _ _ (h v' w' e2 e3 e4 e5)
    unfold Oper.wpIn
    refine ⟨?_, ?_⟩
    · simp [Oper.about, ho, resolve, Target.leads, Sem.run_pure]
    · rw [Oper.semAt_plain F _ _ (by rw [ho]; intro c hc'; cases hc')]
      simp [execOp, ho, resolve, invoke, builtin, hs, hx, e1, Result.andThen]
      exact hk
end
theorem own_cells {w : World} {base : Nat} {v : Value} {l : List Nl} (h : RNl.Own w base v l) {b : Nat} (hb : v.ownBlock = some b) : ∃ cur, w.heap[b]? = some (.cells cur 41) := by
  rcases h.2 with ⟨h2, _⟩ | ⟨g, cap, cur, hv2, _, hh, _⟩
  · rw [h2] at hb; cases hb
  · rw [hv2] at hb
    injection hb with hb
    dsimp only at hb
    subst hb
    exact ⟨cur, hh⟩
theorem keeps_below {B : Nat} {W W' : World} (h : Below W.heap.size W W') : KeepsFrom B W W' := ⟨h.size, fun k _o _ hk _ => (h.block k (lt_of_blk hk)).trans hk⟩
section
variable {F : Fence} {n : Nat} {P : Program} {ops : Array Oper} {rest : List Oper} {o : Oper} {a : Act} {Q : Exit → Act → World → Prop} {w : World}
theorem halt_dstIn (d : Nat) (_ho : o.dst = some d) (h : Halted (wpListIn F n P ops Q (o :: rest) a w)) : wpListIn F n P ops Q (o :: rest) a w := h
end
/-- what has come so far, in the box -/
structure SeqU (w : World) (q : Nat) (L : List Nl) (W : World) : Prop where
  bel : Below w.heap.size w W
  out : ∃ v, W.heap[q]? = some (.cells #[v] 22) ∧ RNl.Own W (q + 1) v L
theorem SeqU.keep {w : World} {q : Nat} {L : List Nl} {W W' : World} (h : SeqU w q L W) (hb : Below W.heap.size W W') : SeqU w q L W' := by
  obtain ⟨h1, v, h2, h3⟩ := h
  exact ⟨bcall h1 (Nat.le_refl _) hb, v, (hb.block _ (lt_of_blk h2)).trans h2, h3.below hb⟩
theorem SeqU.turn {w : World} {q : Nat} {L : List Nl} {W W' : World} (h : SeqU w q L W) {p : Nat} {o o' : Obj} (ho : W.heap[p]? = some o) (hc : o.isCells = false) (hp : w.heap.size ≤ p) (hs : SetB W W' p o') : SeqU w q L W' := by
  obtain ⟨h1, v, h2, h3⟩ := h
  have hne : ∀ (b : Nat) (cs : Array Value) (T : TypeId) (fr : Nat × Nat), W.heap[b]? = some (Obj.cells cs T fr) → b ≠ p := by
    rintro b cs T fr hb rfl
    rw [ho] at hb; injection hb with hb; subst hb; cases hc
  exact ⟨h1.trans (hs.below hp), v, (hs.other (hne _ _ _ _ h2)).trans h2, h3.keep (fun b e => by
    obtain ⟨cur, hcur⟩ := own_cells h3 e
    exact hs.other (hne _ _ _ _ hcur))⟩
theorem setB_put {W : World} {p : Nat} {o' : Obj} : SetB W (W.putObj p o') p o' := ⟨rfl, rfl, rfl, rfl⟩
theorem own_turn {base : Nat} {v : Value} {L : List Nl} {W W' : World} (h : RNl.Own W base v L) {p : Nat} {o o' : Obj} (ho : W.heap[p]? = some o) (hc : o.isCells = false) (hs : SetB W W' p o') : RNl.Own W' base v L := h.keep (fun b e => by
  obtain ⟨cur, hcur⟩ := own_cells h e
  exact hs.other (by
    rintro rfl
    rw [ho] at hcur; injection hcur with hcur; subst hcur; cases hc))
theorem ItS.turn {bm qk clk : Nat} {es : List (MR.Ent Nl)} {q : Nat} {seen : Array Nat} {W W' : World} (h : ItS bm qk clk es q seen W) {p : Nat} {r : Loop} {o' : Obj} (ho : W.heap[p]? = some (.loop r)) (hs : SetB W W' p o') : ItS bm qk clk es q seen W' := by
  have hn : ∀ (b : Nat) (o : Obj), W.heap[b]? = some o → o ≠ .loop r → W'.heap[b]? = some o := fun b o hb hne => (hs.other (by
    rintro rfl
    rw [ho] at hb; injection hb with hb; exact hne hb.symm)).trans hb
  exact ⟨hn _ _ h.it (by simp), h.mp.blk_iff NN ((hn _ _ h.mp.blk (by simp)).trans h.mp.blk.symm), hn _ _ h.bx (by simp)⟩
structure Nx where
  q : Nat
  seen : Array Nat
  done : List Nl
  e : Nl
set_option maxRecDepth 100000 in
set_option maxHeartbeats 4000000 in
theorem appendSeq_any {w : World} {bm qk clk : Nat} {es : List (MR.Ent Nl)} (hm : MR.MapAt NN w bm es clk) (hx : w.heap[qk]? = some (.cells #[.map (some bm)] 86)) (hlen : es.length ≤ 4611686) : Calls Try.prog 103 #[.slice none 0 0, .func (.func 80) #[] #[.pointer (some ⟨qk, 0, none⟩)]] w fun e w' => ∃ v L, e = .returned v ∧ RNl.Own w' w.heap.size v L ∧ L.Perm (es.map (·.1)) ∧ Below w.heap.size w w' := by
  have hal := (Below.refl w.heap.size w).alloc (Nat.le_refl _) (.cells #[.slice none 0 0] 22)
  have hq0 : (w.alloc (.cells #[.slice none 0 0] 22)).heap[w.heap.size]? = some (.cells #[.slice none 0 0] 22) := hnew _ _
  have HC := Lib.hid (And.intro hal (And.intro hq0 (And.intro (hm.blk_iff NN (hal.block _ (lt_of_blk hm.blk))) (And.intro ((hal.block _ (lt_of_blk hx)).trans hx) (And.intro (lt_of_blk hm.blk) (And.intro (lt_of_blk hx) hlen))))))
  clear hal hq0 hm hx hlen
  refine callsIn_wide.1 (show CallsIn Fence.wide 5 _ _ _ _ _ from callsIn_of_wp_marks Try.func103 rfl trivial ?_ rfl)
  simp only [Try.ntmps103, List.size_toArray, List.length_cons, List.length_nil, Nat.reduceAdd, Nat.reduceSub, Array.replicate_succ, Array.replicate_zero, List.push_toArray, List.append_toArray, List.nil_append, List.cons_append]
  gi_wp2
  obtain ⟨q0, hq0⟩ : ∃ q0, w.heap.size = q0 := ⟨_, rfl⟩
  generalize hV : w.alloc (.cells #[.slice none 0 0] 22) = V at *
  have hVs : V.heap.size = q0 + 1 := by rw [← hV, ← hq0]; exact Array.size_push _
  rw [hq0] at HC ⊢
  have HQ := Lib.hid (And.intro hq0 hVs)
  clear hq0 hV hVs
  refine range_any (n := 5) (gf := 80) (lb := #[.pointer (some ⟨qk, 0, none⟩)]) rfl (enters_of Try.func80 (by kernel_rfl) rfl) (fun i : Nx => #[i.e.v]) (fun _ => rfl)
    (fun i W => i.done.length < es.length ∧ SeqU w q0 i.done W ∧ ItS bm qk clk es i.q i.seen W)
    (fun i W => SeqU w q0 (i.done ++ [i.e]) W ∧ ItS bm qk clk es i.q i.seen W)
    (fun i a W => (∃ p, a = { tmps := #[.slice none 0 0, .func (.func 80) #[] #[.pointer (some ⟨qk, 0, none⟩)], .pointer (some ⟨q0, 0, none⟩), undef, .slice none 0 0, .pointer (some ⟨p, 0, none⟩), .func (.func 80) #[] #[.pointer (some ⟨qk, 0, none⟩)], i.e.v, undef, undef, undef, undef, undef], defers := [] } ∧ W.heap[p]? = some (.cells #[.int .i64 i.e.id, .int .u32 (i.e.a : Int), .int .i64 i.e.ln] 41)) ∧ i.done.length < es.length ∧ SeqU w q0 i.done W ∧ ItS bm qk clk es i.q i.seen W)
    (fun W => ∃ done : List (MR.Ent Nl), done.Perm es ∧ SeqU w q0 (done.map (·.1)) W) ?hput ?hassign ?hbody ?hiter ?hdone
  case hput =>
    intro W lq r o' hl ho
    have hlw : w.heap.size ≤ lq := by have := HQ.out; omega
    have hs := setB_put (W := W) (p := lq) (o' := o')
    have hu : ∀ d, SeqU w q0 d W → SeqU w q0 d (W.putObj lq o') := fun d h => h.turn ho rfl hlw hs
    refine ⟨?_, ?_, ?_⟩
    · rintro i a ⟨⟨p, rfl, hp⟩, h1, h2, h3⟩
      refine ⟨⟨p, rfl, (hs.other ?_).trans hp⟩, h1, hu _ h2, h3.turn ho hs⟩
      rintro rfl
      rw [hp] at ho; cases ho
    · exact fun i h => ⟨hu _ h.1, h.2.turn ho hs⟩
    · rintro ⟨done, h1, h2⟩
      exact ⟨done, h1, hu _ h2⟩
  case hassign =>
    intro lq i W K hl hJ hK
    have HK := Lib.hid (And.intro hJ hK)
    clear hJ hK
    obtain ⟨iq, iseen, idone, x⟩ := i
    dsimp only at *
    unfold Nl.v at *
    gi_wp2_with (with_reducible refine halt_storeIn 41 rfl ?_)
    refine Halted.go ?_
    have hal := (Below.refl W.heap.size W).alloc (Nat.le_refl _) (.cells #[.int .i64 0, .int .u32 0, .int .i64 0] 41)
    refine store_wholeIn rfl 41 _ _ rfl W.heap.size #[.int .i64 x.id, .int .u32 (x.a : Int), .int .i64 x.ln] rfl rfl (hnew _ _) rfl (by kernel_rfl) (by simp [Value.oneCell']) ?_
    intro wz hwz hsz
    have hzb : Below W.heap.size W wz := Below.trans hal (hsz.below (Nat.le_refl _))
    clear hsz hal
    gi_wp2
    exact HK.out.2 _ _ ⟨⟨_, rfl, hwz⟩, HK.out.1.1, HK.out.1.2.1.keep hzb, HK.out.1.2.2.keep hzb⟩ hzb
  case hbody =>
    rintro lq i a W hl ⟨⟨p, rfl, hp⟩, hlt, hu, hit⟩
    obtain ⟨iq, iseen, idone, x⟩ := i
    dsimp only at *
    unfold Nl.v at *
    obtain ⟨hbel, v, hv, hown⟩ := hu
    obtain ⟨oa, c, rfl, -⟩ := hown.sl0
    have c0 := cell_of (o := 0) hp rfl
    have c1 := cell_of (o := 1) hp rfl
    have c2 := cell_of (o := 2) hp rfl
    have c3 := cell_of (o := 0) hv rfl
    have HB := Lib.hid (And.intro hbel (And.intro hv (And.intro hown (And.intro hlt hit))))
    obtain ⟨n, hn⟩ : ∃ n, idone.length = n := ⟨_, rfl⟩
    have HN := Lib.hid hn
    rw [hn] at c3 HB
    clear hbel hv hown hlt hit hp hn
    gi_wp2_with (with_reducible refine halt_dstIn 11 rfl ?_)
    refine Halted.go ?_
    have hal := (Below.refl W.heap.size W).alloc (Nat.le_refl _) (.cells #[.int .i64 x.id, .int .u32 (x.a : Int), .int .i64 x.ln] 41)
    have hone : RNl.Sl (W.alloc (.cells #[.int .i64 x.id, .int .u32 (x.a : Int), .int .i64 x.ln] 41)) (some ⟨W.heap.size, 0, none⟩) 1 1 [x] := Rep.sl_one (R := RNl) (y := x) (hnew _ _)
    have hown1 := HB.out.2.2.1.below hal
    have hnn : n ≤ 4611686 := by have h1 := HB.out.2.2.2.1; have h2 := HC.out.2.2.2.2.2.2; omega
    have hq1 : q0 + 1 ≤ W.heap.size := lt_of_blk HB.out.2.1
    have HE := Lib.hid (And.intro (hal.block _ (lt_of_blk HB.out.2.1)) (HB.out.2.2.2.2.keep hal))
    have HZ := Lib.hid (And.intro hal hq1)
    refine append_listIn TNl rfl _ _ rfl (base := q0 + 1) (m := 1) rfl hown1 rfl hone (by omega) (by rw [HN.out]; unfold maxLen; omega) (by rw [HN.out]; omega) (Nat.le_trans hq1 hal.size) ?_
    intro v9 W9 ho9 hb9 he9 hg9
    have hcl : ∀ (k : Nat) (o : Obj), (W.alloc (.cells #[.int .i64 x.id, .int .u32 (x.a : Int), .int .i64 x.ln] 41)).heap[k]? = some o → o.isCells = false → W9.heap[k]? = some o := fun (k : Nat) (o : Obj) hok hcc => (hg9.block k (lt_of_blk hok) (fun e => by
      obtain ⟨cur, hcur⟩ := own_cells hown1 e.symm
      rw [hok] at hcur; injection hcur with hcur; subst hcur; cases hcc)).trans hok
    have hit9 : ItS bm qk clk es iq iseen W9 := ⟨hcl _ _ HE.out.2.it rfl, HE.out.2.mp.blk_iff NN ((hcl _ _ HE.out.2.mp.blk rfl).trans HE.out.2.mp.blk.symm), (hb9.block _ (by have := HC.out.2.2.2.2.2.1; omega)).trans HE.out.2.bx⟩
    have h9q : W9.heap[q0]? = some (.cells #[.slice oa n c] 22) := (hb9.block _ (Nat.lt_succ_self _)).trans (HE.out.1.trans HB.out.2.1)
    have hk9 : KeepsFrom V.heap.size W W9 := (keeps_below HZ.out.1).trans ⟨hb9.size, fun k o hk hok hcc => hcl k o hok hcc⟩
    have hbel9 : Below w.heap.size w W9 := (bcall HB.out.1 (Nat.le_refl _) HZ.out.1).trans (hb9.mono (by have := HQ.out.1; omega))
    have HF := Lib.hid (And.intro hit9 (And.intro h9q (And.intro hk9 (And.intro hbel9 ho9))))
    clear hit9 hk9 hbel9 he9 hg9 hcl hb9 hone hown1 hal hnn hq1 c0 c1 c2 c3
    obtain ⟨oa5, c5, rfl, -⟩ := ho9.sl0
    clear ho9
    generalize (idone ++ [x]).length = n5 at *
    have f7 := free_of h9q (o := 0)
    have e7 := cell_of (o := 0) h9q rfl
    clear h9q
    gi_wp2
    obtain ⟨hit9, h9q, hk9, hbel9, ho9⟩ := HF.out
    have hset := (SetB.self h9q).store (o := 0) (lt_of_blk h9q) (.slice oa5 n5 c5)
    have h7z := setCell_blk h9q 0 (.slice oa5 n5 c5)
    refine ⟨hk9.trans ⟨by rw [hset.size]; exact Nat.le_refl _, fun k o hk hok hcc => (hset.other (by have := HQ.out.2; omega)).trans hok⟩, ⟨hbel9.trans (hset.below (Nat.le_of_eq HQ.out.1)), _, h7z, ho9.keep (fun b hb => hset.other (fun e => ?_))⟩, ?_⟩
    · obtain ⟨cur, hcur⟩ := own_cells ho9 hb
      rw [e, h9q] at hcur
      injection hcur with hcur; injection hcur with _ hcur; exact absurd hcur (by decide)
    · have hn : ∀ (b : Nat) (o : Obj), W9.heap[b]? = some o → o ≠ .cells #[.slice oa n c] 22 → b ≠ q0 := by
        rintro b o hb hne rfl
        rw [h9q] at hb; injection hb with hb; exact hne hb.symm
      exact ⟨(hset.other (hn _ _ hit9.it (by simp))).trans hit9.it, hit9.mp.blk_iff NN (hset.other (hn _ _ hit9.mp.blk (by simp))), (hset.other (by have := HC.out.2.2.2.2.2.1; omega)).trans hit9.bx⟩
  case hiter =>
    intro lq D r W1 hl hD hb hL hY
    have hm1 := HC.out.2.2.1.blk_iff NN (hb.block _ (lt_of_blk HC.out.2.2.1.blk))
    have hx1 := (hb.block _ (lt_of_blk HC.out.2.2.2.1)).trans HC.out.2.2.2.1
    have hu1 : SeqU w q0 [] W1 := ⟨bcall (by rw [HQ.out.1]; exact HC.out.1) (Nat.le_refl _) hb, _, (hb.block _ (lt_of_blk HC.out.2.1)).trans HC.out.2.1, Rep.Own.nil _ _⟩
    have hws : w.heap.size ≤ W1.heap.size := hu1.bel.size
    refine (keys_iter (j := 5) lq D r bm qk clk es (fun d W => SeqU w q0 d W) W1 (fun d W W' h hb => h.keep hb) (fun d W W' q o m c s z h hq ho hs => h.turn ho rfl (Nat.le_trans hws hq) hs) ⟨lt_of_blk hL.loop, lt_of_blk hL.defd⟩ hm1 hx1 hu1 hL ?_).mono ?_
    · intro q seen done e W hq he hlt hu hit hL
      obtain ⟨fn, tmps, assign, body, hy, hR⟩ := hY ⟨q, seen, done, e.1⟩ W ⟨hlt, hu, hit⟩ hL
      exact ⟨fn, tmps, assign, body, hy, hR.mono (fun e W' h => ⟨h.1, h.2.1.1, h.2.1.2, h.2.2⟩)⟩
    · rintro e W' ⟨h1, h2, h3⟩
      exact ⟨h1, h2, h3⟩
  case hdone =>
    intro D W hD hE hdef
    obtain ⟨done, hp, hbel, v, hv, hown⟩ := hE
    obtain ⟨oa, c, rfl, -⟩ := hown.sl0
    have hc := cell_of (o := 0) hv rfl
    have HE := Lib.hid (And.intro hp (And.intro hbel hown))
    clear hp hbel hown hv
    generalize (done.map (·.1)).length = n at *
    gi_wp2
    have hs := setB_put (W := W) (p := D) (o' := .deferred none)
    have hDw : w.heap.size ≤ D := by have := HQ.out; omega
    refine ⟨by simp, .inl ⟨_, _, rfl, run_takeDeferred hdef, ?_⟩⟩
    exact ⟨_, results_tmp (t := 4) rfl _ _ _, ⟨.slice oa n c, _, rfl, (own_turn HE.out.2.2 hdef rfl hs).mono (show w.heap.size ≤ q0 + 1 from by have := HQ.out; omega), HE.out.1.map _, HE.out.2.1.trans (hs.below hDw)⟩⟩
end Go.Proofs.Ytpjfgfdpngibgaa
/- slices.SortFunc of prefixes that are told, by the library's contract. -/
namespace Go.Proofs.Ytpjfgfdpngibgaa
open Go.Shelf
def sortNl_ren : Go.Shelf.Ren := ⟨fun | 6 => 79 | 15 => 105 | 14 => 104 | 28 => 127 | 29 => 128 | 20 => 119 | 21 => 120 | 22 => 121 | 23 => 122 | 24 => 123 | 25 => 124 | 26 => 125 | 27 => 126 | 46 => 145 | 47 => 146 | 48 => 147 | 49 => 148 | 50 => 149 | 57 => 153 | n => n, fun | 22 => 22 | 24 => 41 | 25 => 44 | 3 => 3 | 39 => 57 | 0 => 0 | 53 => 37 | 55 => 179 | 4 => 4 | 46 => 171 | 45 => 170 | 50 => 175 | 5 => 5 | 9 => 9 | 66 => 194 | 70 => 198 | 76 => 202 | 77 => 203 | n => n, fun  | n => n⟩
theorem sortNl : SlLaysF0.n6 Try.prog sortNl_ren := {
  mixed := by kernel_rfl
  f6 := ⟨Try.f79.name, by decide, Try.func79.trans (congrArg some (by kernel_rfl))⟩
  f14 := ⟨Try.f104.name, by decide, Try.func104.trans (congrArg some (by kernel_rfl))⟩
  f15 := Try.func105.trans (congrArg some (by kernel_rfl))
  f20 := ⟨Try.f119.name, by decide, Try.func119.trans (congrArg some (by kernel_rfl))⟩
  f21 := ⟨Try.f120.name, by decide, Try.func120.trans (congrArg some (by kernel_rfl))⟩
  f22 := ⟨Try.f121.name, by decide, Try.func121.trans (congrArg some (by kernel_rfl))⟩
  f23 := ⟨Try.f122.name, by decide, Try.func122.trans (congrArg some (by kernel_rfl))⟩
  f24 := ⟨Try.f123.name, by decide, Try.func123.trans (congrArg some (by kernel_rfl))⟩
  f25 := ⟨Try.f124.name, by decide, Try.func124.trans (congrArg some (by kernel_rfl))⟩
  f26 := ⟨Try.f125.name, by decide, Try.func125.trans (congrArg some (by kernel_rfl))⟩
  f27 := ⟨Try.f126.name, by decide, Try.func126.trans (congrArg some (by kernel_rfl))⟩
  f28 := Try.func127.trans (congrArg some (by kernel_rfl))
  f29 := Try.func128.trans (congrArg some (by kernel_rfl))
  f46 := ⟨Try.f145.name, by decide, Try.func145.trans (congrArg some (by kernel_rfl))⟩
  f47 := Try.func146.trans (congrArg some (by kernel_rfl))
  f48 := Try.func147.trans (congrArg some (by kernel_rfl))
  f49 := ⟨Try.f148.name, by decide, Try.func148.trans (congrArg some (by kernel_rfl))⟩
  f50 := ⟨Try.f149.name, by decide, Try.func149.trans (congrArg some (by kernel_rfl))⟩
  f57 := ⟨Try.f153.name, by decide, Try.func153.trans (congrArg some (by kernel_rfl))⟩
  t0 := Try.underlying0
  a0 := Try.isAgg0
  z0 := Try.sizeOf0
  v0 := Try.zeroValue0
  t3 := Try.underlying3
  a3 := Try.isAgg3
  z3 := Try.sizeOf3
  v3 := Try.zeroValue3
  t4 := Try.underlying4
  a4 := Try.isAgg4
  z4 := Try.sizeOf4
  v4 := Try.zeroValue4
  t5 := Try.underlying5
  a5 := Try.isAgg5
  z5 := Try.sizeOf5
  v5 := Try.zeroValue5
  t9 := Try.underlying9
  a9 := Try.isAgg9
  z9 := Try.sizeOf9
  v9 := Try.zeroValue9
  t22 := Try.underlying22
  a22 := Try.isAgg22
  z22 := Try.sizeOf22
  v22 := Try.zeroValue22
  t25 := Try.underlying44
  a25 := Try.isAgg44
  z25 := Try.sizeOf44
  v25 := Try.zeroValue44
  t39 := Try.underlying57
  a39 := Try.isAgg57
  z39 := Try.sizeOf57
  v39 := Try.zeroValue57
  t45 := Try.underlying170
  a45 := Try.isAgg170
  z45 := Try.sizeOf170
  v45 := Try.zeroValue170
  t46 := Try.underlying171
  a46 := Try.isAgg171
  z46 := Try.sizeOf171
  v46 := Try.zeroValue171
  t50 := Try.underlying175
  a50 := Try.isAgg175
  z50 := Try.sizeOf175
  v50 := Try.zeroValue175
  t53 := Try.underlying37
  a53 := Try.isAgg37
  z53 := Try.sizeOf37
  v53 := Try.zeroValue37
  t55 := Try.underlying179
  a55 := Try.isAgg179
  z55 := Try.sizeOf179
  v55 := Try.zeroValue179
  t66 := Try.underlying194
  a66 := Try.isAgg194
  z66 := Try.sizeOf194
  v66 := Try.zeroValue194
  t70 := Try.underlying198
  a70 := Try.isAgg198
  z70 := Try.sizeOf198
  v70 := Try.zeroValue198
  t76 := Try.underlying202
  a76 := Try.isAgg202
  z76 := Try.sizeOf202
  v76 := Try.zeroValue202
  t77 := Try.underlying203
  a77 := Try.isAgg203
  z77 := Try.sizeOf203
  v77 := Try.zeroValue203 }
end Go.Proofs.Ytpjfgfdpngibgaa
