/- Meter: Take. -/
import Derived.Test.YtfmehahjjgalfaaQah
namespace Go.Proofs.Ytfmehahjjgalfaa.Me
open Go.RowKit
open Go.ChangeMaps (setBlock)

def oldB (s : Src) (seq : Int) : Bool := match s.last with | some r => decide (seq ≤ r.seq) | none => false
def takeE (X : Nat → Src) (src seq : Int) (L : List Ct) (now : Int) : Int :=
  if (chkR src seq L && inM now) = false then 1 else if oldB (X src.toNat) seq then 170 else if 16384 < oth X src 16 + L.length then 2 else 0
def takeX (X : Nat → Src) (src seq : Int) (L : List Ct) (now : Int) : Nat → Src :=
  if takeE X src seq L now = 0 then fun j => if j = src.toNat then ⟨some ⟨seq, now, L⟩, (X j).last⟩ else X j else X
theorem take_nil (src seq : Int) (oa : Option Addr) (n c : Nat) (now : Int) (w : World) : Calls Try.prog 48 #[.pointer none, .agg #[.int .i64 src, .int .i64 seq, .slice oa n c], .int .i64 now] w fun e w' => e = .returned (.int .i64 6) ∧ Below w.heap.size w w' := by
  have F := Lib.hid ((Below.refl w.heap.size w).alloc (Nat.le_refl _) (.cells #[.int .i64 src, .int .i64 seq, .slice oa n c] 82))
  go_enter Try.func48, Try.ntmps48
  go_wp2_with fail
  go_ret
  exact ⟨rfl, F.out⟩
structure MTake (w w' : World) (m : Nat) (X : Nat → Src) : Prop where
  met : MetAt w' m X
  but : But w w' [m]
theorem MTake.below {w w' : World} {m : Nat} {X : Nat → Src} (H : MetAt w m X) (h : Below w.heap.size w w') : MTake w w' m X := ⟨H.keep h, But.of_below h _⟩
theorem takeX_no {X : Nat → Src} {src seq : Int} {L : List Ct} {now : Int} (h : takeE X src seq L now ≠ 0) : takeX X src seq L now = X := if_neg h
/-- a source's pointers are set -/
theorem MetAt.put {w w' : World} {m : Nat} {X : Nat → Src} (H : MetAt w m X) {i : Nat} (hi : i < 16) {b : Nat} {r : Rp} (hk : TkAt w b r) (hr : r.ok) {p : Option Addr} (hp : PtrAt w p (X i).last) (hw : w' = (w.setCell ⟨m, i * 2, none⟩ (.pointer (some ⟨b, 0, none⟩))).setCell ⟨m, i * 2 + 1, none⟩ (.pointer p)) : MetAt w' m (fun j => if j = i then ⟨some r, (X j).last⟩ else X j) := by
  obtain ⟨A, h1, h2, h3, h4⟩ := H.out
  have e1 := setCell_blk h2 (i * 2) (.pointer (some ⟨b, 0, none⟩))
  have e2 := setCell_blk e1 (i * 2 + 1) (.pointer p)
  have hfar : ∀ k, k < w.heap.size → k ≠ m → w'.heap[k]? = w.heap[k]? := by
    intro k _ hne
    rw [hw]
    have hbt := ((But.refl w [m]).setCell (a := ⟨m, i * 2, none⟩) (.inr (by simp)) (.pointer (some ⟨b, 0, none⟩))).setCell (a := ⟨m, i * 2 + 1, none⟩) (.inr (by simp)) (.pointer p)
    exact hbt.block k ‹_› (by simpa using hne)
  refine ⟨⟨_, ?_, by rw [hw]; exact e2, ?_, fun j hj => ?_⟩, fun j hj => ?_⟩
  · simp [h1]
  · rw [Array.getElem?_setIfInBounds, if_neg (by omega), Array.getElem?_setIfInBounds, if_neg (by omega)]
    exact h3
  · by_cases hji : j = i
    · subst hji
      refine ⟨some ⟨b, 0, none⟩, p, ?_, ?_, ?_, ?_⟩
      · rw [Array.getElem?_setIfInBounds, if_neg (by omega), Array.getElem?_setIfInBounds, if_pos rfl, if_pos (by simp [h1]; omega)]
      · rw [Array.getElem?_setIfInBounds, if_pos rfl, if_pos (by simp [h1]; omega)]
      · simp only
        exact ⟨b, rfl, hk.on h2 hfar⟩
      · simp only
        exact hp.on h2 hfar
    · obtain ⟨p', q', k1, k2, k3, k4⟩ := h4 j hj
      refine ⟨p', q', ?_, ?_, ?_, ?_⟩
      · rw [Array.getElem?_setIfInBounds, if_neg (by omega), Array.getElem?_setIfInBounds, if_neg (by omega)]; exact k1
      · rw [Array.getElem?_setIfInBounds, if_neg (by omega), Array.getElem?_setIfInBounds, if_neg (by omega)]; exact k2
      · simp only [if_neg hji]; exact k3.on h2 hfar
      · simp only [if_neg hji]; exact k4.on h2 hfar
  · by_cases hji : j = i
    · subst hji
      simp only
      exact ⟨fun r' h => by cases h; exact hr, fun r' h => (H.ok j hj).last r' h, fun h => by cases h⟩
    · simp only [if_neg hji]
      exact H.ok j hj
structure TkC (q m i : Nat) (src seq : Int) (oa : Option Addr) (n c : Nat) (X : Nat → Src) (p : Option Addr) (o : Option Rp) (W : World) : Prop where
  rep : RpS q src seq oa n c W
  met : MetAt W m X
  ptr : W.cell? ⟨m, i * 2, none⟩ = some (.pointer p)
  at' : PtrAt W p o
theorem TkC.keep {q m i : Nat} {src seq : Int} {oa : Option Addr} {n c : Nat} {X : Nat → Src} {p : Option Addr} {o : Option Rp} {w w' : World} (h : TkC q m i src seq oa n c X p o w) (hb : Below w.heap.size w w') : TkC q m i src seq oa n c X p o w' := ⟨h.rep.keep hb, h.met.keep hb, (cell_same (hb.block _ h.met.lt)).trans h.ptr, h.at'.keep hb⟩
theorem PtrAt.seq {w : World} {b : Nat} {r : Rp} (h : PtrAt w (some ⟨b, 0, none⟩) (some r)) : w.cell? ⟨b, 0, none⟩ = some (.int .i64 r.seq) := by
  obtain ⟨b', h1, bm, h2, -⟩ := h
  injection h1 with h1
  injection h1 with h1
  subst h1
  exact cell_of h2 rfl
theorem MetAt.free {w : World} {m : Nat} {X : Nat → Src} (H : MetAt w m X) (o : Nat) : w.frozen? ⟨m, o, none⟩ = false := by
  obtain ⟨A, -, h, -⟩ := H.out
  exact free_of h
theorem MetAt.two {w : World} {m : Nat} {X : Nat → Src} (H : MetAt w m X) {i : Nat} (hi : i < 16) : ∃ v, w.cell? ⟨m, i * 2 + 1, none⟩ = some v := by
  obtain ⟨p, q, -, h, -⟩ := H.at hi
  exact ⟨_, h⟩
set_option maxRecDepth 100000 in
set_option maxHeartbeats 8000000 in
theorem take_any {w : World} {m : Nat} {X : Nat → Src} (H : MetAt w m X) {oa : Option Addr} {n c : Nat} {L : List Ct} (HC : Cts w oa n c L) (src seq now : Int) : Calls Try.prog 48 #[.pointer (some ⟨m, 0, none⟩), .agg #[.int .i64 src, .int .i64 seq, .slice oa n c], .int .i64 now] w fun e w' => e = .returned (.int .i64 (takeE X src seq L now)) ∧ MTake w w' m (takeX X src seq L now) := by
  have hal := (Below.refl w.heap.size w).alloc (Nat.le_refl _) (.cells #[.int .i64 src, .int .i64 seq, .slice oa n c] 82)
  have hks : RpS w.heap.size src seq oa n c (w.alloc (.cells #[.int .i64 src, .int .i64 seq, .slice oa n c] 82)) := hnew _ _
  obtain ⟨z0, z1, z2⟩ := hks.cells
  have z32 := (H.keep hal).made
  have HCK := Lib.hid (mcheck_any (HC.keep hal) src seq)
  have HW := Lib.hid (within_any now 0 9007199254740991)
  have e1 : (decide (0 ≤ now) && decide (now ≤ 9007199254740991)) = inM now := rfl
  rw [e1] at HW
  have F := Lib.hid (And.intro hal (And.intro hks (And.intro (H.keep hal) (HC.keep hal))))
  have HH := Lib.hid H
  obtain ⟨k, hk⟩ : ∃ k, takeE X src seq L now = k := ⟨_, rfl⟩
  rw [hk]
  have HK := Lib.hid hk
  clear hal hks e1 hk H HC
  go_enter Try.func48, Try.ntmps48
  go_wp2_with fail
  refine HCK.out.mono ?_
  rintro e W1 ⟨rfl, hb⟩
  obtain ⟨q, hq⟩ : ∃ q, w.heap.size = q := ⟨_, rfl⟩
  have F2 := Lib.hid (show Below w.heap.size w W1 ∧ RpS q src seq oa n c W1 ∧ MetAt W1 m X ∧ Cts W1 oa n c L from hq ▸ And.intro (bcall F.out.1 (Nat.le_refl _) hb) (And.intro (F.out.2.1.keep hb) (And.intro (F.out.2.2.1.keep hb) (F.out.2.2.2.keep hb))))
  rw [hq]
  clear hq hb F HCK z0 z1 z2 z32
  cases hc : chkR src seq L with
  | false =>
    rw [if_neg (by decide)]
    have HR := Lib.hid (show 1 = k from by rw [← HK.out]; unfold takeE; rw [hc]; rfl)
    have HX := Lib.hid (show takeX X src seq L now = X from takeX_no (by rw [HK.out, ← HR.out]; decide))
    clear hc
    go_wp2_with fail
    go_ret
    exact ⟨ret_int HR.out, by rw [HX.out]; exact .below HH.out F2.out.1⟩
  | true =>
    rw [if_pos rfl]
    cases hn : inM now with
    | false =>
      rw [hn] at HW
      have HR := Lib.hid (show 1 = k from by rw [← HK.out]; unfold takeE; rw [hc, hn]; rfl)
      have HX := Lib.hid (show takeX X src seq L now = X from takeX_no (by rw [HK.out, ← HR.out]; decide))
      clear hc hn
      go_wp2_with fail
      refine (HW.out _).mono ?_
      rintro e W4 ⟨rfl, hw4⟩
      subst hw4
      go_wp2_with fail
      go_ret
      exact ⟨ret_int HR.out, by rw [HX.out]; exact .below HH.out F2.out.1⟩
    | true =>
      rw [hn] at HW
      have hs : chkL L = true ∧ inS src = true ∧ inM seq = true := by
        have := hc
        unfold chkR at this
        simpa [Bool.and_eq_true] using this
      have hs2 : 0 ≤ src ∧ src ≤ 15 := by have := hs.2.1; unfold inS at this; simpa using this
      obtain ⟨i, rfl⟩ : ∃ i : Nat, src = (i : Int) := ⟨src.toNat, by omega⟩
      have hi : i < 16 := by omega
      have hi0 : ((0 : Int) ≤ (i : Int)) = True := by simp
      have hi1 : ((i : Int) < 16) = True := by simp; omega
      have HT := Lib.hid (show k = if oldB (X i) seq then 170 else if 16384 < oth X (i : Int) 16 + L.length then 2 else 0 from by rw [← HK.out]; unfold takeE; rw [hc, hn, if_neg (by decide), Int.toNat_natCast])
      have HP := Lib.hid (And.intro hs (And.intro hi hn))
      clear hc hn hs hs2
      go_wp2_with fail
      refine (HW.out _).mono ?_
      rintro e W4 ⟨rfl, hw4⟩
      subst hw4
      go_wp2_with fail
      obtain ⟨p, q', z3, -, hp, -⟩ := F2.out.2.2.1.at HP.out.2.1
      have HN := Lib.hid (show n = L.length from F2.out.2.2.2.sl.len)
      cases hl : (X i).last with
      | none =>
        rw [hl] at hp
        obtain rfl : p = none := hp
        have HPP := Lib.hid (show W4.cell? ⟨m, i * 2, none⟩ = some (.pointer none) ∧ PtrAt W4 none none from ⟨z3, rfl⟩)
        have HL := Lib.hid hl
        clear hl z3
        have F3 := Lib.hid (show Below w.heap.size w W4 ∧ TkC q m i (i : Int) seq oa n c X none none W4 ∧ Cts W4 oa n c L from ⟨F2.out.1, ⟨F2.out.2.1, F2.out.2.2.1, HPP.out.1, HPP.out.2⟩, F2.out.2.2.2⟩)
        clear F2 HPP
        refine wp_region_heldP (TkC q m i (i : Int) seq oa n c X none none) (by kernel_rfl) ?_
        have hd := (Below.refl W4.heap.size W4).drew
        have G1 := Lib.hid (And.intro (bcall F3.out.1 (Nat.le_refl _) hd) (And.intro (TkC.keep F3.out.2.1 hd) (F3.out.2.2.keep hd)))
        clear hd F3
        generalize W4.drew = V1 at *
        refine held_reads [0, 1, 2, 3, 4, 5] (g := 1) rfl (by kernel_rfl) G1.out.2.1 (fun _ _ d _ _ h => by cases d <;> exact h) ?_
        simp only [pick, List.getD_cons_zero, List.getD_cons_succ]
        ((with_reducible refine wpRead_step (fun K hK => ?_)); go_simp; first | ((with_reducible refine hK _ ?_); clear hK K) | (apply Exists.intro; (with_reducible refine ⟨fun w' hw' => ?_, hK _ ?_⟩); (first | exact rfl | exact ⟨rfl, rfl⟩); clear hK K))
        ((with_reducible refine wpRead_step (fun K hK => ?_)); go_simp; first | ((with_reducible refine hK _ ?_); clear hK K) | (apply Exists.intro; (with_reducible refine ⟨fun w' hw' => ?_, hK _ ?_⟩); (first | exact rfl | exact ⟨rfl, rfl⟩); clear hK K))
        ((with_reducible refine wpRead_step (fun K hK => ?_)); go_simp; first | ((with_reducible refine hK _ ?_); clear hK K) | (apply Exists.intro; (with_reducible refine ⟨fun w' hw' => ?_, hK _ ?_⟩); (obtain ⟨f0, f1, f2⟩ := hw'.rep.cells; have f3 := hw'.ptr; go_simp; first | exact rfl | exact ⟨rfl, rfl⟩); clear hK K))
        ((with_reducible refine wpRead_step (fun K hK => ?_)); go_simp; first | ((with_reducible refine hK _ ?_); clear hK K) | (apply Exists.intro; (with_reducible refine ⟨fun w' hw' => ?_, hK _ ?_⟩); (first | exact rfl | exact ⟨rfl, rfl⟩); clear hK K))
        ((with_reducible refine wpRead_step (fun K hK => ?_)); go_simp; first | ((with_reducible refine hK _ ?_); clear hK K) | (apply Exists.intro; (with_reducible refine ⟨fun w' hw' => ?_, hK _ ?_⟩); (first | exact rfl | exact ⟨rfl, rfl⟩); clear hK K))
        ((with_reducible refine wpRead_step (fun K hK => ?_)); go_simp; first | ((with_reducible refine hK _ ?_); clear hK K) | (apply Exists.intro; (with_reducible refine ⟨fun w' hw' => ?_, hK _ ?_⟩); (first | exact rfl | exact ⟨rfl, rfl⟩); clear hK K))
        with_reducible refine wpRead_nil ?_
        refine held_one 6 (by kernel_rfl) ?_
        simp only [pick, List.getD_cons_zero, List.getD_cons_succ]
        go_wp2_with fail
        refine ⟨G1.out.2.1, ?_⟩
        refine wpAnyH_done (by kernel_rfl) ?_ _
        go_wp2_with fail
        have HOB := Lib.hid (show oldB (X i) seq = false from by unfold oldB; rw [HL.out])
        refine wp_region_heldP (TkC q m i (i : Int) seq oa n c X none none) (by kernel_rfl) ?_
        have hd := (Below.refl V1.heap.size V1).drew
        have G2 := Lib.hid (And.intro (bcall G1.out.1 (Nat.le_refl _) hd) (And.intro (TkC.keep G1.out.2.1 hd) (G1.out.2.2.keep hd)))
        clear hd G1
        generalize V1.drew = V2 at *
        refine held_reads [0, 1, 2, 3, 4, 5, 6, 7, 8, 9, 10, 11, 12, 13, 14, 15, 16] (g := 1) rfl (by kernel_rfl) G2.out.2.1 (fun _ _ d _ _ h => by cases d <;> exact h) ?_
        simp only [pick, List.getD_cons_zero, List.getD_cons_succ]
        ((with_reducible refine wpRead_step (fun K hK => ?_)); go_simp; first | ((with_reducible refine hK _ ?_); clear hK K) | (apply Exists.intro; (with_reducible refine ⟨fun w' hw' => ?_, hK _ ?_⟩); (first | exact rfl | exact ⟨rfl, rfl⟩); clear hK K))
        ((with_reducible refine wpRead_step (fun K hK => ?_)); go_simp; first | ((with_reducible refine hK _ ?_); clear hK K) | (apply Exists.intro; (with_reducible refine ⟨fun w' hw' => ?_, hK _ ?_⟩); (first | exact rfl | exact ⟨rfl, rfl⟩); clear hK K))
        ((with_reducible refine wpRead_step (fun K hK => ?_)); go_simp; first | ((with_reducible refine hK _ ?_); clear hK K) | (apply Exists.intro; (with_reducible refine ⟨fun w' hw' => ?_, hK _ ?_⟩); (first | exact rfl | exact ⟨rfl, rfl⟩); clear hK K))
        ((with_reducible refine wpRead_step (fun K hK => ?_)); go_simp; first | ((with_reducible refine hK _ ?_); clear hK K) | (apply Exists.intro; (with_reducible refine ⟨fun w' hw' => ?_, hK _ ?_⟩); (obtain ⟨f0, f1, f2⟩ := hw'.rep.cells; have f3 := hw'.ptr; go_simp; first | exact rfl | exact ⟨rfl, rfl⟩); clear hK K))
        ((with_reducible refine wpRead_step (fun K hK => ?_)); go_simp; first | ((with_reducible refine hK _ ?_); clear hK K) | (apply Exists.intro; (with_reducible refine ⟨fun w' hw' => ?_, hK _ ?_⟩); (first | exact rfl | exact ⟨rfl, rfl⟩); clear hK K))
        ((with_reducible refine wpRead_step (fun K hK => ?_)); go_simp; first | ((with_reducible refine hK _ ?_); clear hK K) | (apply Exists.intro; (with_reducible refine ⟨fun w' hw' => ?_, hK _ ?_⟩); (first | exact rfl | exact ⟨rfl, rfl⟩); clear hK K))
        ((with_reducible refine wpRead_step (fun K hK => ?_)); go_simp; first | ((with_reducible refine hK _ ?_); clear hK K) | (apply Exists.intro; (with_reducible refine ⟨fun w' hw' => ?_, hK _ ?_⟩); (first | exact rfl | exact ⟨rfl, rfl⟩); clear hK K))
        ((with_reducible refine wpRead_step (fun K hK => ?_)); go_simp; first | ((with_reducible refine hK _ ?_); clear hK K) | (apply Exists.intro; (with_reducible refine ⟨fun w' hw' => ?_, hK _ ?_⟩); (first | exact rfl | exact ⟨rfl, rfl⟩); clear hK K))
        ((with_reducible refine wpRead_step (fun K hK => ?_)); go_simp; first | ((with_reducible refine hK _ ?_); clear hK K) | (apply Exists.intro; (with_reducible refine ⟨fun w' hw' => ?_, hK _ ?_⟩); (first | exact rfl | exact ⟨rfl, rfl⟩); clear hK K))
        ((with_reducible refine wpRead_step (fun K hK => ?_)); go_simp; first | ((with_reducible refine hK _ ?_); clear hK K) | (apply Exists.intro; (with_reducible refine ⟨fun w' hw' => ?_, hK _ ?_⟩); (first | exact rfl | exact ⟨rfl, rfl⟩); clear hK K))
        ((with_reducible refine wpRead_step (fun K hK => ?_)); go_simp; first | ((with_reducible refine hK _ ?_); clear hK K) | (apply Exists.intro; (with_reducible refine ⟨fun w' hw' => ?_, hK _ ?_⟩); (first | exact rfl | exact ⟨rfl, rfl⟩); clear hK K))
        ((with_reducible refine wpRead_step (fun K hK => ?_)); go_simp; first | ((with_reducible refine hK _ ?_); clear hK K) | (apply Exists.intro; (with_reducible refine ⟨fun w' hw' => ?_, hK _ ?_⟩); (first | exact rfl | exact ⟨rfl, rfl⟩); clear hK K))
        ((with_reducible refine wpRead_step (fun K hK => ?_)); go_simp; first | ((with_reducible refine hK _ ?_); clear hK K) | (apply Exists.intro; (with_reducible refine ⟨fun w' hw' => ?_, hK _ ?_⟩); (first | exact rfl | exact ⟨rfl, rfl⟩); clear hK K))
        ((with_reducible refine wpRead_step (fun K hK => ?_)); go_simp; first | ((with_reducible refine hK _ ?_); clear hK K) | (apply Exists.intro; (with_reducible refine ⟨fun w' hw' => ?_, hK _ ?_⟩); (first | exact rfl | exact ⟨rfl, rfl⟩); clear hK K))
        ((with_reducible refine wpRead_step (fun K hK => ?_)); go_simp; first | ((with_reducible refine hK _ ?_); clear hK K) | (apply Exists.intro; (with_reducible refine ⟨fun w' hw' => ?_, hK _ ?_⟩); (first | exact rfl | exact ⟨rfl, rfl⟩); clear hK K))
        ((with_reducible refine wpRead_step (fun K hK => ?_)); go_simp; first | ((with_reducible refine hK _ ?_); clear hK K) | (apply Exists.intro; (with_reducible refine ⟨fun w' hw' => ?_, hK _ ?_⟩); (first | exact rfl | exact ⟨rfl, rfl⟩); clear hK K))
        ((with_reducible refine wpRead_step (fun K hK => ?_)); go_simp; first | ((with_reducible refine hK _ ?_); clear hK K) | (apply Exists.intro; (with_reducible refine ⟨fun w' hw' => ?_, hK _ ?_⟩); (first | exact rfl | exact ⟨rfl, rfl⟩); clear hK K))
        with_reducible refine wpRead_nil ?_
        refine held_one 17 (by kernel_rfl) ?_
        simp only [pick, List.getD_cons_zero, List.getD_cons_succ]
        go_wp2_with fail
        refine ⟨G2.out.2.1, ?_⟩
        refine wpAnyH_done (by kernel_rfl) ?_ _
        go_wp2_with fail
        refine wp_region_heldP (TkC q m i (i : Int) seq oa n c X none none) (by kernel_rfl) ?_
        have hd := (Below.refl V2.heap.size V2).drew
        have G3 := Lib.hid (And.intro (bcall G2.out.1 (Nat.le_refl _) hd) (And.intro (TkC.keep G2.out.2.1 hd) (G2.out.2.2.keep hd)))
        clear hd G2
        generalize V2.drew = V3 at *
        refine held_reads [0, 1, 2, 4, 5, 6] (g := 4) rfl (by kernel_rfl) G3.out.2.1 (fun _ _ d _ _ h => by cases d <;> exact h) ?_
        simp only [pick, List.getD_cons_zero, List.getD_cons_succ]
        ((with_reducible refine wpRead_step (fun K hK => ?_)); go_simp; first | ((with_reducible refine hK _ ?_); clear hK K) | (apply Exists.intro; (with_reducible refine ⟨fun w' hw' => ?_, hK _ ?_⟩); (first | exact rfl | exact ⟨rfl, rfl⟩); clear hK K))
        ((with_reducible refine wpRead_step (fun K hK => ?_)); go_simp; first | ((with_reducible refine hK _ ?_); clear hK K) | (apply Exists.intro; (with_reducible refine ⟨fun w' hw' => ?_, hK _ ?_⟩); (first | exact rfl | exact ⟨rfl, rfl⟩); clear hK K))
        ((with_reducible refine wpRead_step (fun K hK => ?_)); go_simp; first | ((with_reducible refine hK _ ?_); clear hK K) | (apply Exists.intro; (with_reducible refine ⟨fun w' hw' => ?_, hK _ ?_⟩); (obtain ⟨f0, f1, f2⟩ := hw'.rep.cells; have f3 := hw'.ptr; go_simp; first | exact rfl | exact ⟨rfl, rfl⟩); clear hK K))
        ((with_reducible refine wpRead_step (fun K hK => ?_)); go_simp; first | ((with_reducible refine hK _ ?_); clear hK K) | (apply Exists.intro; (with_reducible refine ⟨fun w' hw' => ?_, hK _ ?_⟩); (first | exact rfl | exact ⟨rfl, rfl⟩); clear hK K))
        ((with_reducible refine wpRead_step (fun K hK => ?_)); go_simp; first | ((with_reducible refine hK _ ?_); clear hK K) | (apply Exists.intro; (with_reducible refine ⟨fun w' hw' => ?_, hK _ ?_⟩); (obtain ⟨f0, f1, f2⟩ := hw'.rep.cells; have f3 := hw'.ptr; go_simp; first | exact rfl | exact ⟨rfl, rfl⟩); clear hK K))
        ((with_reducible refine wpRead_step (fun K hK => ?_)); go_simp; first | ((with_reducible refine hK _ ?_); clear hK K) | (apply Exists.intro; (with_reducible refine ⟨fun w' hw' => ?_, hK _ ?_⟩); (first | exact rfl | exact ⟨rfl, rfl⟩); clear hK K))
        with_reducible refine wpRead_nil ?_
        refine held_one 3 (by kernel_rfl) ?_
        simp only [pick, List.getD_cons_zero, List.getD_cons_succ]
        go_wp2_with fail
        have hg := others_any G3.out.2.1.met (i : Int)
        refine hg.mono ?_
        rintro e V4 ⟨rfl, hb⟩
        have G4 := Lib.hid (And.intro (bcall G3.out.1 (Nat.le_refl _) hb) (And.intro (G3.out.2.1.keep hb) (G3.out.2.2.keep hb)))
        clear hb hg G3
        go_wp2_with fail
        refine ⟨G4.out.2.1, ?_⟩
        have hlo : oth X (i : Int) 16 ≤ 16 * 1024 := oth_le HH.out.ok _ 16 (Nat.le_refl _)
        have hln : n ≤ 1024 := by rw [HN.out]; exact chkL_len HP.out.1.1
        generalize hov : oth X (i : Int) 16 = ov at *
        have hwp : IntKind.i64.wrap ((ov : Int) + (n : Int)) = ((ov + n : Nat) : Int) := by rw [IntKind.wrap_i64]; omega
        by_cases h4 : 16384 < ov + n
        · have h4t : ((16384 : Int) < ((ov + n : Nat) : Int)) = True := by simp; omega
          have h4s : ((16384 : Int) < (ov : Int) + (n : Int)) = True := by simp; omega
          have HR := Lib.hid (show 2 = k from by rw [HT.out, if_neg (by rw [HOB.out]; decide), ← HN.out, if_pos h4])
          have HX := Lib.hid (show takeX X (i : Int) seq L now = X from takeX_no (by rw [HK.out, ← HR.out]; decide))
          clear h4 hlo hln hov
          refine held_reads [7, 8] (g := 1) rfl (by kernel_rfl) G4.out.2.1 (fun _ _ d _ _ h => by cases d <;> exact h) ?_
          simp only [pick, List.getD_cons_zero, List.getD_cons_succ]
          ((with_reducible refine wpRead_step (fun K hK => ?_)); go_simp; first | ((with_reducible refine hK _ ?_); clear hK K) | (apply Exists.intro; (with_reducible refine ⟨fun w' hw' => ?_, hK _ ?_⟩); (first | exact rfl | exact ⟨rfl, rfl⟩); clear hK K))
          ((with_reducible refine wpRead_step (fun K hK => ?_)); go_simp; first | ((with_reducible refine hK _ ?_); clear hK K) | (apply Exists.intro; (with_reducible refine ⟨fun w' hw' => ?_, hK _ ?_⟩); (first | exact rfl | exact ⟨rfl, rfl⟩); clear hK K))
          with_reducible refine wpRead_nil ?_
          refine held_one 9 (by kernel_rfl) ?_
          simp only [pick, List.getD_cons_zero, List.getD_cons_succ]
          go_wp2_with fail
          refine ⟨G4.out.2.1, ?_⟩
          refine wpAnyH_done (by kernel_rfl) ?_ _
          go_wp2_with fail
          go_ret
          exact ⟨ret_int HR.out, by rw [HX.out]; exact .below HH.out G4.out.1⟩
        · have h4t : ((16384 : Int) < ((ov + n : Nat) : Int)) = False := by simp; omega
          have h4s : ((16384 : Int) < (ov : Int) + (n : Int)) = False := by simp; omega
          have HR := Lib.hid (show 0 = k from by rw [HT.out, if_neg (by rw [HOB.out]; decide), ← HN.out, if_neg h4])
          have HX := Lib.hid (show takeX X (i : Int) seq L now = fun j => if j = i then ⟨some ⟨seq, now, L⟩, (X j).last⟩ else X j from by unfold takeX; rw [HK.out, ← HR.out, if_pos rfl, Int.toNat_natCast])
          clear h4 hlo hln hov
          refine held_reads [7, 8] (g := 1) rfl (by kernel_rfl) G4.out.2.1 (fun _ _ d _ _ h => by cases d <;> exact h) ?_
          simp only [pick, List.getD_cons_zero, List.getD_cons_succ]
          ((with_reducible refine wpRead_step (fun K hK => ?_)); go_simp; first | ((with_reducible refine hK _ ?_); clear hK K) | (apply Exists.intro; (with_reducible refine ⟨fun w' hw' => ?_, hK _ ?_⟩); (first | exact rfl | exact ⟨rfl, rfl⟩); clear hK K))
          ((with_reducible refine wpRead_step (fun K hK => ?_)); go_simp; first | ((with_reducible refine hK _ ?_); clear hK K) | (apply Exists.intro; (with_reducible refine ⟨fun w' hw' => ?_, hK _ ?_⟩); (first | exact rfl | exact ⟨rfl, rfl⟩); clear hK K))
          with_reducible refine wpRead_nil ?_
          refine held_one 9 (by kernel_rfl) ?_
          simp only [pick, List.getD_cons_zero, List.getD_cons_succ]
          go_wp2_with fail
          refine ⟨G4.out.2.1, ?_⟩
          refine wpAnyH_done (by kernel_rfl) ?_ _
          obtain ⟨z0, z1, z2⟩ := G4.out.2.1.rep.cells
          go_wp2_with fail
          refine (index_any G4.out.2.2).mono ?_
          rintro e V5 ⟨v, rfl, hix⟩
          obtain ⟨bm, rfl, hbm, hcm⟩ := hix.2 HP.out.1.1
          have G5 := Lib.hid (And.intro (bcall G4.out.1 (Nat.le_refl _) hix.1) (And.intro (G4.out.2.1.keep hix.1) hcm))
          clear hix hbm hcm z0 z1 z2 G4
          go_wp2_with fail
          refine wp_region_T 13 (TkC q m i (i : Int) seq oa n c X none none) (by kernel_rfl) ?_
          have hd := (Below.refl V5.heap.size V5).drew
          have G6 := Lib.hid (And.intro (bcall G5.out.1 (Nat.le_refl _) hd) (And.intro (TkC.keep G5.out.2.1 hd) (G5.out.2.2.keep hd)))
          clear hd G5
          generalize V5.drew = V6 at *
          refine T_reads [0, 1, 2, 3, 4, 5, 7, 8, 9, 10] (g := 4) rfl (by kernel_rfl) G6.out.2.1 (fun _ _ d _ _ h => by cases d <;> exact h) ?_
          simp only [pick, List.getD_cons_zero, List.getD_cons_succ]
          ((with_reducible refine wpRead_step (fun K hK => ?_)); go_simp; first | ((with_reducible refine hK _ ?_); clear hK K) | (apply Exists.intro; (with_reducible refine ⟨fun w' hw' => ?_, hK _ ?_⟩); (first | exact rfl | exact ⟨rfl, rfl⟩); clear hK K))
          ((with_reducible refine wpRead_step (fun K hK => ?_)); go_simp; first | ((with_reducible refine hK _ ?_); clear hK K) | (apply Exists.intro; (with_reducible refine ⟨fun w' hw' => ?_, hK _ ?_⟩); (first | exact rfl | exact ⟨rfl, rfl⟩); clear hK K))
          ((with_reducible refine wpRead_step (fun K hK => ?_)); go_simp; first | ((with_reducible refine hK _ ?_); clear hK K) | (apply Exists.intro; (with_reducible refine ⟨fun w' hw' => ?_, hK _ ?_⟩); (obtain ⟨f0, f1, f2⟩ := hw'.rep.cells; have f3 := hw'.ptr; go_simp; first | exact rfl | exact ⟨rfl, rfl⟩); clear hK K))
          ((with_reducible refine wpRead_step (fun K hK => ?_)); go_simp; first | ((with_reducible refine hK _ ?_); clear hK K) | (apply Exists.intro; (with_reducible refine ⟨fun w' hw' => ?_, hK _ ?_⟩); (first | exact rfl | exact ⟨rfl, rfl⟩); clear hK K))
          ((with_reducible refine wpRead_step (fun K hK => ?_)); go_simp; first | ((with_reducible refine hK _ ?_); clear hK K) | (apply Exists.intro; (with_reducible refine ⟨fun w' hw' => ?_, hK _ ?_⟩); (first | exact rfl | exact ⟨rfl, rfl⟩); clear hK K))
          ((with_reducible refine wpRead_step (fun K hK => ?_)); go_simp; first | ((with_reducible refine hK _ ?_); clear hK K) | (apply Exists.intro; (with_reducible refine ⟨fun w' hw' => ?_, hK _ ?_⟩); (first | exact rfl | exact ⟨rfl, rfl⟩); clear hK K))
          ((with_reducible refine wpRead_step (fun K hK => ?_)); go_simp; first | ((with_reducible refine hK _ ?_); clear hK K) | (apply Exists.intro; (with_reducible refine ⟨fun w' hw' => ?_, hK _ ?_⟩); (first | exact rfl | exact ⟨rfl, rfl⟩); clear hK K))
          ((with_reducible refine wpRead_step (fun K hK => ?_)); go_simp; first | ((with_reducible refine hK _ ?_); clear hK K) | (apply Exists.intro; (with_reducible refine ⟨fun w' hw' => ?_, hK _ ?_⟩); (first | exact rfl | exact ⟨rfl, rfl⟩); clear hK K))
          ((with_reducible refine wpRead_step (fun K hK => ?_)); go_simp; first | ((with_reducible refine hK _ ?_); clear hK K) | (apply Exists.intro; (with_reducible refine ⟨fun w' hw' => ?_, hK _ ?_⟩); (first | exact rfl | exact ⟨rfl, rfl⟩); clear hK K))
          ((with_reducible refine wpRead_step (fun K hK => ?_)); go_simp; first | ((with_reducible refine hK _ ?_); clear hK K) | (apply Exists.intro; (with_reducible refine ⟨fun w' hw' => ?_, hK _ ?_⟩); (obtain ⟨f0, f1, f2⟩ := hw'.rep.cells; have f3 := hw'.ptr; go_simp; first | exact rfl | exact ⟨rfl, rfl⟩); clear hK K))
          with_reducible refine wpRead_nil ?_
          refine T_one 6 (by kernel_rfl) ?_
          simp only [pick, List.getD_cons_zero, List.getD_cons_succ]
          have hal := (Below.refl V6.heap.size V6).alloc (Nat.le_refl _) (.cells #[.int .i64 seq, .int .i64 now, .map (some bm)] 135)
          have htk : TkAt (V6.alloc (.cells #[.int .i64 seq, .int .i64 now, .map (some bm)] 135)) V6.heap.size ⟨seq, now, L⟩ := ⟨bm, hnew _ _, G6.out.2.2.keep hal⟩
          have G7 := Lib.hid (And.intro (bcall G6.out.1 (Nat.le_refl _) hal) (And.intro (G6.out.2.1.keep hal) htk))
          clear hal htk G6
          go_wp2_with fail
          refine ⟨fun _ => G7.out.2.1, ?_⟩
          generalize V6.alloc (.cells #[.int .i64 seq, .int .i64 now, .map (some bm)] 135) = V7 at *
          generalize V6.heap.size = tb at *
          refine T_reads [11, 12] (g := 1) rfl (by kernel_rfl) G7.out.2.1 (fun _ _ d _ _ h => by cases d <;> exact h) ?_
          simp only [pick, List.getD_cons_zero, List.getD_cons_succ]
          ((with_reducible refine wpRead_step (fun K hK => ?_)); go_simp; first | ((with_reducible refine hK _ ?_); clear hK K) | (apply Exists.intro; (with_reducible refine ⟨fun w' hw' => ?_, hK _ ?_⟩); (first | exact rfl | exact ⟨rfl, rfl⟩); clear hK K))
          ((with_reducible refine wpRead_step (fun K hK => ?_)); go_simp; first | ((with_reducible refine hK _ ?_); clear hK K) | (apply Exists.intro; (with_reducible refine ⟨fun w' hw' => ?_, hK _ ?_⟩); (first | exact rfl | exact ⟨rfl, rfl⟩); clear hK K))
          with_reducible refine wpRead_nil ?_
          have z3 := G7.out.2.1.ptr
          obtain ⟨v4, z4⟩ := G7.out.2.1.met.two HP.out.2.1
          have fz3 : V7.frozen? ⟨m, i * 2, none⟩ = false := G7.out.2.1.met.free _
          have fz4 : V7.frozen? ⟨m, i * 2 + 1, none⟩ = false := G7.out.2.1.met.free _
          have hput := G7.out.2.1.met.put HP.out.2.1 G7.out.2.2 ⟨HP.out.1.2.2, HP.out.2.2, HP.out.1.1⟩ (p := none) (by rw [HL.out]; exact G7.out.2.1.at') rfl
          have hbt := ((But.of_below G7.out.1 [m]).setCell (a := ⟨m, i * 2, none⟩) (.inr (by simp)) (.pointer (some ⟨tb, 0, none⟩))).setCell (a := ⟨m, i * 2 + 1, none⟩) (.inr (by simp)) (.pointer none)
          have HF := Lib.hid (And.intro hput hbt)
          clear hput hbt
          refine T_one 13 (by kernel_rfl) ?_
          simp only [pick, List.getD_cons_zero, List.getD_cons_succ]
          go_wp2_with fail
          refine ⟨fun h => absurd rfl h, ?_⟩
          refine T_done (by kernel_rfl) ?_ _
          go_wp2_with fail
          go_ret
          exact ⟨ret_int HR.out, by rw [HX.out]; exact ⟨HF.out.1, HF.out.2⟩⟩
      | some r =>
        rw [hl] at hp
        obtain ⟨b, hpb, htk⟩ := hp
        subst hpb
        have HPP := Lib.hid (show W4.cell? ⟨m, i * 2, none⟩ = some (.pointer (some ⟨b, 0, none⟩)) ∧ PtrAt W4 (some ⟨b, 0, none⟩) (some r) from ⟨z3, b, rfl, htk⟩)
        have HL := Lib.hid hl
        clear hl z3 htk
        have F3 := Lib.hid (show Below w.heap.size w W4 ∧ TkC q m i (i : Int) seq oa n c X (some ⟨b, 0, none⟩) (some r) W4 ∧ Cts W4 oa n c L from ⟨F2.out.1, ⟨F2.out.2.1, F2.out.2.2.1, HPP.out.1, HPP.out.2⟩, F2.out.2.2.2⟩)
        clear F2 HPP
        refine wp_region_heldP (TkC q m i (i : Int) seq oa n c X (some ⟨b, 0, none⟩) (some r)) (by kernel_rfl) ?_
        have hd := (Below.refl W4.heap.size W4).drew
        have G8 := Lib.hid (And.intro (bcall F3.out.1 (Nat.le_refl _) hd) (And.intro (TkC.keep F3.out.2.1 hd) (F3.out.2.2.keep hd)))
        clear hd F3
        generalize W4.drew = V8 at *
        refine held_reads [0, 1, 2, 3, 4, 5] (g := 1) rfl (by kernel_rfl) G8.out.2.1 (fun _ _ d _ _ h => by cases d <;> exact h) ?_
        simp only [pick, List.getD_cons_zero, List.getD_cons_succ]
        ((with_reducible refine wpRead_step (fun K hK => ?_)); go_simp; first | ((with_reducible refine hK _ ?_); clear hK K) | (apply Exists.intro; (with_reducible refine ⟨fun w' hw' => ?_, hK _ ?_⟩); (first | exact rfl | exact ⟨rfl, rfl⟩); clear hK K))
        ((with_reducible refine wpRead_step (fun K hK => ?_)); go_simp; first | ((with_reducible refine hK _ ?_); clear hK K) | (apply Exists.intro; (with_reducible refine ⟨fun w' hw' => ?_, hK _ ?_⟩); (first | exact rfl | exact ⟨rfl, rfl⟩); clear hK K))
        ((with_reducible refine wpRead_step (fun K hK => ?_)); go_simp; first | ((with_reducible refine hK _ ?_); clear hK K) | (apply Exists.intro; (with_reducible refine ⟨fun w' hw' => ?_, hK _ ?_⟩); (obtain ⟨f0, f1, f2⟩ := hw'.rep.cells; have f3 := hw'.ptr; have f4 := hw'.at'.seq; go_simp; first | exact rfl | exact ⟨rfl, rfl⟩); clear hK K))
        ((with_reducible refine wpRead_step (fun K hK => ?_)); go_simp; first | ((with_reducible refine hK _ ?_); clear hK K) | (apply Exists.intro; (with_reducible refine ⟨fun w' hw' => ?_, hK _ ?_⟩); (first | exact rfl | exact ⟨rfl, rfl⟩); clear hK K))
        ((with_reducible refine wpRead_step (fun K hK => ?_)); go_simp; first | ((with_reducible refine hK _ ?_); clear hK K) | (apply Exists.intro; (with_reducible refine ⟨fun w' hw' => ?_, hK _ ?_⟩); (first | exact rfl | exact ⟨rfl, rfl⟩); clear hK K))
        ((with_reducible refine wpRead_step (fun K hK => ?_)); go_simp; first | ((with_reducible refine hK _ ?_); clear hK K) | (apply Exists.intro; (with_reducible refine ⟨fun w' hw' => ?_, hK _ ?_⟩); (first | exact rfl | exact ⟨rfl, rfl⟩); clear hK K))
        with_reducible refine wpRead_nil ?_
        refine held_one 6 (by kernel_rfl) ?_
        simp only [pick, List.getD_cons_zero, List.getD_cons_succ]
        go_wp2_with fail
        refine ⟨G8.out.2.1, ?_⟩
        refine wpAnyH_done (by kernel_rfl) ?_ _
        go_wp2_with fail
        by_cases h5 : seq ≤ r.seq
        · have h5t : (seq ≤ r.seq) = True := eq_true h5
          have HR := Lib.hid (show 170 = k from by rw [HT.out, if_pos (by unfold oldB; rw [HL.out]; simpa using h5)])
          have HX := Lib.hid (show takeX X (i : Int) seq L now = X from takeX_no (by rw [HK.out, ← HR.out]; decide))
          clear h5
          refine wp_region_heldP (TkC q m i (i : Int) seq oa n c X (some ⟨b, 0, none⟩) (some r)) (by kernel_rfl) ?_
          have hd := (Below.refl V8.heap.size V8).drew
          have G9 := Lib.hid (And.intro (bcall G8.out.1 (Nat.le_refl _) hd) (And.intro (TkC.keep G8.out.2.1 hd) (G8.out.2.2.keep hd)))
          clear hd G8
          generalize V8.drew = V9 at *
          refine held_reads [0, 1, 2, 3, 4, 5, 6, 7, 8, 9, 10, 11, 12, 13, 14, 15, 16] (g := 1) rfl (by kernel_rfl) G9.out.2.1 (fun _ _ d _ _ h => by cases d <;> exact h) ?_
          simp only [pick, List.getD_cons_zero, List.getD_cons_succ]
          ((with_reducible refine wpRead_step (fun K hK => ?_)); go_simp; first | ((with_reducible refine hK _ ?_); clear hK K) | (apply Exists.intro; (with_reducible refine ⟨fun w' hw' => ?_, hK _ ?_⟩); (first | exact rfl | exact ⟨rfl, rfl⟩); clear hK K))
          ((with_reducible refine wpRead_step (fun K hK => ?_)); go_simp; first | ((with_reducible refine hK _ ?_); clear hK K) | (apply Exists.intro; (with_reducible refine ⟨fun w' hw' => ?_, hK _ ?_⟩); (first | exact rfl | exact ⟨rfl, rfl⟩); clear hK K))
          ((with_reducible refine wpRead_step (fun K hK => ?_)); go_simp; first | ((with_reducible refine hK _ ?_); clear hK K) | (apply Exists.intro; (with_reducible refine ⟨fun w' hw' => ?_, hK _ ?_⟩); (first | exact rfl | exact ⟨rfl, rfl⟩); clear hK K))
          ((with_reducible refine wpRead_step (fun K hK => ?_)); go_simp; first | ((with_reducible refine hK _ ?_); clear hK K) | (apply Exists.intro; (with_reducible refine ⟨fun w' hw' => ?_, hK _ ?_⟩); (obtain ⟨f0, f1, f2⟩ := hw'.rep.cells; have f3 := hw'.ptr; have f4 := hw'.at'.seq; go_simp; first | exact rfl | exact ⟨rfl, rfl⟩); clear hK K))
          ((with_reducible refine wpRead_step (fun K hK => ?_)); go_simp; first | ((with_reducible refine hK _ ?_); clear hK K) | (apply Exists.intro; (with_reducible refine ⟨fun w' hw' => ?_, hK _ ?_⟩); (first | exact rfl | exact ⟨rfl, rfl⟩); clear hK K))
          ((with_reducible refine wpRead_step (fun K hK => ?_)); go_simp; first | ((with_reducible refine hK _ ?_); clear hK K) | (apply Exists.intro; (with_reducible refine ⟨fun w' hw' => ?_, hK _ ?_⟩); (first | exact rfl | exact ⟨rfl, rfl⟩); clear hK K))
          ((with_reducible refine wpRead_step (fun K hK => ?_)); go_simp; first | ((with_reducible refine hK _ ?_); clear hK K) | (apply Exists.intro; (with_reducible refine ⟨fun w' hw' => ?_, hK _ ?_⟩); (first | exact rfl | exact ⟨rfl, rfl⟩); clear hK K))
          ((with_reducible refine wpRead_step (fun K hK => ?_)); go_simp; first | ((with_reducible refine hK _ ?_); clear hK K) | (apply Exists.intro; (with_reducible refine ⟨fun w' hw' => ?_, hK _ ?_⟩); (obtain ⟨f0, f1, f2⟩ := hw'.rep.cells; have f3 := hw'.ptr; have f4 := hw'.at'.seq; go_simp; first | exact rfl | exact ⟨rfl, rfl⟩); clear hK K))
          ((with_reducible refine wpRead_step (fun K hK => ?_)); go_simp; first | ((with_reducible refine hK _ ?_); clear hK K) | (apply Exists.intro; (with_reducible refine ⟨fun w' hw' => ?_, hK _ ?_⟩); (first | exact rfl | exact ⟨rfl, rfl⟩); clear hK K))
          ((with_reducible refine wpRead_step (fun K hK => ?_)); go_simp; first | ((with_reducible refine hK _ ?_); clear hK K) | (apply Exists.intro; (with_reducible refine ⟨fun w' hw' => ?_, hK _ ?_⟩); (first | exact rfl | exact ⟨rfl, rfl⟩); clear hK K))
          ((with_reducible refine wpRead_step (fun K hK => ?_)); go_simp; first | ((with_reducible refine hK _ ?_); clear hK K) | (apply Exists.intro; (with_reducible refine ⟨fun w' hw' => ?_, hK _ ?_⟩); (first | exact rfl | exact ⟨rfl, rfl⟩); clear hK K))
          ((with_reducible refine wpRead_step (fun K hK => ?_)); go_simp; first | ((with_reducible refine hK _ ?_); clear hK K) | (apply Exists.intro; (with_reducible refine ⟨fun w' hw' => ?_, hK _ ?_⟩); (obtain ⟨f0, f1, f2⟩ := hw'.rep.cells; have f3 := hw'.ptr; have f4 := hw'.at'.seq; go_simp; first | exact rfl | exact ⟨rfl, rfl⟩); clear hK K))
          ((with_reducible refine wpRead_step (fun K hK => ?_)); go_simp; first | ((with_reducible refine hK _ ?_); clear hK K) | (apply Exists.intro; (with_reducible refine ⟨fun w' hw' => ?_, hK _ ?_⟩); (first | exact rfl | exact ⟨rfl, rfl⟩); clear hK K))
          ((with_reducible refine wpRead_step (fun K hK => ?_)); go_simp; first | ((with_reducible refine hK _ ?_); clear hK K) | (apply Exists.intro; (with_reducible refine ⟨fun w' hw' => ?_, hK _ ?_⟩); (first | exact rfl | exact ⟨rfl, rfl⟩); clear hK K))
          ((with_reducible refine wpRead_step (fun K hK => ?_)); go_simp; first | ((with_reducible refine hK _ ?_); clear hK K) | (apply Exists.intro; (with_reducible refine ⟨fun w' hw' => ?_, hK _ ?_⟩); (obtain ⟨f0, f1, f2⟩ := hw'.rep.cells; have f3 := hw'.ptr; have f4 := hw'.at'.seq; go_simp; first | exact rfl | exact ⟨rfl, rfl⟩); clear hK K))
          ((with_reducible refine wpRead_step (fun K hK => ?_)); go_simp; first | ((with_reducible refine hK _ ?_); clear hK K) | (apply Exists.intro; (with_reducible refine ⟨fun w' hw' => ?_, hK _ ?_⟩); (first | exact rfl | exact ⟨rfl, rfl⟩); clear hK K))
          ((with_reducible refine wpRead_step (fun K hK => ?_)); go_simp; first | ((with_reducible refine hK _ ?_); clear hK K) | (apply Exists.intro; (with_reducible refine ⟨fun w' hw' => ?_, hK _ ?_⟩); (first | exact rfl | exact ⟨rfl, rfl⟩); clear hK K))
          with_reducible refine wpRead_nil ?_
          refine held_one 17 (by kernel_rfl) ?_
          simp only [pick, List.getD_cons_zero, List.getD_cons_succ]
          go_wp2_with fail
          refine ⟨G9.out.2.1, ?_⟩
          refine wpAnyH_done (by kernel_rfl) ?_ _
          go_wp2_with fail
          go_ret
          exact ⟨ret_int HR.out, by rw [HX.out]; exact .below HH.out G9.out.1⟩
        · have h5t : (seq ≤ r.seq) = False := eq_false h5
          have HOB := Lib.hid (show oldB (X i) seq = false from by unfold oldB; rw [HL.out]; simpa using h5)
          clear h5
          refine wp_region_heldP (TkC q m i (i : Int) seq oa n c X (some ⟨b, 0, none⟩) (some r)) (by kernel_rfl) ?_
          have hd := (Below.refl V8.heap.size V8).drew
          have G10 := Lib.hid (And.intro (bcall G8.out.1 (Nat.le_refl _) hd) (And.intro (TkC.keep G8.out.2.1 hd) (G8.out.2.2.keep hd)))
          clear hd G8
          generalize V8.drew = V10 at *
          refine held_reads [0, 1, 2, 3, 4, 5, 6, 7, 8, 9, 10, 11, 12, 13, 14, 15, 16] (g := 1) rfl (by kernel_rfl) G10.out.2.1 (fun _ _ d _ _ h => by cases d <;> exact h) ?_
          simp only [pick, List.getD_cons_zero, List.getD_cons_succ]
          ((with_reducible refine wpRead_step (fun K hK => ?_)); go_simp; first | ((with_reducible refine hK _ ?_); clear hK K) | (apply Exists.intro; (with_reducible refine ⟨fun w' hw' => ?_, hK _ ?_⟩); (first | exact rfl | exact ⟨rfl, rfl⟩); clear hK K))
          ((with_reducible refine wpRead_step (fun K hK => ?_)); go_simp; first | ((with_reducible refine hK _ ?_); clear hK K) | (apply Exists.intro; (with_reducible refine ⟨fun w' hw' => ?_, hK _ ?_⟩); (first | exact rfl | exact ⟨rfl, rfl⟩); clear hK K))
          ((with_reducible refine wpRead_step (fun K hK => ?_)); go_simp; first | ((with_reducible refine hK _ ?_); clear hK K) | (apply Exists.intro; (with_reducible refine ⟨fun w' hw' => ?_, hK _ ?_⟩); (first | exact rfl | exact ⟨rfl, rfl⟩); clear hK K))
          ((with_reducible refine wpRead_step (fun K hK => ?_)); go_simp; first | ((with_reducible refine hK _ ?_); clear hK K) | (apply Exists.intro; (with_reducible refine ⟨fun w' hw' => ?_, hK _ ?_⟩); (obtain ⟨f0, f1, f2⟩ := hw'.rep.cells; have f3 := hw'.ptr; have f4 := hw'.at'.seq; go_simp; first | exact rfl | exact ⟨rfl, rfl⟩); clear hK K))
          ((with_reducible refine wpRead_step (fun K hK => ?_)); go_simp; first | ((with_reducible refine hK _ ?_); clear hK K) | (apply Exists.intro; (with_reducible refine ⟨fun w' hw' => ?_, hK _ ?_⟩); (first | exact rfl | exact ⟨rfl, rfl⟩); clear hK K))
          ((with_reducible refine wpRead_step (fun K hK => ?_)); go_simp; first | ((with_reducible refine hK _ ?_); clear hK K) | (apply Exists.intro; (with_reducible refine ⟨fun w' hw' => ?_, hK _ ?_⟩); (first | exact rfl | exact ⟨rfl, rfl⟩); clear hK K))
          ((with_reducible refine wpRead_step (fun K hK => ?_)); go_simp; first | ((with_reducible refine hK _ ?_); clear hK K) | (apply Exists.intro; (with_reducible refine ⟨fun w' hw' => ?_, hK _ ?_⟩); (first | exact rfl | exact ⟨rfl, rfl⟩); clear hK K))
          ((with_reducible refine wpRead_step (fun K hK => ?_)); go_simp; first | ((with_reducible refine hK _ ?_); clear hK K) | (apply Exists.intro; (with_reducible refine ⟨fun w' hw' => ?_, hK _ ?_⟩); (obtain ⟨f0, f1, f2⟩ := hw'.rep.cells; have f3 := hw'.ptr; have f4 := hw'.at'.seq; go_simp; first | exact rfl | exact ⟨rfl, rfl⟩); clear hK K))
          ((with_reducible refine wpRead_step (fun K hK => ?_)); go_simp; first | ((with_reducible refine hK _ ?_); clear hK K) | (apply Exists.intro; (with_reducible refine ⟨fun w' hw' => ?_, hK _ ?_⟩); (first | exact rfl | exact ⟨rfl, rfl⟩); clear hK K))
          ((with_reducible refine wpRead_step (fun K hK => ?_)); go_simp; first | ((with_reducible refine hK _ ?_); clear hK K) | (apply Exists.intro; (with_reducible refine ⟨fun w' hw' => ?_, hK _ ?_⟩); (first | exact rfl | exact ⟨rfl, rfl⟩); clear hK K))
          ((with_reducible refine wpRead_step (fun K hK => ?_)); go_simp; first | ((with_reducible refine hK _ ?_); clear hK K) | (apply Exists.intro; (with_reducible refine ⟨fun w' hw' => ?_, hK _ ?_⟩); (first | exact rfl | exact ⟨rfl, rfl⟩); clear hK K))
          ((with_reducible refine wpRead_step (fun K hK => ?_)); go_simp; first | ((with_reducible refine hK _ ?_); clear hK K) | (apply Exists.intro; (with_reducible refine ⟨fun w' hw' => ?_, hK _ ?_⟩); (obtain ⟨f0, f1, f2⟩ := hw'.rep.cells; have f3 := hw'.ptr; have f4 := hw'.at'.seq; go_simp; first | exact rfl | exact ⟨rfl, rfl⟩); clear hK K))
          ((with_reducible refine wpRead_step (fun K hK => ?_)); go_simp; first | ((with_reducible refine hK _ ?_); clear hK K) | (apply Exists.intro; (with_reducible refine ⟨fun w' hw' => ?_, hK _ ?_⟩); (first | exact rfl | exact ⟨rfl, rfl⟩); clear hK K))
          ((with_reducible refine wpRead_step (fun K hK => ?_)); go_simp; first | ((with_reducible refine hK _ ?_); clear hK K) | (apply Exists.intro; (with_reducible refine ⟨fun w' hw' => ?_, hK _ ?_⟩); (first | exact rfl | exact ⟨rfl, rfl⟩); clear hK K))
          ((with_reducible refine wpRead_step (fun K hK => ?_)); go_simp; first | ((with_reducible refine hK _ ?_); clear hK K) | (apply Exists.intro; (with_reducible refine ⟨fun w' hw' => ?_, hK _ ?_⟩); (obtain ⟨f0, f1, f2⟩ := hw'.rep.cells; have f3 := hw'.ptr; have f4 := hw'.at'.seq; go_simp; first | exact rfl | exact ⟨rfl, rfl⟩); clear hK K))
          ((with_reducible refine wpRead_step (fun K hK => ?_)); go_simp; first | ((with_reducible refine hK _ ?_); clear hK K) | (apply Exists.intro; (with_reducible refine ⟨fun w' hw' => ?_, hK _ ?_⟩); (first | exact rfl | exact ⟨rfl, rfl⟩); clear hK K))
          ((with_reducible refine wpRead_step (fun K hK => ?_)); go_simp; first | ((with_reducible refine hK _ ?_); clear hK K) | (apply Exists.intro; (with_reducible refine ⟨fun w' hw' => ?_, hK _ ?_⟩); (first | exact rfl | exact ⟨rfl, rfl⟩); clear hK K))
          with_reducible refine wpRead_nil ?_
          refine held_one 17 (by kernel_rfl) ?_
          simp only [pick, List.getD_cons_zero, List.getD_cons_succ]
          go_wp2_with fail
          refine ⟨G10.out.2.1, ?_⟩
          refine wpAnyH_done (by kernel_rfl) ?_ _
          go_wp2_with fail
          refine wp_region_heldP (TkC q m i (i : Int) seq oa n c X (some ⟨b, 0, none⟩) (some r)) (by kernel_rfl) ?_
          have hd := (Below.refl V10.heap.size V10).drew
          have G11 := Lib.hid (And.intro (bcall G10.out.1 (Nat.le_refl _) hd) (And.intro (TkC.keep G10.out.2.1 hd) (G10.out.2.2.keep hd)))
          clear hd G10
          generalize V10.drew = V11 at *
          refine held_reads [0, 1, 2, 4, 5, 6] (g := 4) rfl (by kernel_rfl) G11.out.2.1 (fun _ _ d _ _ h => by cases d <;> exact h) ?_
          simp only [pick, List.getD_cons_zero, List.getD_cons_succ]
          ((with_reducible refine wpRead_step (fun K hK => ?_)); go_simp; first | ((with_reducible refine hK _ ?_); clear hK K) | (apply Exists.intro; (with_reducible refine ⟨fun w' hw' => ?_, hK _ ?_⟩); (first | exact rfl | exact ⟨rfl, rfl⟩); clear hK K))
          ((with_reducible refine wpRead_step (fun K hK => ?_)); go_simp; first | ((with_reducible refine hK _ ?_); clear hK K) | (apply Exists.intro; (with_reducible refine ⟨fun w' hw' => ?_, hK _ ?_⟩); (first | exact rfl | exact ⟨rfl, rfl⟩); clear hK K))
          ((with_reducible refine wpRead_step (fun K hK => ?_)); go_simp; first | ((with_reducible refine hK _ ?_); clear hK K) | (apply Exists.intro; (with_reducible refine ⟨fun w' hw' => ?_, hK _ ?_⟩); (obtain ⟨f0, f1, f2⟩ := hw'.rep.cells; have f3 := hw'.ptr; have f4 := hw'.at'.seq; go_simp; first | exact rfl | exact ⟨rfl, rfl⟩); clear hK K))
          ((with_reducible refine wpRead_step (fun K hK => ?_)); go_simp; first | ((with_reducible refine hK _ ?_); clear hK K) | (apply Exists.intro; (with_reducible refine ⟨fun w' hw' => ?_, hK _ ?_⟩); (first | exact rfl | exact ⟨rfl, rfl⟩); clear hK K))
          ((with_reducible refine wpRead_step (fun K hK => ?_)); go_simp; first | ((with_reducible refine hK _ ?_); clear hK K) | (apply Exists.intro; (with_reducible refine ⟨fun w' hw' => ?_, hK _ ?_⟩); (obtain ⟨f0, f1, f2⟩ := hw'.rep.cells; have f3 := hw'.ptr; have f4 := hw'.at'.seq; go_simp; first | exact rfl | exact ⟨rfl, rfl⟩); clear hK K))
          ((with_reducible refine wpRead_step (fun K hK => ?_)); go_simp; first | ((with_reducible refine hK _ ?_); clear hK K) | (apply Exists.intro; (with_reducible refine ⟨fun w' hw' => ?_, hK _ ?_⟩); (first | exact rfl | exact ⟨rfl, rfl⟩); clear hK K))
          with_reducible refine wpRead_nil ?_
          refine held_one 3 (by kernel_rfl) ?_
          simp only [pick, List.getD_cons_zero, List.getD_cons_succ]
          go_wp2_with fail
          have hg := others_any G11.out.2.1.met (i : Int)
          refine hg.mono ?_
          rintro e V12 ⟨rfl, hb⟩
          have G12 := Lib.hid (And.intro (bcall G11.out.1 (Nat.le_refl _) hb) (And.intro (G11.out.2.1.keep hb) (G11.out.2.2.keep hb)))
          clear hb hg G11
          go_wp2_with fail
          refine ⟨G12.out.2.1, ?_⟩
          have hlo : oth X (i : Int) 16 ≤ 16 * 1024 := oth_le HH.out.ok _ 16 (Nat.le_refl _)
          have hln : n ≤ 1024 := by rw [HN.out]; exact chkL_len HP.out.1.1
          generalize hov : oth X (i : Int) 16 = ov at *
          have hwp : IntKind.i64.wrap ((ov : Int) + (n : Int)) = ((ov + n : Nat) : Int) := by rw [IntKind.wrap_i64]; omega
          by_cases h4 : 16384 < ov + n
          · have h4t : ((16384 : Int) < ((ov + n : Nat) : Int)) = True := by simp; omega
            have h4s : ((16384 : Int) < (ov : Int) + (n : Int)) = True := by simp; omega
            have HR := Lib.hid (show 2 = k from by rw [HT.out, if_neg (by rw [HOB.out]; decide), ← HN.out, if_pos h4])
            have HX := Lib.hid (show takeX X (i : Int) seq L now = X from takeX_no (by rw [HK.out, ← HR.out]; decide))
            clear h4 hlo hln hov
            refine held_reads [7, 8] (g := 1) rfl (by kernel_rfl) G12.out.2.1 (fun _ _ d _ _ h => by cases d <;> exact h) ?_
            simp only [pick, List.getD_cons_zero, List.getD_cons_succ]
            ((with_reducible refine wpRead_step (fun K hK => ?_)); go_simp; first | ((with_reducible refine hK _ ?_); clear hK K) | (apply Exists.intro; (with_reducible refine ⟨fun w' hw' => ?_, hK _ ?_⟩); (first | exact rfl | exact ⟨rfl, rfl⟩); clear hK K))
            ((with_reducible refine wpRead_step (fun K hK => ?_)); go_simp; first | ((with_reducible refine hK _ ?_); clear hK K) | (apply Exists.intro; (with_reducible refine ⟨fun w' hw' => ?_, hK _ ?_⟩); (first | exact rfl | exact ⟨rfl, rfl⟩); clear hK K))
            with_reducible refine wpRead_nil ?_
            refine held_one 9 (by kernel_rfl) ?_
            simp only [pick, List.getD_cons_zero, List.getD_cons_succ]
            go_wp2_with fail
            refine ⟨G12.out.2.1, ?_⟩
            refine wpAnyH_done (by kernel_rfl) ?_ _
            go_wp2_with fail
            go_ret
            exact ⟨ret_int HR.out, by rw [HX.out]; exact .below HH.out G12.out.1⟩
          · have h4t : ((16384 : Int) < ((ov + n : Nat) : Int)) = False := by simp; omega
            have h4s : ((16384 : Int) < (ov : Int) + (n : Int)) = False := by simp; omega
            have HR := Lib.hid (show 0 = k from by rw [HT.out, if_neg (by rw [HOB.out]; decide), ← HN.out, if_neg h4])
            have HX := Lib.hid (show takeX X (i : Int) seq L now = fun j => if j = i then ⟨some ⟨seq, now, L⟩, (X j).last⟩ else X j from by unfold takeX; rw [HK.out, ← HR.out, if_pos rfl, Int.toNat_natCast])
            clear h4 hlo hln hov
            refine held_reads [7, 8] (g := 1) rfl (by kernel_rfl) G12.out.2.1 (fun _ _ d _ _ h => by cases d <;> exact h) ?_
            simp only [pick, List.getD_cons_zero, List.getD_cons_succ]
            ((with_reducible refine wpRead_step (fun K hK => ?_)); go_simp; first | ((with_reducible refine hK _ ?_); clear hK K) | (apply Exists.intro; (with_reducible refine ⟨fun w' hw' => ?_, hK _ ?_⟩); (first | exact rfl | exact ⟨rfl, rfl⟩); clear hK K))
            ((with_reducible refine wpRead_step (fun K hK => ?_)); go_simp; first | ((with_reducible refine hK _ ?_); clear hK K) | (apply Exists.intro; (with_reducible refine ⟨fun w' hw' => ?_, hK _ ?_⟩); (first | exact rfl | exact ⟨rfl, rfl⟩); clear hK K))
            with_reducible refine wpRead_nil ?_
            refine held_one 9 (by kernel_rfl) ?_
            simp only [pick, List.getD_cons_zero, List.getD_cons_succ]
            go_wp2_with fail
            refine ⟨G12.out.2.1, ?_⟩
            refine wpAnyH_done (by kernel_rfl) ?_ _
            obtain ⟨z0, z1, z2⟩ := G12.out.2.1.rep.cells
            go_wp2_with fail
            refine (index_any G12.out.2.2).mono ?_
            rintro e V13 ⟨v, rfl, hix⟩
            obtain ⟨bm, rfl, hbm, hcm⟩ := hix.2 HP.out.1.1
            have G13 := Lib.hid (And.intro (bcall G12.out.1 (Nat.le_refl _) hix.1) (And.intro (G12.out.2.1.keep hix.1) hcm))
            clear hix hbm hcm z0 z1 z2 G12
            go_wp2_with fail
            refine wp_region_T 13 (TkC q m i (i : Int) seq oa n c X (some ⟨b, 0, none⟩) (some r)) (by kernel_rfl) ?_
            have hd := (Below.refl V13.heap.size V13).drew
            have G14 := Lib.hid (And.intro (bcall G13.out.1 (Nat.le_refl _) hd) (And.intro (TkC.keep G13.out.2.1 hd) (G13.out.2.2.keep hd)))
            clear hd G13
            generalize V13.drew = V14 at *
            refine T_reads [0, 1, 2, 3, 4, 5, 7, 8, 9, 10] (g := 4) rfl (by kernel_rfl) G14.out.2.1 (fun _ _ d _ _ h => by cases d <;> exact h) ?_
            simp only [pick, List.getD_cons_zero, List.getD_cons_succ]
            ((with_reducible refine wpRead_step (fun K hK => ?_)); go_simp; first | ((with_reducible refine hK _ ?_); clear hK K) | (apply Exists.intro; (with_reducible refine ⟨fun w' hw' => ?_, hK _ ?_⟩); (first | exact rfl | exact ⟨rfl, rfl⟩); clear hK K))
            ((with_reducible refine wpRead_step (fun K hK => ?_)); go_simp; first | ((with_reducible refine hK _ ?_); clear hK K) | (apply Exists.intro; (with_reducible refine ⟨fun w' hw' => ?_, hK _ ?_⟩); (first | exact rfl | exact ⟨rfl, rfl⟩); clear hK K))
            ((with_reducible refine wpRead_step (fun K hK => ?_)); go_simp; first | ((with_reducible refine hK _ ?_); clear hK K) | (apply Exists.intro; (with_reducible refine ⟨fun w' hw' => ?_, hK _ ?_⟩); (obtain ⟨f0, f1, f2⟩ := hw'.rep.cells; have f3 := hw'.ptr; have f4 := hw'.at'.seq; go_simp; first | exact rfl | exact ⟨rfl, rfl⟩); clear hK K))
            ((with_reducible refine wpRead_step (fun K hK => ?_)); go_simp; first | ((with_reducible refine hK _ ?_); clear hK K) | (apply Exists.intro; (with_reducible refine ⟨fun w' hw' => ?_, hK _ ?_⟩); (first | exact rfl | exact ⟨rfl, rfl⟩); clear hK K))
            ((with_reducible refine wpRead_step (fun K hK => ?_)); go_simp; first | ((with_reducible refine hK _ ?_); clear hK K) | (apply Exists.intro; (with_reducible refine ⟨fun w' hw' => ?_, hK _ ?_⟩); (first | exact rfl | exact ⟨rfl, rfl⟩); clear hK K))
            ((with_reducible refine wpRead_step (fun K hK => ?_)); go_simp; first | ((with_reducible refine hK _ ?_); clear hK K) | (apply Exists.intro; (with_reducible refine ⟨fun w' hw' => ?_, hK _ ?_⟩); (first | exact rfl | exact ⟨rfl, rfl⟩); clear hK K))
            ((with_reducible refine wpRead_step (fun K hK => ?_)); go_simp; first | ((with_reducible refine hK _ ?_); clear hK K) | (apply Exists.intro; (with_reducible refine ⟨fun w' hw' => ?_, hK _ ?_⟩); (first | exact rfl | exact ⟨rfl, rfl⟩); clear hK K))
            ((with_reducible refine wpRead_step (fun K hK => ?_)); go_simp; first | ((with_reducible refine hK _ ?_); clear hK K) | (apply Exists.intro; (with_reducible refine ⟨fun w' hw' => ?_, hK _ ?_⟩); (first | exact rfl | exact ⟨rfl, rfl⟩); clear hK K))
            ((with_reducible refine wpRead_step (fun K hK => ?_)); go_simp; first | ((with_reducible refine hK _ ?_); clear hK K) | (apply Exists.intro; (with_reducible refine ⟨fun w' hw' => ?_, hK _ ?_⟩); (first | exact rfl | exact ⟨rfl, rfl⟩); clear hK K))
            ((with_reducible refine wpRead_step (fun K hK => ?_)); go_simp; first | ((with_reducible refine hK _ ?_); clear hK K) | (apply Exists.intro; (with_reducible refine ⟨fun w' hw' => ?_, hK _ ?_⟩); (obtain ⟨f0, f1, f2⟩ := hw'.rep.cells; have f3 := hw'.ptr; have f4 := hw'.at'.seq; go_simp; first | exact rfl | exact ⟨rfl, rfl⟩); clear hK K))
            with_reducible refine wpRead_nil ?_
            refine T_one 6 (by kernel_rfl) ?_
            simp only [pick, List.getD_cons_zero, List.getD_cons_succ]
            have hal := (Below.refl V14.heap.size V14).alloc (Nat.le_refl _) (.cells #[.int .i64 seq, .int .i64 now, .map (some bm)] 135)
            have htk : TkAt (V14.alloc (.cells #[.int .i64 seq, .int .i64 now, .map (some bm)] 135)) V14.heap.size ⟨seq, now, L⟩ := ⟨bm, hnew _ _, G14.out.2.2.keep hal⟩
            have G15 := Lib.hid (And.intro (bcall G14.out.1 (Nat.le_refl _) hal) (And.intro (G14.out.2.1.keep hal) htk))
            clear hal htk G14
            go_wp2_with fail
            refine ⟨fun _ => G15.out.2.1, ?_⟩
            generalize V14.alloc (.cells #[.int .i64 seq, .int .i64 now, .map (some bm)] 135) = V15 at *
            generalize V14.heap.size = tb at *
            refine T_reads [11, 12] (g := 1) rfl (by kernel_rfl) G15.out.2.1 (fun _ _ d _ _ h => by cases d <;> exact h) ?_
            simp only [pick, List.getD_cons_zero, List.getD_cons_succ]
            ((with_reducible refine wpRead_step (fun K hK => ?_)); go_simp; first | ((with_reducible refine hK _ ?_); clear hK K) | (apply Exists.intro; (with_reducible refine ⟨fun w' hw' => ?_, hK _ ?_⟩); (first | exact rfl | exact ⟨rfl, rfl⟩); clear hK K))
            ((with_reducible refine wpRead_step (fun K hK => ?_)); go_simp; first | ((with_reducible refine hK _ ?_); clear hK K) | (apply Exists.intro; (with_reducible refine ⟨fun w' hw' => ?_, hK _ ?_⟩); (first | exact rfl | exact ⟨rfl, rfl⟩); clear hK K))
            with_reducible refine wpRead_nil ?_
            have z3 := G15.out.2.1.ptr
            obtain ⟨v4, z4⟩ := G15.out.2.1.met.two HP.out.2.1
            have fz3 : V15.frozen? ⟨m, i * 2, none⟩ = false := G15.out.2.1.met.free _
            have fz4 : V15.frozen? ⟨m, i * 2 + 1, none⟩ = false := G15.out.2.1.met.free _
            have hput := G15.out.2.1.met.put HP.out.2.1 G15.out.2.2 ⟨HP.out.1.2.2, HP.out.2.2, HP.out.1.1⟩ (p := (some ⟨b, 0, none⟩)) (by rw [HL.out]; exact G15.out.2.1.at') rfl
            have hbt := ((But.of_below G15.out.1 [m]).setCell (a := ⟨m, i * 2, none⟩) (.inr (by simp)) (.pointer (some ⟨tb, 0, none⟩))).setCell (a := ⟨m, i * 2 + 1, none⟩) (.inr (by simp)) (.pointer (some ⟨b, 0, none⟩))
            have HF := Lib.hid (And.intro hput hbt)
            clear hput hbt
            refine T_one 13 (by kernel_rfl) ?_
            simp only [pick, List.getD_cons_zero, List.getD_cons_succ]
            go_wp2_with fail
            refine ⟨fun h => absurd rfl h, ?_⟩
            refine T_done (by kernel_rfl) ?_ _
            go_wp2_with fail
            go_ret
            exact ⟨ret_int HR.out, by rw [HX.out]; exact ⟨HF.out.1, HF.out.2⟩⟩
end Go.Proofs.Ytfmehahjjgalfaa.Me

