/- Meter: others, Stamp. -/
import Derived.Test.YtfmehahjjgalfaaUc
namespace Go.Proofs.Ytfmehahjjgalfaa.Me
open Go.RowKit
open Go.ChangeMaps (setBlock)

def lenO (s : Src) : Nat := match s.last with | some r => r.cs.length | none => 0
theorem lenO_le {s : Src} (h : s.ok) : lenO s ≤ 1024 := by
  unfold lenO
  split
  · rename_i r e; exact chkL_len (h.last r e).chk
  · omega
def oth (X : Nat → Src) (k : Int) (i : Nat) : Nat := ((List.range i).map fun (j : Nat) => if (j : Int) = k then 0 else lenO (X j)).sum
theorem oth_succ (X : Nat → Src) (k : Int) (i : Nat) : oth X k (i + 1) = oth X k i + if (i : Int) = k then 0 else lenO (X i) := by
  unfold oth
  rw [List.range_succ, List.map_append, List.sum_append]
  simp
theorem oth_le {X : Nat → Src} (h : ∀ i, i < 16 → (X i).ok) (k : Int) (i : Nat) (hi : i ≤ 16) : oth X k i ≤ i * 1024 := by
  induction i with
  | zero => simp [oth]
  | succ i ih =>
    rw [oth_succ]
    have h1 := ih (Nat.le_of_succ_le hi)
    have h2 := lenO_le (h i hi)
    rw [Nat.succ_mul]
    refine Nat.add_le_add h1 ?_
    split
    · exact Nat.zero_le _
    · exact h2
def SrS (b : Nat) (p q : Option Addr) (w : World) : Prop := w.heap[b]? = some (.cells #[.pointer p, .pointer q] 123)
theorem SrS.cells {b : Nat} {p q : Option Addr} {w : World} (h : SrS b p q w) : w.cell? ⟨b, 0, none⟩ = some (.pointer p) ∧ w.cell? ⟨b, 1, none⟩ = some (.pointer q) := ⟨cell_of h rfl, cell_of h rfl⟩
theorem SrS.keep {b : Nat} {p q : Option Addr} {w w' : World} (h : SrS b p q w) (hb : Below w.heap.size w w') : SrS b p q w' := (hb.block _ (lt_of_blk h)).trans h
theorem TkAt.keep {w w' : World} {b : Nat} {r : Rp} (H : TkAt w b r) (hb : Below w.heap.size w w') : TkAt w' b r := by
  obtain ⟨bm, h1, h2⟩ := H
  exact ⟨bm, (hb.block _ (lt_of_blk h1)).trans h1, h2.keep hb⟩
theorem PtrAt.keep {w w' : World} {p : Option Addr} {o : Option Rp} (H : PtrAt w p o) (hb : Below w.heap.size w w') : PtrAt w' p o := by
  cases o with
  | none => exact H
  | some r =>
    obtain ⟨b, h1, h2⟩ := H
    exact ⟨b, h1, h2.keep hb⟩
set_option maxRecDepth 100000 in
set_option maxHeartbeats 2000000 in
theorem others_any {w : World} {m : Nat} {X : Nat → Src} (H : MetAt w m X) (k : Int) : Calls Try.prog 76 #[.pointer (some ⟨m, 0, none⟩), .int .i64 k] w fun e w' => e = .returned (.int .i64 (oth X k 16 : Nat)) ∧ Below w.heap.size w w' := by
  obtain ⟨A, hA, hra, hall⟩ := H.all
  have HM := Lib.hid (And.intro H hall)
  clear H hall
  go_enter Try.func76, Try.ntmps76
  go_wp2_with (with_reducible refine halt_load 124 rfl ?_)
  refine Halted.go ?_
  refine load_mid rfl 124 _ rfl m 0 A rfl hra Try.underlying124 rfl (by rw [hA]; exact infoA) ?_
  clear hra hA
  go_wp2_with fail
  go_loopw [5, 12] (fun nv iv wr => ∃ i : Nat, i ≤ 16 ∧ iv = .int .i64 i ∧ nv = .int .i64 (oth X k i : Nat) ∧ Below w.heap.size w wr) (fun _ iv _ => 16 - (intOf iv).toNat)
  case atStart => exact ⟨0, Nat.zero_le _, rfl, rfl, Below.refl _ _⟩
  case round =>
    obtain ⟨i, hi, rfl, rfl, hb⟩ := hrel
    obtain ⟨w2, rfl⟩ : ∃ w2 : World, w2 = wr := ⟨_, rfl⟩
    have hsc := oth_succ X k i
    have hle := oth_le HM.out.1.ok k i hi
    by_cases hlt : i < 16
    · have hil : ((i : Int) < 16) = True := by simp; omega
      have hw3 := wrapS hlt (show 16 ≤ maxLen by unfold maxLen; omega)
      obtain ⟨p, q, hix, hp, hq⟩ := (HM.out.2.keep HM.out.1 hb).ix i hlt
      have hll := lenO_le (HM.out.1.ok i hlt)
      have hal := (Below.refl w2.heap.size w2).alloc (Nat.le_refl _) (.cells #[.pointer p, .pointer q] 123)
      have hxs : SrS w2.heap.size p q (w2.alloc (.cells #[.pointer p, .pointer q] 123)) := hnew _ _
      obtain ⟨x0, x1⟩ := hxs.cells
      have hpk := hp.keep hal
      have F := Lib.hid (bcall hb (Nat.le_refl _) hal)
      clear hal hxs hb hq hp
      by_cases hk : (i : Int) = k
      · replace hsc : oth X k (i + 1) = oth X k i := hsc.trans (by rw [if_pos hk]; exact Nat.add_zero _)
        obtain rfl : k = (i : Int) := hk.symm
        have hkt : ((i : Int) == (i : Int)) = true := by simp
        have HS := Lib.hid hsc
        clear hk hsc hll hle hpk
        go_wp2_with fail
        exact ⟨⟨i + 1, hlt, by first | rw [hw3] | rw [Int.natCast_succ], by rw [HS.out], F.out⟩, by first | (rw [hw3]; exact mSucc hlt) | (rw [← Int.natCast_succ]; exact mSucc hlt)⟩
      · have hkt : ((i : Int) == k) = false := by simp [hk]
        have hkn : ((i : Int) != k) = true := by simp [hk]
        have hkf : ((i : Int) = k) = False := by simp [hk]
        rw [if_neg hk] at hsc
        cases hl : (X i).last with
        | none =>
          rw [hl] at hpk
          obtain rfl : p = none := hpk
          have HS := Lib.hid (show oth X k (i + 1) = oth X k i from by rw [hsc]; unfold lenO; rw [hl]; rfl)
          clear hk hsc hll hle hl
          go_wp2_with fail
          exact ⟨⟨i + 1, hlt, by first | rw [hw3] | rw [Int.natCast_succ], by rw [HS.out], F.out⟩, by first | (rw [hw3]; exact mSucc hlt) | (rw [← Int.natCast_succ]; exact mSucc hlt)⟩
        | some r =>
          rw [hl] at hpk
          obtain ⟨b, rfl, bm, h1, h2⟩ := hpk
          have y2 := cell_of (o := 2) h1 rfl
          have hln := fun ty => h2.len _ rfl ty
          have hlo : lenO (X i) = r.cs.length := by unfold lenO; rw [hl]
          rw [hlo] at hsc hll
          generalize r.cs.length = ln at *
          generalize oth X k i = s at *
          have hwp : wrap64 ((s : Int) + (ln : Int)) = ((s + ln : Nat) : Int) := by unfold wrap64; omega
          have HS := Lib.hid hsc
          clear hk hsc hll hle hl h1 h2 hlo
          go_wp2_with fail
          refine ⟨⟨i + 1, hlt, by first | rw [hw3] | rw [Int.natCast_succ], by rw [HS.out]; first | rw [hwp] | rw [Int.natCast_add], F.out⟩, by first | (rw [hw3]; exact mSucc hlt) | (rw [← Int.natCast_succ]; exact mSucc hlt)⟩
    · obtain rfl : 16 = i := by omega
      have F := Lib.hid hb
      clear hsc hle hb
      go_wp2_with fail
      go_ret
      exact ⟨rfl, F.out⟩
theorem MetAt.at {w : World} {m : Nat} {X : Nat → Src} (H : MetAt w m X) {i : Nat} (hi : i < 16) : ∃ p q, w.cell? ⟨m, i * 2, none⟩ = some (.pointer p) ∧ w.cell? ⟨m, i * 2 + 1, none⟩ = some (.pointer q) ∧ PtrAt w p (X i).last ∧ PtrAt w q (X i).ahead := by
  obtain ⟨A, h1, h2, h3, h4⟩ := H.out
  obtain ⟨p, q, k1, k2, k3, k4⟩ := h4 i hi
  exact ⟨p, q, cell_of h2 k1, cell_of h2 k2, k3, k4⟩
theorem MetAt.made {w : World} {m : Nat} {X : Nat → Src} (H : MetAt w m X) : w.cell? ⟨m, 32, none⟩ = some (.bool true) := by
  obtain ⟨A, h1, h2, h3, h4⟩ := H.out
  exact cell_of h2 h3
def stampV (X : Nat → Src) (s : Int) : Int := if inS s then (match (X s.toNat).last with | some r => r.at' | none => 0) else 0
def stampB (X : Nat → Src) (s : Int) : Bool := inS s && (X s.toNat).last.isSome
theorem ret_nb {a b : Int} {x y : Bool} (h : a = b) (k : x = y) : Ending.returned (.tuple #[.int .i64 a, .bool x]) = .returned (.tuple #[.int .i64 b, .bool y]) := by rw [h, k]
set_option maxRecDepth 100000 in
theorem stamp_any {w : World} {m : Nat} {X : Nat → Src} (H : MetAt w m X) (s : Int) : Calls Try.prog 50 #[.pointer (some ⟨m, 0, none⟩), .int .i64 s] w fun e w' => e = .returned (.tuple #[.int .i64 (stampV X s), .bool (stampB X s)]) ∧ w' = w := by
  have HW := Lib.hid (within_any s 0 15)
  have e1 : (decide (0 ≤ s) && decide (s ≤ 15)) = inS s := rfl
  rw [e1] at HW
  clear e1
  obtain ⟨v, hv⟩ : ∃ v, stampV X s = v := ⟨_, rfl⟩
  obtain ⟨u, hu⟩ : ∃ u, stampB X s = u := ⟨_, rfl⟩
  rw [hv, hu]
  have HV := Lib.hid (And.intro hv hu)
  clear hv hu
  cases hs : inS s with
  | false =>
    have HR := Lib.hid (show 0 = v ∧ false = u from ⟨by rw [← HV.out.1]; unfold stampV; rw [hs]; rfl, by rw [← HV.out.2]; unfold stampB; rw [hs]; rfl⟩)
    rw [hs] at HW
    clear hs H
    go_enter Try.func50, Try.ntmps50
    go_wp2_with fail
    refine (HW.out _).mono ?_
    rintro e W4 ⟨rfl, hw4⟩
    subst hw4
    go_wp2_with fail
    go_ret2
    exact ⟨ret_nb HR.out.1 HR.out.2, rfl⟩
  | true =>
    rw [hs] at HW
    have hs2 : 0 ≤ s ∧ s ≤ 15 := by unfold inS at hs; simpa using hs
    obtain ⟨i, rfl⟩ : ∃ i : Nat, s = (i : Int) := ⟨s.toNat, by omega⟩
    have hi : i < 16 := by omega
    have hi0 : ((0 : Int) ≤ (i : Int)) = True := by simp
    have hi1 : ((i : Int) < 16) = True := by simp; omega
    obtain ⟨p, q, z0, z1, k3, k4⟩ := H.at hi
    cases hl : (X i).last with
    | none =>
      rw [hl] at k3
      obtain rfl : p = none := k3
      have HR := Lib.hid (show 0 = v ∧ false = u from ⟨by rw [← HV.out.1]; unfold stampV; rw [hs, if_pos rfl, Int.toNat_natCast, hl], by rw [← HV.out.2]; unfold stampB; rw [hs, Int.toNat_natCast, hl]; rfl⟩)
      clear hs hs2 k4 H hl hi
      go_enter Try.func50, Try.ntmps50
      go_wp2_with fail
      refine (HW.out _).mono ?_
      rintro e W4 ⟨rfl, hw4⟩
      subst hw4
      go_wp2_with fail
      go_ret2
      exact ⟨ret_nb HR.out.1 HR.out.2, rfl⟩
    | some r =>
      rw [hl] at k3
      obtain ⟨b, rfl, bm, h1, h2⟩ := k3
      have y1 := cell_of (o := 1) h1 rfl
      have HR := Lib.hid (show r.at' = v ∧ true = u from ⟨by rw [← HV.out.1]; unfold stampV; rw [hs, if_pos rfl, Int.toNat_natCast, hl], by rw [← HV.out.2]; unfold stampB; rw [hs, Int.toNat_natCast, hl]; rfl⟩)
      clear hs hs2 k4 H hl hi h1 h2
      go_enter Try.func50, Try.ntmps50
      go_wp2_with fail
      refine (HW.out _).mono ?_
      rintro e W4 ⟨rfl, hw4⟩
      subst hw4
      go_wp2_with fail
      go_ret2
      exact ⟨ret_nb HR.out.1 HR.out.2, rfl⟩
end Go.Proofs.Ytfmehahjjgalfaa.Me
