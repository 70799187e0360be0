/- Delete. -/
import Derived.Test.YtdhebjeajdohoaaSd
namespace Go.Proofs.Ytdhebjeajdohoaa
open Go.RowKit

theorem delS_nil (a : Nat) (l : Int) (w : World) : Calls Try.prog 33 #[.pointer none, pfx a l] w fun e w' => e = .returned (.bool false) ∧ Below w.heap.size w w' := by
  have H := Lib.hid (findS_nil a l)
  unfold pfx at H ⊢
  go_enter Try.func33, Try.ntmps33
  go_wp2_with (go_at_call 51; refine (H.out _).mono ?_; rintro e w1 ⟨rfl, hb⟩)
  go_ret
  exact ⟨rfl, ((Below.refl _ _).alloc (Nat.le_refl _) _).trans (hb.mono (by simp))⟩
theorem delS_no {w : World} {b n : Nat} {N : Nat → Nat → Option Nat} {M : Nat → Nat → Option ByteArray} (h : TrieS w b N n M) (a : Nat) (l : Int) (ha : a < 4294967296) (hl : look M a l = none) :
    Calls Try.prog 33 #[.pointer (some ⟨b, 0, none⟩), pfx a l] w fun e w' => e = .returned (.bool false) ∧ Below w.heap.size w w' := by
  have hb0 := ((Below.refl w.heap.size w).alloc (Nat.le_refl _) (.cells #[.int .u32 a, .int .i64 l] 32))
  have HF := Lib.hid (findS_any (h.below hb0) a l ha)
  have HT := Lib.hid h
  clear ha
  cases hN : (if okP a l then N a l.toNat else none) with
  | none =>
    rw [hN] at HF
    clear h hN hl
    unfold pfx at HF ⊢
    unfold ptr at HF
    simp only [Option.map_none] at HF
    go_enter Try.func33, Try.ntmps33
    go_wp2_with (go_at_call 51; refine (HF.out).mono ?_; rintro e w1 ⟨rfl, hb⟩)
    go_ret
    exact ⟨rfl, hb0.trans (hb.mono (by simp))⟩
  | some k =>
    have hok : okP a l = true := by
      cases h2 : okP a l with
      | true => rfl
      | false => rw [h2] at hN; simp at hN
    rw [hok, if_pos rfl] at hN
    unfold look at hl
    rw [if_pos hok] at hl
    rw [hok, if_pos rfl, hN] at HF
    have HK := Lib.hid hN
    have HX := Lib.hid hl
    clear h hN hl hok
    unfold pfx at HF ⊢
    unfold ptr at HF
    simp only [Option.map_some] at HF
    go_enter Try.func33, Try.ntmps33
    go_wp2_with (go_at_call 51; refine (HF.out).mono ?_; rintro e w1 ⟨rfl, hb⟩; have hbw := hb0.trans (hb.mono (by simp)); obtain ⟨-, -, c2, c3, -⟩ := nodeS (HT.out.below hbw) HK.out; rw [HX.out] at c2 c3; simp only [Option.getD_none, Option.isSome_none] at c2 c3; clear hb)
    go_ret
    exact ⟨rfl, hbw⟩
set_option maxHeartbeats 1000000 in
theorem delS_yes {w : World} {b n : Nat} {N : Nat → Nat → Option Nat} {M : Nat → Nat → Option ByteArray} (h : TrieS w b N (n + 1) M) (a m : Nat) (ha : a < 4294967296) (hok : okP a m = true) (hn : n < 4611686018427387904) (y : ByteArray) (hy : M a m = some y) :
    Calls Try.prog 33 #[.pointer (some ⟨b, 0, none⟩), pfx a m] w fun e w' => e = .returned (.bool true) ∧ ∃ N', TrieS w' b N' n (upd M a m none) ∧ Moved w w' (foot b N) (foot b N') := by
  have hb0 := ((Below.refl w.heap.size w).alloc (Nat.le_refl _) (.cells #[.int .u32 a, .int .i64 m] 32))
  have HF := Lib.hid (findS_any (h.below hb0) a m ha)
  obtain ⟨k, hk⟩ : ∃ k, N a m = some k := by
    have := h.thing a m (by rw [hy]; rfl)
    exact Option.isSome_iff_exists.1 this
  obtain ⟨-, h32, hcut⟩ := okP_iff.1 hok
  simp only [Int.toNat_natCast] at hcut
  rw [hok] at HF
  simp only [if_true, Int.toNat_natCast] at HF
  rw [hk] at HF
  have HT := Lib.hid h
  have HK := Lib.hid hk
  have HY := Lib.hid hy
  have HA := Lib.hid (And.intro ha (And.intro hcut (show m ≤ 32 by omega)))
  have hpb := hnew w (.cells #[.int .u32 a, .int .i64 m] 32)
  have hpl := h.lt (.inl rfl)
  have HPB := Lib.hid hpb
  have hkb : k ≠ b := fun e => h.nb _ _ (e ▸ hk)
  clear ha h hk hy hok hcut h32 hpb
  unfold pfx at HF ⊢
  unfold ptr at HF
  simp only [Option.map_some] at HF
  have hnn : IntKind.i64.wrap (((n + 1 : Nat) : Int) - 1) = (n : Int) := by rw [IntWalk.i64_in _ (by omega)]; omega
  have hn1 : ((n + 1 : Nat) : Int) = (n : Int) + 1 := by omega
  go_enter Try.func33, Try.ntmps33
  go_wp2_with (go_at_call 51; refine (HF.out).mono ?_; rintro e w1 ⟨rfl, hb⟩; have hbw := hb0.trans (hb.mono (by simp)); have ht1 := HT.out.below hbw; obtain ⟨-, -, c2, c3, nf⟩ := nodeS ht1 HK.out; rw [HY.out] at c2 c3; simp only [Option.getD_some, Option.isSome_some] at c2 c3; obtain ⟨r, hr, hrb⟩ := ht1.root; have d1 : w1.cell? ⟨b, 1, none⟩ = some (.int .i64 ((n + 1 : Nat) : Int)) := cell_of hrb rfl; have e1 : w1.frozen? ⟨b, 1, none⟩ = false := free_of hrb; have f2 := nf 2; have f3 := nf 3; have hb2 := Lib.hid hb; clear hb nf hrb)
  have hput := putS ht1 HK.out none
  have hcnt := countS hput.1 n
  have HT2 : Hid (TrieS (((w1.setCell ⟨k, 2, none⟩ (.string { data := #[] })).setCell ⟨k, 3, none⟩ (.bool false)).setCell ⟨b, 1, none⟩ (.int .i64 n)) b N n (upd M a m none) ∧ Moved w (((w1.setCell ⟨k, 2, none⟩ (.string { data := #[] })).setCell ⟨k, 3, none⟩ (.bool false)).setCell ⟨b, 1, none⟩ (.int .i64 n)) (foot b N) (foot b N) ∧ Moved w1 (((w1.setCell ⟨k, 2, none⟩ (.string { data := #[] })).setCell ⟨k, 3, none⟩ (.bool false)).setCell ⟨b, 1, none⟩ (.int .i64 n)) (foot b N) (foot b N)) :=
    Lib.hid ⟨hcnt.1, (Moved.of_below hbw _).trans (hput.2.trans hcnt.2), hput.2.trans hcnt.2⟩
  clear hput hcnt ht1 c2 c3 d1 e1 f2 f3 hbw
  generalize ((w1.setCell ⟨k, 2, none⟩ (.string { data := #[] })).setCell ⟨k, 3, none⟩ (.bool false)).setCell ⟨b, 1, none⟩ (.int .i64 n) = w2 at *
  obtain ⟨ht2, -, hmv2⟩ := HT2.out
  have hrb := ht2.blk hr
  have d0 : w2.cell? ⟨b, 0, none⟩ = some (.pointer (some ⟨r, 0, none⟩)) := cell_of hrb rfl
  have hbox : w2.heap[w.heap.size]? = some (.cells #[.int .u32 a, .int .i64 m] 32) := by
    have h1 := (hb2.out.block w.heap.size (by simp)).trans HPB.out
    exact (hmv2.same _ (lt_of_blk h1) (fun hf => by have := HT.out.lt hf; omega)).trans h1
  have p0 : w2.cell? ⟨w.heap.size, 0, none⟩ = some (.int .u32 a) := cell_of hbox rfl
  have p1 : w2.cell? ⟨w.heap.size, 1, none⟩ = some (.int .i64 m) := cell_of hbox rfl
  have HR := Lib.hid hr
  clear ht2 hmv2 hrb hbox hr
  refine wp_region_quiet_tail (fun w' => w' = w2.drew) 5 (by kernel_rfl) (by kernel_rfl) rfl ?_
  simp only [List.take_succ_cons, List.take_zero, List.drop_succ_cons, List.drop_zero]
  iterate 5 (((with_reducible refine wpQuiet_step (fun K hK => ?_)); go_simp; first | ((with_reducible refine hK _ ?_); clear hK K) | (apply Exists.intro; refine ⟨?_, hK _ ?_⟩; (with_reducible refine (HBit.out _).mono ?_); rintro e w2 ⟨rfl, rfl⟩; exact ⟨rfl, rfl⟩; clear hK K)))
  refine wpQuiet_nil ?_
  rintro _ rfl
  obtain ⟨ha, hcut, h32⟩ := HA.out
  have hpr := pruneS_any a m ha h32 hcut m 0 (by omega) w2.drew b n N (upd M a m none) r (HT2.out.1.keep (fun _ _ => rfl)) (by rw [cut_0 ha]; exact HR.out) (by rw [HK.out]; rfl)
  have HPr := Lib.hid hpr
  clear hpr ha hcut h32
  unfold pfx at HPr
  go_wp2_with (go_at_call 52; refine (HPr.out).mono ?_; rintro e w3 ⟨N3, r3, rfl, ht3, hmv3, -, -⟩)
  go_ret
  exact ⟨rfl, N3, ht3, HT2.out.2.1.drew.trans hmv3⟩
end Go.Proofs.Ytdhebjeajdohoaa
