/- prune. -/
import Derived.Test.YtdhebjeajdohoaaIc
import Derived.Test.YtdhebjeajdohoaaPc
namespace Go.Proofs.Ytdhebjeajdohoaa
open Go.RowKit

def AgreeI (N' N : Nat → Nat → Option Nat) (i : Nat) : Prop := ∀ x d, d ≤ i → N' x d = N x d
/-- what prune hands back: the node, or nothing where it has nothing -/
def PrunedI (N' : Nat → Nat → Option Nat) (M : Nat → Nat → Option Int) (x i k : Nat) (r : Option Nat) : Prop := r = some k ∨ (r = none ∧ 0 < i ∧ M x i = none ∧ ∀ c, N' (kid x i c) (i + 1) = none)
theorem AgreeI.refl (N : Nat → Nat → Option Nat) (i : Nat) : AgreeI N N i := fun _ _ _ => rfl
theorem relinkI {w : World} {b n : Nat} {N : Nat → Nat → Option Nat} {M : Nat → Nat → Option Int} (h : TrieI w b N n M) {a d k j : Nat} (hk : N a d = some k) (c : Bool) (hj : j = if c then 1 else 0) :
    TrieI (w.setCell ⟨k, j, none⟩ (ptr (N (kid a d c) (d + 1)))) b N n M ∧ Moved w (w.setCell ⟨k, j, none⟩ (ptr (N (kid a d c) (d + 1)))) (foot b N) (foot b N) := by
  have hs := linkI (h.node _ _ _ hk) c (N (kid a d c) (d + 1)) hj
  refine ⟨h.keep fun q hq => ?_, Moved.of_set hs (.inr ⟨_, _, hk⟩)⟩
  by_cases e : q = k
  · subst e
    rw [hs.at (h.lt hq), h.node _ _ _ hk]
    cases c <;> rfl
  · exact hs.other e
theorem unlinkI {w : World} {b n : Nat} {N : Nat → Nat → Option Nat} {M : Nat → Nat → Option Int} (h : TrieI w b N n M) {a d k j q : Nat} (hk : N a d = some k) (c : Bool) (hj : j = if c then 1 else 0)
    (hq : N (kid a d c) (d + 1) = some q) (hl : ∀ c', N (kid (kid a d c) (d + 1) c') (d + 1 + 1) = none) (hm0 : M (kid a d c) (d + 1) = none) :
    TrieI (w.setCell ⟨k, j, none⟩ (ptr none)) b (upd N (kid a d c) (d + 1) none) n M ∧ Moved w (w.setCell ⟨k, j, none⟩ (ptr none)) (foot b N) (foot b (upd N (kid a d c) (d + 1) none)) := by
  have hs := linkI (h.node _ _ _ hk) c none hj
  refine ⟨h.drop hk c hq hl hm0 hs, ⟨rfl, rfl, rfl, by rw [hs.size]; exact Nat.le_refl _, fun i _ hn => hs.other (fun e => hn (by rw [e]; exact .inr ⟨_, _, hk⟩)), fun i hi => ?_⟩⟩
  rcases hi with rfl | ⟨x, y, hi⟩
  · exact .inl (.inl rfl)
  · by_cases e : x = kid a d c ∧ y = d + 1
    · rw [e.1, e.2, upd_same] at hi; cases hi
    · rw [upd_other _ _ e] at hi; exact .inl (.inr ⟨_, _, hi⟩)
theorem AgreeI.trans {N3 N2 N : Nat → Nat → Option Nat} {i : Nat} (h : AgreeI N3 N2 i) (k : AgreeI N2 N (i + 1)) : AgreeI N3 N i := fun x d hd => (h x d hd).trans (k x d (by omega))
theorem relinkedI {w : World} {b n : Nat} {N : Nat → Nat → Option Nat} {M : Nat → Nat → Option Int} (h : TrieI w b N n M) {a x d k q : Nat} {r : Option Nat} (hk : N x d = some k) (_hd : d ≤ 31) (c : Bool) (hc : cut a (d + 1) = kid x d c) (hq : N (cut a (d + 1)) (d + 1) = some q)
    (hp : PrunedI N M (cut a (d + 1)) (d + 1) q r) : ∃ N3, TrieI (w.setCell ⟨k, if c then 1 else 0, none⟩ (ptr r)) b N3 n M ∧ Moved w (w.setCell ⟨k, if c then 1 else 0, none⟩ (ptr r)) (foot b N) (foot b N3) ∧ AgreeI N3 N d := by
  rw [hc] at hq hp
  rcases hp with rfl | ⟨rfl, _, hm0, hl⟩
  · have := relinkI h hk c rfl
    rw [hq] at this
    exact ⟨N, this.1, this.2, AgreeI.refl _ _⟩
  · have := unlinkI h hk c rfl hq hl hm0
    exact ⟨_, this.1, this.2, fun y e he => upd_other _ _ (by omega)⟩
set_option maxHeartbeats 4000000 in
theorem pruneI_any (a m : Nat) (ha : a < 4294967296) (hm32 : m ≤ 32) (hcut : cut a m = a) : ∀ (d i : Nat), i + d = m → ∀ (w : World) (b n : Nat) (N : Nat → Nat → Option Nat) (M : Nat → Nat → Option Int) (k : Nat), TrieI w b N n M → N (cut a i) i = some k → (N a m).isSome →
    Calls Try.prog 42 #[.pointer (some ⟨k, 0, none⟩), pfx a m, .int .i64 i] w fun e w' => ∃ N' r, e = .returned (ptr r) ∧ TrieI w' b N' n M ∧ Moved w w' (foot b N) (foot b N') ∧ AgreeI N' N i ∧ PrunedI N' M (cut a i) i k r := by
  intro d
  induction d with
  | zero =>
    intro i hid w b n N M k h hk hnm
    obtain rfl : i = m := by omega
    have hb0 := ((Below.refl w.heap.size w).alloc (Nat.le_refl _) (.cells #[.int .u32 a, .int .i64 i] 32))
    have hp : (w.alloc (.cells #[.int .u32 a, .int .i64 i] 32)).cell? ⟨w.heap.size, 1, none⟩ = some (.int .i64 i) := cell_of (hnew _ _) rfl
    have HR3 := Lib.hid (And.intro (h.below hb0) (And.intro (Moved.of_below hb0 (foot b N)) (AgreeI.refl N i)))
    have HK := Lib.hid hk
    have hkl := h.lt (.inr ⟨_, _, hk⟩)
    clear h hk hnm hb0
    obtain ⟨N3, hN3⟩ : ∃ N3, N3 = N := ⟨_, rfl⟩
    rw [← hN3] at HR3 HK ⊢
    clear hN3
    unfold pfx
    go_enter Try.func42, Try.ntmps42
    obtain ⟨ht3, hmv3, hag3⟩ := HR3.out
    have hk3 : N3 (cut a i) i = some k := by rw [hag3 _ _ (Nat.le_refl _)]; exact HK.out
    obtain ⟨c0, c1, -, c3, -⟩ := nodeI ht3 hk3
    have HK3 := Lib.hid hk3
    clear ht3 hmv3 hag3 hk3
    cases hM : M (cut a i) i with
    | some y =>
      have HMM := Lib.hid hM
      rw [hM] at c3
      simp only [Option.isSome_some] at c3
      clear hM c0 c1
      go_wp2_with fail
      go_ret
      exact ⟨N3, some k, rfl, HR3.out.1, HR3.out.2.1, HR3.out.2.2, .inl rfl⟩
    | none =>
      have HMM := Lib.hid hM
      rw [hM] at c3
      simp only [Option.isSome_none] at c3
      clear hM
      cases h0 : N3 (kid (cut a i) i false) (i + 1) with
      | some x0 =>
        rw [h0] at c0
        unfold ptr at c0
        simp only [Option.map_some] at c0
        clear h0 c1
        go_wp2_with fail
        go_ret
        exact ⟨N3, some k, rfl, HR3.out.1, HR3.out.2.1, HR3.out.2.2, .inl rfl⟩
      | none =>
        have HL := Lib.hid h0
        rw [h0] at c0
        unfold ptr at c0
        simp only [Option.map_none] at c0
        clear h0
        cases h1 : N3 (kid (cut a i) i true) (i + 1) with
        | some x1 =>
          rw [h1] at c1
          unfold ptr at c1
          simp only [Option.map_some] at c1
          clear h1
          go_wp2_with fail
          go_ret
          exact ⟨N3, some k, rfl, HR3.out.1, HR3.out.2.1, HR3.out.2.2, .inl rfl⟩
        | none =>
          have HRr := Lib.hid h1
          rw [h1] at c1
          unfold ptr at c1
          simp only [Option.map_none] at c1
          clear h1
          by_cases hi0 : (0 : Int) < (i : Int)
          · go_wp2_with fail
            go_ret
            exact ⟨N3, none, rfl, HR3.out.1, HR3.out.2.1, HR3.out.2.2, .inr ⟨rfl, by omega, HMM.out, fun c => by cases c; exact HL.out; exact HRr.out⟩⟩
          · go_wp2_with fail
            go_ret
            exact ⟨N3, some k, rfl, HR3.out.1, HR3.out.2.1, HR3.out.2.2, .inl rfl⟩
  | succ d ih =>
    intro i hid w b n N M k h hk hnm
    have hi31 : i ≤ 31 := by omega
    have hb0 := ((Below.refl w.heap.size w).alloc (Nat.le_refl _) (.cells #[.int .u32 a, .int .i64 m] 32))
    obtain ⟨q, hq⟩ : ∃ q, N (cut a (i + 1)) (i + 1) = some q := by
      cases e : N (cut a (i + 1)) (i + 1) with
      | some q => exact ⟨q, rfl⟩
      | none =>
        have := h.none_down e (m - (i + 1)) (by omega)
        rw [show i + 1 + (m - (i + 1)) = m by omega, hcut] at this
        rw [this] at hnm; cases hnm
    have hck := cut_kid a hi31
    have hpb := hnew w (.cells #[.int .u32 a, .int .i64 m] 32)
    have p0 : (w.alloc (.cells #[.int .u32 a, .int .i64 m] 32)).cell? ⟨w.heap.size, 0, none⟩ = some (.int .u32 a) := cell_of hpb rfl
    have p1 : (w.alloc (.cells #[.int .u32 a, .int .i64 m] 32)).cell? ⟨w.heap.size, 1, none⟩ = some (.int .i64 m) := cell_of hpb rfl
    have ht := h.below hb0
    have HIH := Lib.hid (fun w' (hh : TrieI w' b N n M) => ih (i + 1) (by omega) w' b n N M q hh hq hnm)
    clear ih
    have hd0 := cut_cut a (Nat.le_succ i)
    have HBit := Lib.hid (bit_any a i ha)
    rw [show decide (i < 32) = true by simp; omega, Bool.true_and] at HBit
    have nj := kidNoneI ht hk
    rw [show decide (i < 32) = true by simp; omega, Bool.true_and, hq] at nj
    have hfr := ht.node _ _ _ hk
    have hkl := ht.lt (.inr ⟨_, _, hk⟩)
    have hkw := h.lt (.inr ⟨_, _, hk⟩)
    have hlt : (i : Int) < (m : Int) := by omega
    have HK := Lib.hid hk
    have HT := Lib.hid ht
    have HB0 := Lib.hid hb0
    have HCK := Lib.hid hck
    have HQ := Lib.hid hq
    clear h hk hnm hb0 hck hpb ht hfr hd0 hq
    unfold pfx at HIH ⊢
    unfold ptr at nj
    simp only [Option.map_some] at nj
    have hii : IntKind.i64.wrap ((i : Int) + 1) = ((i + 1 : Nat) : Int) := by rw [IntWalk.i64_in _ (by omega)]; rfl
    generalize hw1 : w.alloc (.cells #[.int .u32 a, .int .i64 m] 32) = w1 at *
    have HW1 := Lib.hid hw1
    clear hw1
    generalize hbit : a.testBit (31 - i) = c at *
    cases c with
    | false =>
      simp only [Bool.false_eq_true, if_false] at HBit nj
      go_enter Try.func42, Try.ntmps42
      go_wp2_with fail
      rw [HW1.out]
      refine wp_region_quiet_tail (fun w' => w' = w1.drew) 8 (by kernel_rfl) (by kernel_rfl) rfl ?_
      simp only [List.take_succ_cons, List.take_zero, List.drop_succ_cons, List.drop_zero]
      iterate 8 (((with_reducible refine wpQuiet_step (fun K hK => ?_)); go_simp; first | ((with_reducible refine hK _ ?_); clear hK K) | (apply Exists.intro; refine ⟨?_, hK _ ?_⟩; (with_reducible refine (HBit.out _).mono ?_); rintro e w2 ⟨rfl, rfl⟩; exact ⟨rfl, rfl⟩; clear hK K)))
      refine wpQuiet_nil ?_
      rintro _ rfl
      clear HBit
      go_wp2_with fail
      refine wp_region_pieces (by kernel_rfl) ?_
      refine wpAny_pure [0] (g := 9) rfl (by kernel_rfl) (fun _ _ d _ _ h => by cases d <;> exact h) ?_
      simp only [pick, List.getD_cons_zero]
      (with_reducible refine wpPure_step (fun K hK => ?_)); go_simp; with_reducible refine hK _ ?_; clear hK K
      with_reducible refine wpPure_nil ?_
      refine wpAny_seg (fun w' => w' = w1.drew.drew) [1, 2, 3, 4, 5, 6] (g := 3) rfl (by kernel_rfl) rfl ?_
      simp only [pick, List.getD_cons_zero, List.getD_cons_succ]
      iterate 6 (((with_reducible refine wpQuiet_step (fun K hK => ?_)); go_simp; first | ((with_reducible refine hK _ ?_); clear hK K) | (apply Exists.intro; refine ⟨?_, hK _ ?_⟩; (with_reducible refine (HBit.out _).mono ?_); rintro e w2 ⟨rfl, rfl⟩; exact ⟨rfl, rfl⟩; clear hK K)))
      refine wpQuiet_nil ?_
      rintro _ rfl
      refine wpAny_one 7 (by kernel_rfl) ?_
      simp only [pick, List.getD_cons_zero, List.getD_cons_succ]
      go_wp2_with (go_at_call 42; refine (HIH.out w1.drew.drew (HT.out.keep (fun _ _ => rfl))).mono ?_; rintro e w2 ⟨N2, r, rfl, ht2, hmv2, hag2, hpr2⟩)
      have hk2 : N2 (cut a i) i = some k := by rw [hag2 _ _ (Nat.le_succ i)]; exact HK.out
      have hq2 : N2 (cut a (i + 1)) (i + 1) = some q := by rw [hag2 _ _ (Nat.le_refl _)]; exact HQ.out
      have hmv : Moved w w2 (foot b N) (foot b N2) := (Moved.of_below (Below.drew (Below.drew HB0.out)) _).trans hmv2
      have hR := relinkedI ht2 hk2 hi31 _ (by simpa using HCK.out) hq2 hpr2
      have nj2 := kidNoneI ht2 hk2
      rw [show decide (i < 32) = true by simp; omega, Bool.true_and, hbit, hq2] at nj2
      have nf2 := free_of (o := if a.testBit (31 - i) then 1 else 0) (ht2.node _ _ _ hk2)
      rw [hbit] at nf2
      simp only [Bool.false_eq_true, if_false] at nj2 nf2 hR
      obtain ⟨N3, hR1, hR2, hR3⟩ := hR
      unfold ptr at hR1 hR2
      have HR3 := Lib.hid (And.intro hR1 (And.intro (hmv.trans hR2) (AgreeI.trans hR3 hag2)))
      clear ht2 hmv2 hag2 hpr2 hk2 hq2 hmv hR1 hR2 hR3 nj p0 p1 hbit
      unfold ptr at nj2 ⊢
      simp only [Option.map_some] at nj2
      refine wpAny_one 8 (by kernel_rfl) ?_
      simp only [pick, List.getD_cons_zero, List.getD_cons_succ]
      go_wp2_with fail
      refine wpAny_one 9 (by kernel_rfl) ?_
      simp only [pick, List.getD_cons_zero, List.getD_cons_succ]
      go_wp2_with fail
      refine wpAny_done (by kernel_rfl) ?_ _
      generalize w2.setCell ⟨k, 0, none⟩ (.pointer (Option.map (fun k => ⟨k, 0, none⟩) r)) = w3 at HR3 ⊢
      clear nj2 nf2
      obtain ⟨ht3, hmv3, hag3⟩ := HR3.out
      have hk3 : N3 (cut a i) i = some k := by rw [hag3 _ _ (Nat.le_refl _)]; exact HK.out
      obtain ⟨c0, c1, -, c3, -⟩ := nodeI ht3 hk3
      have HK3 := Lib.hid hk3
      clear ht3 hmv3 hag3 hk3
      cases hM : M (cut a i) i with
      | some y =>
        have HMM := Lib.hid hM
        rw [hM] at c3
        simp only [Option.isSome_some] at c3
        clear hM c0 c1
        go_wp2_with fail
        go_ret
        exact ⟨N3, some k, rfl, HR3.out.1, HR3.out.2.1, HR3.out.2.2, .inl rfl⟩
      | none =>
        have HMM := Lib.hid hM
        rw [hM] at c3
        simp only [Option.isSome_none] at c3
        clear hM
        cases h0 : N3 (kid (cut a i) i false) (i + 1) with
        | some x0 =>
          rw [h0] at c0
          unfold ptr at c0
          simp only [Option.map_some] at c0
          clear h0 c1
          go_wp2_with fail
          go_ret
          exact ⟨N3, some k, rfl, HR3.out.1, HR3.out.2.1, HR3.out.2.2, .inl rfl⟩
        | none =>
          have HL := Lib.hid h0
          rw [h0] at c0
          unfold ptr at c0
          simp only [Option.map_none] at c0
          clear h0
          cases h1 : N3 (kid (cut a i) i true) (i + 1) with
          | some x1 =>
            rw [h1] at c1
            unfold ptr at c1
            simp only [Option.map_some] at c1
            clear h1
            go_wp2_with fail
            go_ret
            exact ⟨N3, some k, rfl, HR3.out.1, HR3.out.2.1, HR3.out.2.2, .inl rfl⟩
          | none =>
            have HRr := Lib.hid h1
            rw [h1] at c1
            unfold ptr at c1
            simp only [Option.map_none] at c1
            clear h1
            by_cases hi0 : (0 : Int) < (i : Int)
            · go_wp2_with fail
              go_ret
              exact ⟨N3, none, rfl, HR3.out.1, HR3.out.2.1, HR3.out.2.2, .inr ⟨rfl, by omega, HMM.out, fun c => by cases c; exact HL.out; exact HRr.out⟩⟩
            · go_wp2_with fail
              go_ret
              exact ⟨N3, some k, rfl, HR3.out.1, HR3.out.2.1, HR3.out.2.2, .inl rfl⟩
    | true =>
      simp only [if_true] at HBit nj
      go_enter Try.func42, Try.ntmps42
      go_wp2_with fail
      rw [HW1.out]
      refine wp_region_quiet_tail (fun w' => w' = w1.drew) 8 (by kernel_rfl) (by kernel_rfl) rfl ?_
      simp only [List.take_succ_cons, List.take_zero, List.drop_succ_cons, List.drop_zero]
      iterate 8 (((with_reducible refine wpQuiet_step (fun K hK => ?_)); go_simp; first | ((with_reducible refine hK _ ?_); clear hK K) | (apply Exists.intro; refine ⟨?_, hK _ ?_⟩; (with_reducible refine (HBit.out _).mono ?_); rintro e w2 ⟨rfl, rfl⟩; exact ⟨rfl, rfl⟩; clear hK K)))
      refine wpQuiet_nil ?_
      rintro _ rfl
      clear HBit
      go_wp2_with fail
      refine wp_region_pieces (by kernel_rfl) ?_
      refine wpAny_pure [0] (g := 9) rfl (by kernel_rfl) (fun _ _ d _ _ h => by cases d <;> exact h) ?_
      simp only [pick, List.getD_cons_zero]
      (with_reducible refine wpPure_step (fun K hK => ?_)); go_simp; with_reducible refine hK _ ?_; clear hK K
      with_reducible refine wpPure_nil ?_
      refine wpAny_seg (fun w' => w' = w1.drew.drew) [1, 2, 3, 4, 5, 6] (g := 3) rfl (by kernel_rfl) rfl ?_
      simp only [pick, List.getD_cons_zero, List.getD_cons_succ]
      iterate 6 (((with_reducible refine wpQuiet_step (fun K hK => ?_)); go_simp; first | ((with_reducible refine hK _ ?_); clear hK K) | (apply Exists.intro; refine ⟨?_, hK _ ?_⟩; (with_reducible refine (HBit.out _).mono ?_); rintro e w2 ⟨rfl, rfl⟩; exact ⟨rfl, rfl⟩; clear hK K)))
      refine wpQuiet_nil ?_
      rintro _ rfl
      refine wpAny_one 7 (by kernel_rfl) ?_
      simp only [pick, List.getD_cons_zero, List.getD_cons_succ]
      go_wp2_with (go_at_call 42; refine (HIH.out w1.drew.drew (HT.out.keep (fun _ _ => rfl))).mono ?_; rintro e w2 ⟨N2, r, rfl, ht2, hmv2, hag2, hpr2⟩)
      have hk2 : N2 (cut a i) i = some k := by rw [hag2 _ _ (Nat.le_succ i)]; exact HK.out
      have hq2 : N2 (cut a (i + 1)) (i + 1) = some q := by rw [hag2 _ _ (Nat.le_refl _)]; exact HQ.out
      have hmv : Moved w w2 (foot b N) (foot b N2) := (Moved.of_below (Below.drew (Below.drew HB0.out)) _).trans hmv2
      have hR := relinkedI ht2 hk2 hi31 _ (by simpa using HCK.out) hq2 hpr2
      have nj2 := kidNoneI ht2 hk2
      rw [show decide (i < 32) = true by simp; omega, Bool.true_and, hbit, hq2] at nj2
      have nf2 := free_of (o := if a.testBit (31 - i) then 1 else 0) (ht2.node _ _ _ hk2)
      rw [hbit] at nf2
      simp only [if_true] at nj2 nf2 hR
      obtain ⟨N3, hR1, hR2, hR3⟩ := hR
      unfold ptr at hR1 hR2
      have HR3 := Lib.hid (And.intro hR1 (And.intro (hmv.trans hR2) (AgreeI.trans hR3 hag2)))
      clear ht2 hmv2 hag2 hpr2 hk2 hq2 hmv hR1 hR2 hR3 nj p0 p1 hbit
      unfold ptr at nj2 ⊢
      simp only [Option.map_some] at nj2
      refine wpAny_one 8 (by kernel_rfl) ?_
      simp only [pick, List.getD_cons_zero, List.getD_cons_succ]
      go_wp2_with fail
      refine wpAny_one 9 (by kernel_rfl) ?_
      simp only [pick, List.getD_cons_zero, List.getD_cons_succ]
      go_wp2_with fail
      refine wpAny_done (by kernel_rfl) ?_ _
      generalize w2.setCell ⟨k, 1, none⟩ (.pointer (Option.map (fun k => ⟨k, 0, none⟩) r)) = w3 at HR3 ⊢
      clear nj2 nf2
      obtain ⟨ht3, hmv3, hag3⟩ := HR3.out
      have hk3 : N3 (cut a i) i = some k := by rw [hag3 _ _ (Nat.le_refl _)]; exact HK.out
      obtain ⟨c0, c1, -, c3, -⟩ := nodeI ht3 hk3
      have HK3 := Lib.hid hk3
      clear ht3 hmv3 hag3 hk3
      cases hM : M (cut a i) i with
      | some y =>
        have HMM := Lib.hid hM
        rw [hM] at c3
        simp only [Option.isSome_some] at c3
        clear hM c0 c1
        go_wp2_with fail
        go_ret
        exact ⟨N3, some k, rfl, HR3.out.1, HR3.out.2.1, HR3.out.2.2, .inl rfl⟩
      | none =>
        have HMM := Lib.hid hM
        rw [hM] at c3
        simp only [Option.isSome_none] at c3
        clear hM
        cases h0 : N3 (kid (cut a i) i false) (i + 1) with
        | some x0 =>
          rw [h0] at c0
          unfold ptr at c0
          simp only [Option.map_some] at c0
          clear h0 c1
          go_wp2_with fail
          go_ret
          exact ⟨N3, some k, rfl, HR3.out.1, HR3.out.2.1, HR3.out.2.2, .inl rfl⟩
        | none =>
          have HL := Lib.hid h0
          rw [h0] at c0
          unfold ptr at c0
          simp only [Option.map_none] at c0
          clear h0
          cases h1 : N3 (kid (cut a i) i true) (i + 1) with
          | some x1 =>
            rw [h1] at c1
            unfold ptr at c1
            simp only [Option.map_some] at c1
            clear h1
            go_wp2_with fail
            go_ret
            exact ⟨N3, some k, rfl, HR3.out.1, HR3.out.2.1, HR3.out.2.2, .inl rfl⟩
          | none =>
            have HRr := Lib.hid h1
            rw [h1] at c1
            unfold ptr at c1
            simp only [Option.map_none] at c1
            clear h1
            by_cases hi0 : (0 : Int) < (i : Int)
            · go_wp2_with fail
              go_ret
              exact ⟨N3, none, rfl, HR3.out.1, HR3.out.2.1, HR3.out.2.2, .inr ⟨rfl, by omega, HMM.out, fun c => by cases c; exact HL.out; exact HRr.out⟩⟩
            · go_wp2_with fail
              go_ret
              exact ⟨N3, some k, rfl, HR3.out.1, HR3.out.2.1, HR3.out.2.2, .inl rfl⟩
end Go.Proofs.Ytdhebjeajdohoaa
