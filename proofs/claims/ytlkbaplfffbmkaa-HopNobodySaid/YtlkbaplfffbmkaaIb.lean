/- New, Set. -/
import Derived.Test.YtlkbaplfffbmkaaIa
namespace Go.Proofs.Ytlkbaplfffbmkaa
open Go.RowKit

theorem newI_any (w : World) : Calls Try.prog 37 #[] w fun e w' => e = .returned (.pointer (some ⟨w.heap.size + 1, 0, none⟩)) ∧ TrieI w' (w.heap.size + 1) (fun a d => if a = 0 ∧ d = 0 then some w.heap.size else none) 0 (fun _ _ => none) ∧ Below w.heap.size w w' := by
  go_enter Try.func37, Try.ntmps37
  go_wp2_with fail
  go_ret
  refine ⟨rfl, ?_, ((Below.refl _ _).alloc (Nat.le_refl _) _).alloc (by simp) _⟩
  refine ⟨⟨w.heap.size, by simp, hnewAt (by simp)⟩, fun a d k h => ?_, fun a d h => ?_, fun a d k h => ?_, fun a d a' d' k h h' => ?_, fun a d h => ?_, fun a d h => by cases h⟩
  · split at h
    · rename_i e; obtain ⟨rfl, rfl⟩ := e; exact ⟨by decide, by decide, by decide⟩
    · cases h
  · simp at h
  · split at h
    · rename_i e; obtain ⟨rfl, rfl⟩ := e; injection h with h; subst h
      simp only [Nat.succ_ne_zero, and_false, if_false]
      exact hold (hnew _ _)
    · cases h
  · split at h
    · rename_i e; split at h'
      · rename_i e'; exact ⟨by omega, by omega⟩
      · cases h'
    · cases h
  · split at h
    · injection h with h; omega
    · cases h
theorem setI_nil (a : Nat) (l : Int) (x : Int) (w : World) : Calls Try.prog 38 #[.pointer none, pfx a l, .int .i64 x] w fun e w' => e = .returned (.int .i64 6) ∧ Below w.heap.size w w' := by
  unfold pfx
  go_enter Try.func38, Try.ntmps38
  go_wp2_with (go_at_call 55; refine (madeI_nil _).mono ?_; rintro e w1 ⟨rfl, rfl⟩)
  go_ret
  exact ⟨rfl, (Below.refl _ _).alloc (Nat.le_refl _) _⟩
theorem setI_bad {w : World} {b n : Nat} {N : Nat → Nat → Option Nat} {M : Nat → Nat → Option Int} (h : TrieI w b N n M) (a : Nat) (l : Int) (ha : a < 4294967296) (hok : okP a l = false) (x : Int) :
    Calls Try.prog 38 #[.pointer (some ⟨b, 0, none⟩), pfx a l, .int .i64 x] w fun e w' => e = .returned (.int .i64 20) ∧ Below w.heap.size w w' := by
  have HM := Lib.hid (madeI_any (h.below ((Below.refl _ _).alloc (Nat.le_refl _) (.cells #[.int .u32 a, .int .i64 l] 32))))
  have HC := Lib.hid (check_any a l ha)
  rw [hok] at HC
  clear ha h hok
  unfold pfx at HC ⊢
  simp only [Bool.false_eq_true, if_false] at HC
  go_enter Try.func38, Try.ntmps38
  go_wp2_with (first | (go_at_call 55; refine (HM.out).mono ?_; rintro e w1 ⟨rfl, rfl⟩) | (go_at_call 56; refine (HC.out _).mono ?_; rintro e w1 ⟨rfl, hb1⟩))
  go_ret
  exact ⟨rfl, ((Below.refl _ _).alloc (Nat.le_refl _) _).trans (hb1.mono (by simp))⟩
/-- a link of a node is laid -/
theorem linkI {w : World} {k j : Nat} {l r : Option Nat} {x : Option Int} (h : w.heap[k]? = some (.cells (nodeCells (Value.int .i64) (0 : Int) l r x) 110 (0, 0))) (c : Bool) (v : Option Nat) (hj : j = if c then 1 else 0) :
    SetB w (w.setCell ⟨k, j, none⟩ (ptr v)) k (.cells (nodeCells (Value.int .i64) (0 : Int) (if c then l else v) (if c then v else r) x) 110 (0, 0)) := by
  have := (SetB.self h).store (o := j) (lt_of_blk h) (ptr v)
  subst hj
  cases c <;> exact this
theorem linkNewI {w : World} {k j : Nat} {l r : Option Nat} {x : Option Int} (h : w.heap[k]? = some (.cells (nodeCells (Value.int .i64) (0 : Int) l r x) 110 (0, 0))) (c : Bool) (v : Option Nat) (hj : j = if c then 1 else 0) (o : Obj) :
    SetB (w.alloc o) (((w.setCell ⟨k, j, none⟩ (ptr v)).alloc o).drew) k (.cells (nodeCells (Value.int .i64) (0 : Int) (if c then l else v) (if c then v else r) x) 110 (0, 0)) := by
  rw [← World.setCell_alloc_past o k j (ptr v) (lt_of_blk h)]
  exact (linkI (hold h) c v hj).drew
theorem grownI {w : World} {b n : Nat} {N : Nat → Nat → Option Nat} {M : Nat → Nat → Option Int} (h : TrieI w b N n M) {a d k j : Nat} (hk : N a d = some k) (hd : d ≤ 31) (c : Bool) (hc : N (kid a d c) (d + 1) = none) (hj : j = if c then 1 else 0) :
    TrieI (((w.setCell ⟨k, j, none⟩ (ptr (some w.heap.size))).alloc (.cells (nodeCells (Value.int .i64) (0 : Int) none none (none : Option Int)) 110 (0, 0))).drew) b (upd N (kid a d c) (d + 1) (some w.heap.size)) n M ∧
    Moved w (((w.setCell ⟨k, j, none⟩ (ptr (some w.heap.size))).alloc (.cells (nodeCells (Value.int .i64) (0 : Int) none none (none : Option Int)) 110 (0, 0))).drew) (foot b N) (foot b (upd N (kid a d c) (d + 1) (some w.heap.size))) := by
  have hs := linkNewI (h.node _ _ _ hk) c (some w.heap.size) hj (.cells (nodeCells (Value.int .i64) (0 : Int) none none (none : Option Int)) 110 (0, 0))
  refine ⟨h.grow hk hd c hc rfl hs, ⟨rfl, rfl, rfl, by simp [World.setCell], fun q hq hn => ?_, fun q hq => ?_⟩⟩
  · exact (hs.other (fun e => hn (by rw [e]; exact .inr ⟨_, _, hk⟩))).trans (Below.heap_alloc w _ q hq)
  · rcases hq with rfl | ⟨x, y, hq⟩
    · exact .inl (.inl rfl)
    · by_cases e : x = kid a d c ∧ y = d + 1
      · rw [e.1, e.2, upd_same] at hq; injection hq with hq; exact .inr (by omega)
      · rw [upd_other _ _ e] at hq; exact .inl (.inr ⟨_, _, hq⟩)
/-- a node's thing is laid -/
theorem putI {w : World} {b n : Nat} {N : Nat → Nat → Option Nat} {M : Nat → Nat → Option Int} (h : TrieI w b N n M) {a d k : Nat} (hk : N a d = some k) (v : Option Int) :
    TrieI ((w.setCell ⟨k, 2, none⟩ (.int .i64 (v.getD (0 : Int)))).setCell ⟨k, 3, none⟩ (.bool v.isSome)) b N n (upd M a d v) ∧
    Moved w ((w.setCell ⟨k, 2, none⟩ (.int .i64 (v.getD (0 : Int)))).setCell ⟨k, 3, none⟩ (.bool v.isSome)) (foot b N) (foot b N) := by
  have hb := h.node _ _ _ hk
  have hs := ((SetB.self hb).store (o := 2) (lt_of_blk hb) (.int .i64 (v.getD (0 : Int)))).store (o := 3) (lt_of_blk hb) (.bool v.isSome)
  exact ⟨h.setNode hk v hs, Moved.of_set hs (.inr ⟨_, _, hk⟩)⟩
theorem countI {w : World} {b n : Nat} {N : Nat → Nat → Option Nat} {M : Nat → Nat → Option Int} (h : TrieI w b N n M) (n' : Nat) :
    TrieI (w.setCell ⟨b, 1, none⟩ (.int .i64 n')) b N n' M ∧ Moved w (w.setCell ⟨b, 1, none⟩ (.int .i64 n')) (foot b N) (foot b N) := by
  obtain ⟨r, hr, hb⟩ := h.root
  have hs := (SetB.self hb).store (o := 1) (lt_of_blk hb) (.int .i64 n')
  exact ⟨h.setCount hr hs, Moved.of_set hs (.inl rfl)⟩
set_option maxHeartbeats 1000000 in
theorem setI_any {w : World} {b n : Nat} {N : Nat → Nat → Option Nat} {M : Nat → Nat → Option Int} (h : TrieI w b N n M) (a m : Nat) (ha : a < 4294967296) (hok : okP a m = true) (hn : n < 4611686018427387904) (x : Int) :
    Calls Try.prog 38 #[.pointer (some ⟨b, 0, none⟩), pfx a m, .int .i64 x] w fun e w' => e = .returned (.int .i64 0) ∧ ∃ N', TrieI w' b N' (if (M a m).isSome then n else n + 1) (upd M a m (some x)) ∧ Moved w w' (foot b N) (foot b N') := by
  obtain ⟨r, hr, hb⟩ := h.root
  have c0 : w.cell? ⟨b, 0, none⟩ = some (.pointer (some ⟨r, 0, none⟩)) := cell_of hb rfl
  have HM := Lib.hid (madeI_any (h.below ((Below.refl _ _).alloc (Nat.le_refl _) (.cells #[.int .u32 a, .int .i64 m] 32))))
  have HC := Lib.hid (check_any a m ha)
  have HT := Lib.hid h
  have HA := Lib.hid ha
  rw [hok] at HC
  obtain ⟨h0, h32, hcut⟩ := okP_iff.1 hok
  simp only [Int.toNat_natCast] at hcut
  have hm32 : m ≤ 32 := by omega
  have hbl := lt_of_blk hb
  have HCut := Lib.hid hcut
  generalize hnm : (if (M a m).isSome = true then n else n + 1) = nm
  have HNM := Lib.hid hnm
  clear hnm
  clear ha h hb hok h0 h32 hcut
  unfold pfx at HC ⊢
  simp only [if_true] at HC ⊢
  have c1 : (w.alloc (.cells #[.int .u32 a, .int .i64 m] 32)).cell? ⟨b, 0, none⟩ = some (.pointer (some ⟨r, 0, none⟩)) := cell_hold c0 _
  go_enter Try.func38, Try.ntmps38
  go_wp2_with (first | (go_at_call 55; refine (HM.out).mono ?_; rintro e w1 ⟨rfl, rfl⟩) | (go_at_call 56; refine (HC.out _).mono ?_; rintro e w1 ⟨rfl, hb1⟩; have c2 := (Below.cell hb1 (p := ⟨b, 0, none⟩) (by simp; omega)).trans c1; have hp : w1.heap[w.heap.size]? = some (.cells #[.int .u32 a, .int .i64 m] 32) := (hb1.block _ (by simp)).trans (hnew _ _); have p1 : w1.cell? ⟨w.heap.size, 1, none⟩ = some (.int .i64 m) := cell_of hp rfl))
  have HB := Lib.hid (((Below.refl _ _).alloc (Nat.le_refl _) _).trans (hb1.mono (by simp)) : Below w.heap.size w w1)
  have HP := Lib.hid hp
  clear HM HC c0 c1 c2 hb1 hp p1
  go_loopw [8, 25] (fun av iv wr => ∃ (i k : Nat) (N1 : Nat → Nat → Option Nat), i ≤ m ∧ iv = .int .i64 i ∧ av = .pointer (some ⟨k, 0, none⟩) ∧ N1 (pcut a i) i = some k ∧ TrieI wr b N1 n M ∧ Moved w1 wr (foot b N) (foot b N1)) (fun _ iv _ => m - (intOf iv).toNat)
  case atStart => exact ⟨0, r, N, Nat.zero_le _, rfl, rfl, by rw [cut_0 HA.out, hr], HT.out.below HB.out, Moved.of_below (Below.refl _ _) _⟩
  case round =>
    obtain ⟨i, k, N1, hi, rfl, rfl, hk, ht, hmv⟩ := hrel
    have hpw : wr.heap[w.heap.size]? = some (.cells #[.int .u32 a, .int .i64 m] 32) := (hmv.same _ (lt_of_blk HP.out) (fun hf => by have := HT.out.lt hf; omega)).trans HP.out
    have p0 : wr.cell? ⟨w.heap.size, 0, none⟩ = some (.int .u32 a) := cell_of hpw rfl
    have p1 : wr.cell? ⟨w.heap.size, 1, none⟩ = some (.int .i64 m) := cell_of hpw rfl
    have hkl := ht.lt (.inr ⟨_, _, hk⟩)
    have hkb : k ≠ b := fun e => ht.nb _ _ (e ▸ hk)
    by_cases hlt : i < m
    · have hck := cut_kid a (show i ≤ 31 by omega)
      have HBit := Lib.hid (bit_any a i HA.out)
      rw [show decide (i < 32) = true by simp; omega, Bool.true_and] at HBit
      obtain ⟨n0, n1, -, -, nf⟩ := nodeI ht hk
      obtain ⟨nj, fj⟩ : wr.cell? ⟨k, if a.testBit (31 - i) then 1 else 0, none⟩ = some (ptr (N1 (pcut a (i + 1)) (i + 1))) ∧ wr.frozen? ⟨k, if a.testBit (31 - i) then 1 else 0, none⟩ = false := by
        refine ⟨?_, nf _⟩
        rw [hck]
        cases a.testBit (31 - i)
        · exact n0
        · exact n1
      have HR := Lib.hid (And.intro ht (And.intro hmv hk))
      have HCK := Lib.hid hck
      clear ht hmv hk hpw n0 n1 nf hck
      cases hN : N1 (pcut a (i + 1)) (i + 1) with
      | none =>
        have HN := Lib.hid hN
        rw [hN] at nj
        clear hN
        unfold ptr at nj
        simp only [Option.map_none] at nj
        generalize a.testBit (31 - i) = c at *
        have HJ := Lib.hid (And.intro nj fj)
        cases c
        all_goals
          simp only [Bool.false_eq_true, if_false, if_true] at HBit nj fj
          go_wp2_with fail
          refine wp_region_quiet_tail (fun w' => w' = wr.drew) 8 (by kernel_rfl) (by kernel_rfl) rfl ?_
          simp only [List.take_succ_cons, List.take_zero, List.drop_succ_cons, List.drop_zero]
          iterate 8 (((with_reducible refine wpQuiet_step (fun K hK => ?_)); go_simp; first | ((with_reducible refine hK _ ?_); clear hK K) | (apply Exists.intro; refine ⟨?_, hK _ ?_⟩; (with_reducible refine (HBit.out _).mono ?_); rintro e w2 ⟨rfl, rfl⟩; exact ⟨rfl, rfl⟩; clear hK K)))
          refine wpQuiet_nil ?_
          rintro _ rfl
          clear HBit
          go_wp2_with fail
          obtain ⟨ht, hmv, hk⟩ := HR.out
          have hc0 := HN.out
          rw [HCK.out] at hc0
          refine (?_ : (∃ _, _) ∧ _)
          first
            | exact ⟨⟨i + 1, wr.heap.size, _, by omega, by go_num, rfl, by rw [HCK.out, upd_same], (grownI ht hk (by omega) false hc0 rfl).1, hmv.trans (grownI ht hk (by omega) false hc0 rfl).2⟩, by simp [intOf]; omega⟩
            | exact ⟨⟨i + 1, wr.heap.size, _, by omega, by go_num, rfl, by rw [HCK.out, upd_same], (grownI ht hk (by omega) true hc0 rfl).1, hmv.trans (grownI ht hk (by omega) true hc0 rfl).2⟩, by simp [intOf]; omega⟩
      | some q =>
        have HN := Lib.hid hN
        rw [hN] at nj
        clear hN
        unfold ptr at nj
        simp only [Option.map_some] at nj
        generalize a.testBit (31 - i) = c at *
        cases c
        all_goals
          simp only [Bool.false_eq_true, if_false, if_true] at HBit nj fj
          go_wp2_with fail
          refine wp_region_quiet_tail (fun w' => w' = wr.drew) 8 (by kernel_rfl) (by kernel_rfl) rfl ?_
          simp only [List.take_succ_cons, List.take_zero, List.drop_succ_cons, List.drop_zero]
          iterate 8 (((with_reducible refine wpQuiet_step (fun K hK => ?_)); go_simp; first | ((with_reducible refine hK _ ?_); clear hK K) | (apply Exists.intro; refine ⟨?_, hK _ ?_⟩; (with_reducible refine (HBit.out _).mono ?_); rintro e w2 ⟨rfl, rfl⟩; exact ⟨rfl, rfl⟩; clear hK K)))
          refine wpQuiet_nil ?_
          rintro _ rfl
          clear HBit
          go_wp2_with fail
          obtain ⟨ht, hmv, hk⟩ := HR.out
          exact ⟨⟨i + 1, q, N1, by omega, by go_num, rfl, HN.out, ht.keep (fun _ _ => rfl), hmv.trans ⟨rfl, rfl, rfl, Nat.le_refl _, fun _ _ _ => rfl, fun _ h => .inl h⟩⟩, by simp [intOf]; omega⟩
    · obtain rfl : i = m := by omega
      rw [HCut.out] at hk
      obtain ⟨r2, hr2, hb2⟩ := ht.root
      have d1 : wr.cell? ⟨b, 1, none⟩ = some (.int .i64 n) := cell_of hb2 rfl
      have e1 : wr.frozen? ⟨b, 1, none⟩ = false := free_of hb2
      obtain ⟨-, -, c2, c3, nf⟩ := nodeI ht hk
      have f2 := nf 2
      have f3 := nf 3
      have HR := Lib.hid (And.intro ht (And.intro hmv hk))
      have hnn : IntKind.i64.wrap ((n : Int) + 1) = ((n + 1 : Nat) : Int) := by rw [IntWalk.i64_in _ (by omega)]; rfl
      have HB2 := Lib.hid hb2
      clear ht hmv hk hpw nf hb2 hr2
      cases hM : M a i with
      | none =>
        have HMM := Lib.hid hM
        rw [hM] at c2 c3
        clear hM
        simp only [Option.isSome_none] at c3
        generalize Option.getD none (0 : Int) = y at *
        go_wp2_with fail
        go_ret
        obtain ⟨ht, hmv, hk⟩ := HR.out
        have e : n + 1 = nm := by have := HNM.out; rw [HMM.out] at this; simpa using this
        subst e
        exact ⟨rfl, N1, (putI (countI ht (n + 1)).1 hk (some x)).1, (Moved.of_below HB.out _).trans (hmv.trans ((countI ht (n + 1)).2.trans (putI (countI ht (n + 1)).1 hk (some x)).2))⟩
      | some y =>
        have HMM := Lib.hid hM
        rw [hM] at c2 c3
        clear hM
        simp only [Option.isSome_some, Option.getD_some] at c2 c3
        go_wp2_with fail
        go_ret
        obtain ⟨ht, hmv, hk⟩ := HR.out
        have e : n = nm := by have := HNM.out; rw [HMM.out] at this; simpa using this
        subst e
        exact ⟨rfl, N1, (putI ht hk (some x)).1, (Moved.of_below HB.out _).trans (hmv.trans (putI ht hk (some x)).2)⟩
end Go.Proofs.Ytlkbaplfffbmkaa
