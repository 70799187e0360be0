/- New, Set. -/
import Derived.Test.YtlkbaplfffbmkaaKac
import Derived.Test.YtlkbaplfffbmkaaKab
import Derived.Test.YtlkbaplfffbmkaaKaa
namespace Go.Proofs.Ytlkbaplfffbmkaa
open Go.RowKit

theorem newI_any (w : World) : Calls Try.prog 37 #[] w fun e w' => e = .returned (.pointer (some ⟨w.heap.size + 1, 0, none⟩)) ∧ TrieI w' (w.heap.size + 1) (fun a d => if a = 0 ∧ d = 0 then some w.heap.size else none) 0 (fun _ _ => none) ∧ Below w.heap.size w w' := by
  go_enter Try.func37, Try.ntmps37
  go_wp2_with fail
  go_ret
  refine ⟨rfl, ?_, ((Below.refl _ _).alloc (Nat.le_refl _) _).alloc (by simp) _⟩
  refine ⟨⟨w.heap.size, by simp, hnewAt (by simp)⟩, fun a d k h => ?_, fun a d h => ?_, fun a d k h => ?_, fun a d a' d' k h h' => ?_, fun a d h => ?_, fun a d h => by cases h⟩
  · split at h
    · rename_i e; obtain ⟨rfl, rfl⟩ := e; exact ⟨by decide, by decide, by decide⟩
    · cases h
  · simp at h
  · split at h
    · rename_i e; obtain ⟨rfl, rfl⟩ := e; injection h with h; subst h
      simp only [Nat.succ_ne_zero, and_false, if_false]
      exact hold (hnew _ _)
    · cases h
  · split at h
    · rename_i e; split at h'
      · rename_i e'; exact ⟨by omega, by omega⟩
      · cases h'
    · cases h
  · split at h
    · injection h with h; omega
    · cases h
theorem setI_nil (a : Nat) (l : Int) (x : Int) (w : World) : Calls Try.prog 38 #[.pointer none, pfx a l, .int .i64 x] w fun e w' => e = .returned (.int .i64 6) ∧ Below w.heap.size w w' := by
  unfold pfx
  go_enter Try.func38, Try.ntmps38
  go_wp2_with (go_at_call 55; refine (madeI_nil _).mono ?_; rintro e w1 ⟨rfl, rfl⟩)
  go_ret
  exact ⟨rfl, (Below.refl _ _).alloc (Nat.le_refl _) _⟩
theorem setI_bad {w : World} {b n : Nat} {N : Nat → Nat → Option Nat} {M : Nat → Nat → Option Int} (h : TrieI w b N n M) (a : Nat) (l : Int) (ha : a < 4294967296) (hok : okP a l = false) (x : Int) :
    Calls Try.prog 38 #[.pointer (some ⟨b, 0, none⟩), pfx a l, .int .i64 x] w fun e w' => e = .returned (.int .i64 20) ∧ Below w.heap.size w w' := by
  have HM := Lib.hid (madeI_any (h.below ((Below.refl _ _).alloc (Nat.le_refl _) (.cells #[.int .u32 a, .int .i64 l] 32))))
  have HC := Lib.hid (check_any a l ha)
  rw [hok] at HC
  clear ha h hok
  unfold pfx at HC ⊢
  simp only [Bool.false_eq_true, if_false] at HC
  go_enter Try.func38, Try.ntmps38
  go_wp2_with (first | (go_at_call 55; refine (HM.out).mono ?_; rintro e w1 ⟨rfl, rfl⟩) | (go_at_call 56; refine (HC.out _).mono ?_; rintro e w1 ⟨rfl, hb1⟩))
  go_ret
  exact ⟨rfl, ((Below.refl _ _).alloc (Nat.le_refl _) _).trans (hb1.mono (by simp))⟩
/-- a link of a node is laid -/
theorem linkI {w : World} {k j : Nat} {l r : Option Nat} {x : Option Int} (h : w.heap[k]? = some (.cells (nodeCells (Value.int .i64) (0 : Int) l r x) 110 (0, 0))) (c : Bool) (v : Option Nat) (hj : j = if c then 1 else 0) :
    SetB w (w.setCell ⟨k, j, none⟩ (ptr v)) k (.cells (nodeCells (Value.int .i64) (0 : Int) (if c then l else v) (if c then v else r) x) 110 (0, 0)) := by
  have := (SetB.self h).store (o := j) (lt_of_blk h) (ptr v)
  subst hj
  cases c <;> exact this
theorem linkNewI {w : World} {k j : Nat} {l r : Option Nat} {x : Option Int} (h : w.heap[k]? = some (.cells (nodeCells (Value.int .i64) (0 : Int) l r x) 110 (0, 0))) (c : Bool) (v : Option Nat) (hj : j = if c then 1 else 0) (o : Obj) :
    SetB (w.alloc o) (((w.setCell ⟨k, j, none⟩ (ptr v)).alloc o).drew) k (.cells (nodeCells (Value.int .i64) (0 : Int) (if c then l else v) (if c then v else r) x) 110 (0, 0)) := by
  rw [← World.setCell_alloc_past o k j (ptr v) (lt_of_blk h)]
  exact (linkI (hold h) c v hj).drew
theorem grownI {w : World} {b n : Nat} {N : Nat → Nat → Option Nat} {M : Nat → Nat → Option Int} (h : TrieI w b N n M) {a d k j : Nat} (hk : N a d = some k) (hd : d ≤ 31) (c : Bool) (hc : N (kid a d c) (d + 1) = none) (hj : j = if c then 1 else 0) :
    TrieI (((w.setCell ⟨k, j, none⟩ (ptr (some w.heap.size))).alloc (.cells (nodeCells (Value.int .i64) (0 : Int) none none (none : Option Int)) 110 (0, 0))).drew) b (upd N (kid a d c) (d + 1) (some w.heap.size)) n M ∧
    Moved w (((w.setCell ⟨k, j, none⟩ (ptr (some w.heap.size))).alloc (.cells (nodeCells (Value.int .i64) (0 : Int) none none (none : Option Int)) 110 (0, 0))).drew) (foot b N) (foot b (upd N (kid a d c) (d + 1) (some w.heap.size))) := by
  have hs := linkNewI (h.node _ _ _ hk) c (some w.heap.size) hj (.cells (nodeCells (Value.int .i64) (0 : Int) none none (none : Option Int)) 110 (0, 0))
  refine ⟨h.grow hk hd c hc rfl hs, ⟨rfl, rfl, rfl, by simp [World.setCell], fun q hq hn => ?_, fun q hq => ?_⟩⟩
  · exact (hs.other (fun e => hn (by rw [e]; exact .inr ⟨_, _, hk⟩))).trans (Below.heap_alloc w _ q hq)
  · rcases hq with rfl | ⟨x, y, hq⟩
    · exact .inl (.inl rfl)
    · by_cases e : x = kid a d c ∧ y = d + 1
      · rw [e.1, e.2, upd_same] at hq; injection hq with hq; exact .inr (by omega)
      · rw [upd_other _ _ e] at hq; exact .inl (.inr ⟨_, _, hq⟩)
/-- a node's thing is laid -/
theorem putI {w : World} {b n : Nat} {N : Nat → Nat → Option Nat} {M : Nat → Nat → Option Int} (h : TrieI w b N n M) {a d k : Nat} (hk : N a d = some k) (v : Option Int) :
    TrieI ((w.setCell ⟨k, 2, none⟩ (.int .i64 (v.getD (0 : Int)))).setCell ⟨k, 3, none⟩ (.bool v.isSome)) b N n (upd M a d v) ∧
    Moved w ((w.setCell ⟨k, 2, none⟩ (.int .i64 (v.getD (0 : Int)))).setCell ⟨k, 3, none⟩ (.bool v.isSome)) (foot b N) (foot b N) := by
  have hb := h.node _ _ _ hk
  have hs := ((SetB.self hb).store (o := 2) (lt_of_blk hb) (.int .i64 (v.getD (0 : Int)))).store (o := 3) (lt_of_blk hb) (.bool v.isSome)
  exact ⟨h.setNode hk v hs, Moved.of_set hs (.inr ⟨_, _, hk⟩)⟩
theorem countI {w : World} {b n : Nat} {N : Nat → Nat → Option Nat} {M : Nat → Nat → Option Int} (h : TrieI w b N n M) (n' : Nat) :
    TrieI (w.setCell ⟨b, 1, none⟩ (.int .i64 n')) b N n' M ∧ Moved w (w.setCell ⟨b, 1, none⟩ (.int .i64 n')) (foot b N) (foot b N) := by
  obtain ⟨r, hr, hb⟩ := h.root
  have hs := (SetB.self hb).store (o := 1) (lt_of_blk hb) (.int .i64 n')
  exact ⟨h.setCount hr hs, Moved.of_set hs (.inl rfl)⟩
set_option maxHeartbeats 1000000 in
theorem setI_any {w : World} {b n : Nat} {N : Nat → Nat → Option Nat} {M : Nat → Nat → Option Int} (h : TrieI w b N n M) (a m : Nat) (ha : a < 4294967296) (hok : okP a m = true) (hn : n < 4611686018427387904) (x : Int) :
    Calls Try.prog 38 #[.pointer (some ⟨b, 0, none⟩), pfx a m, .int .i64 x] w fun e w' => e = .returned (.int .i64 0) ∧ ∃ N', TrieI w' b N' (if (M a m).isSome then n else n + 1) (upd M a m (some x)) ∧ Moved w w' (foot b N) (foot b N') := by
  obtain ⟨r, hr, hb⟩ := h.root
  have c0 : w.cell? ⟨b, 0, none⟩ = some (.pointer (some ⟨r, 0, none⟩)) := cell_of hb rfl
  have HM := Lib.hid (madeI_any (h.below ((Below.refl _ _).alloc (Nat.le_refl _) (.cells #[.int .u32 a, .int .i64 m] 32))))
  have HC := Lib.hid (check_any a m ha)
  have HT := Lib.hid h
  have HA := Lib.hid ha
  rw [hok] at HC
  obtain ⟨h0, h32, hcut⟩ := okP_iff.1 hok
  simp only [Int.toNat_natCast] at hcut
  have hm32 : m ≤ 32 := by omega
  have hbl := lt_of_blk hb
  have HCut := Lib.hid hcut
  generalize hnm : (if (M a m).isSome = true then n else n + 1) = nm
  have HNM := Lib.hid hnm
  clear hnm
  clear ha h hb hok h0 h32 hcut
  unfold pfx at HC ⊢
  simp only [if_true] at HC ⊢
  have c1 : (w.alloc (.cells #[.int .u32 a, .int .i64 m] 32)).cell? ⟨b, 0, none⟩ = some (.pointer (some ⟨r, 0, none⟩)) := cell_hold c0 _
  go_enter Try.func38, Try.ntmps38
  go_wp2_with (first | (go_at_call 55; refine (HM.out).mono ?_; rintro e w1 ⟨rfl, rfl⟩) | (go_at_call 56; refine (HC.out _).mono ?_; rintro e w1 ⟨rfl, hb1⟩; have c2 := (Below.cell hb1 (p := ⟨b, 0, none⟩) (by simp; omega)).trans c1; have hp : w1.heap[w.heap.size]? = some (.cells #[.int .u32 a, .int .i64 m] 32) := (hb1.block _ (by simp)).trans (hnew _ _); have p1 : w1.cell? ⟨w.heap.size, 1, none⟩ = some (.int .i64 m) := cell_of hp rfl))
  have HB := Lib.hid (((Below.refl _ _).alloc (Nat.le_refl _) _).trans (hb1.mono (by simp)) : Below w.heap.size w w1)
  have HP := Lib.hid hp
  clear HM HC c0 c1 c2 hb1 hp p1
  go_loopw [8, 25] (fun av iv wr => ∃ (i k : Nat) (N1 : Nat → Nat → Option Nat), i ≤ m ∧ iv = .int .i64 i ∧ av = .pointer (some ⟨k, 0, none⟩) ∧ N1 (pcut a i) i = some k ∧ TrieI wr b N1 n M ∧ Moved w1 wr (foot b N) (foot b N1)) (fun _ iv _ => m - (intOf iv).toNat)
  case atStart => exact ⟨0, r, N, Nat.zero_le _, rfl, rfl, by rw [cut_0 HA.out, hr], HT.out.below HB.out, Moved.of_below (Below.refl _ _) _⟩
  case round =>
    obtain ⟨i, k, N1, hi, rfl, rfl, hk, ht, hmv⟩ := hrel
    have hpw : wr.heap[w.heap.size]? = some (.cells #[.int .u32 a, .int .i64 m] 32) := (hmv.same _ (lt_of_blk HP.out) (fun hf => by have := HT.out.lt hf; omega)).trans HP.out
    have p0 : wr.cell? ⟨w.heap.size, 0, none⟩ = some (.int .u32 a) := cell_of hpw rfl
    have p1 : wr.cell? ⟨w.heap.size, 1, none⟩ = some (.int .i64 m) := cell_of hpw rfl
    have hkl := ht.lt (.inr ⟨_, _, hk⟩)
    have hkb : k ≠ b := fun e => ht.nb _ _ (e ▸ hk)
    by_cases hlt : i < m
    · have hck := cut_kid a (show i ≤ 31 by omega)
      have HBit := Lib.hid (bit_any a i HA.out)
      rw [show decide (i < 32) = true by simp; omega, Bool.true_and] at HBit
      obtain ⟨n0, n1, -, -, nf⟩ := nodeI ht hk
      obtain ⟨nj, fj⟩ : wr.cell? ⟨k, if a.testBit (31 - i) then 1 else 0, none⟩ = some (ptr (N1 (pcut a (i + 1)) (i + 1))) ∧ wr.frozen? ⟨k, if a.testBit (31 - i) then 1 else 0, none⟩ = false := by
        refine ⟨?_, nf _⟩
        rw [hck]
        cases a.testBit (31 - i)
        · exact n0
        · exact n1
      have HR := Lib.hid (And.intro ht (And.intro hmv hk))
      have HCK := Lib.hid hck
      clear ht hmv hk hpw n0 n1 nf hck
      cases hN : N1 (pcut a (i + 1)) (i + 1) with
      | none =>
        have HN := Lib.hid hN
        rw [hN] at nj
        clear hN
        unfold ptr at nj
        simp only [Option.map_none] at nj
        generalize a.testBit (31 - i) = c at *
        have HJ := Lib.hid (And.intro nj fj)
        cases c
        all_goals
          simp only [Bool.false_eq_true, if_false, if_true] at HBit nj fj
          go_wp2_with fail
          refine wp_region_quiet_tail (fun w' => w' = wr.drew) 8 (by kernel_rfl) (by kernel_rfl) rfl ?_
          simp only [List.take_succ_cons, List.take_zero, List.drop_succ_cons, List.drop_zero]
          iterate 8 (((with_reducible refine wpQuiet_step (fun K hK => ?_)); go_simp; first | ((with_reducible refine hK _ ?_); clear hK K) | (apply Exists.intro; refine ⟨?_, hK _ ?_⟩; (with_reducible refine (HBit.out _).mono ?_); rintro e w2 ⟨rfl, rfl⟩; exact ⟨rfl, rfl⟩; clear hK K)))
          refine wpQuiet_nil ?_
          rintro _ rfl
          clear HBit
          go_wp2_with fail
          obtain ⟨ht, hmv, hk⟩ := HR.out
          have hc0 := HN.out
          rw [HCK.out] at hc0
          refine (?_ : (∃ _, _) ∧ _)
          first
            | exact ⟨⟨i + 1, wr.heap.size, _, by omega, by go_num, rfl, by rw [HCK.out, upd_same], (grownI ht hk (by omega) false hc0 rfl).1, hmv.trans (grownI ht hk (by omega) false hc0 rfl).2⟩, by simp [intOf]; omega⟩
            | exact ⟨⟨i + 1, wr.heap.size, _, by omega, by go_num, rfl, by rw [HCK.out, upd_same], (grownI ht hk (by omega) true hc0 rfl).1, hmv.trans (grownI ht hk (by omega) true hc0 rfl).2⟩, by simp [intOf]; omega⟩
      | some q =>
        have HN := Lib.hid hN
        rw [hN] at nj
        clear hN
        unfold ptr at nj
        simp only [Option.map_some] at nj
        generalize a.testBit (31 - i) = c at *
        cases c
        all_goals
          simp only [Bool.false_eq_true, if_false, if_true] at HBit nj fj
          go_wp2_with fail
          refine wp_region_quiet_tail (fun w' => w' = wr.drew) 8 (by kernel_rfl) (by kernel_rfl) rfl ?_
          simp only [List.take_succ_cons, List.take_zero, List.drop_succ_cons, List.drop_zero]
          iterate 8 (((with_reducible refine wpQuiet_step (fun K hK => ?_)); go_simp; first | ((with_reducible refine hK _ ?_); clear hK K) | (apply Exists.intro; refine ⟨?_, hK _ ?_⟩; (with_reducible refine (HBit.out _).mono ?_); rintro e w2 ⟨rfl, rfl⟩; exact ⟨rfl, rfl⟩; clear hK K)))
          refine wpQuiet_nil ?_
          rintro _ rfl
          clear HBit
          go_wp2_with fail
          obtain ⟨ht, hmv, hk⟩ := HR.out
          exact ⟨⟨i + 1, q, N1, by omega, by go_num, rfl, HN.out, ht.keep (fun _ _ => rfl), hmv.trans ⟨rfl, rfl, rfl, Nat.le_refl _, fun _ _ _ => rfl, fun _ h => .inl h⟩⟩, by simp [intOf]; omega⟩
    · obtain rfl : i = m := by omega
      rw [HCut.out] at hk
      obtain ⟨r2, hr2, hb2⟩ := ht.root
      have d1 : wr.cell? ⟨b, 1, none⟩ = some (.int .i64 n) := cell_of hb2 rfl
      have e1 : wr.frozen? ⟨b, 1, none⟩ = false := free_of hb2
      obtain ⟨-, -, c2, c3, nf⟩ := nodeI ht hk
      have f2 := nf 2
      have f3 := nf 3
      have HR := Lib.hid (And.intro ht (And.intro hmv hk))
      have hnn : IntKind.i64.wrap ((n : Int) + 1) = ((n + 1 : Nat) : Int) := by rw [IntWalk.i64_in _ (by omega)]; rfl
      have HB2 := Lib.hid hb2
      clear ht hmv hk hpw nf hb2 hr2
      cases hM : M a i with
      | none =>
        have HMM := Lib.hid hM
        rw [hM] at c2 c3
        clear hM
        simp only [Option.isSome_none] at c3
        generalize Option.getD none (0 : Int) = y at *
        go_wp2_with fail
        go_ret
        obtain ⟨ht, hmv, hk⟩ := HR.out
        have e : n + 1 = nm := by have := HNM.out; rw [HMM.out] at this; simpa using this
        subst e
        exact ⟨rfl, N1, (putI (countI ht (n + 1)).1 hk (some x)).1, (Moved.of_below HB.out _).trans (hmv.trans ((countI ht (n + 1)).2.trans (putI (countI ht (n + 1)).1 hk (some x)).2))⟩
      | some y =>
        have HMM := Lib.hid hM
        rw [hM] at c2 c3
        clear hM
        simp only [Option.isSome_some, Option.getD_some] at c2 c3
        go_wp2_with fail
        go_ret
        obtain ⟨ht, hmv, hk⟩ := HR.out
        have e : n = nm := by have := HNM.out; rw [HMM.out] at this; simpa using this
        subst e
        exact ⟨rfl, N1, (putI ht hk (some x)).1, (Moved.of_below HB.out _).trans (hmv.trans (putI ht hk (some x)).2)⟩
end Go.Proofs.Ytlkbaplfffbmkaa
/- Get, Len, Longest. -/
namespace Go.Proofs.Ytlkbaplfffbmkaa
open Go.RowKit

theorem longI_nil (a : Nat) (w : World) : Calls Try.prog 43 #[.pointer none, .int .u32 a] w fun e w' => e = .returned (.tuple #[pfx 0 0, .int .i64 (0 : Int), .bool false]) ∧ Below w.heap.size w w' := by
  go_enter Try.func43, Try.ntmps43
  go_wp2_with (go_at_call 55; refine (madeI_nil _).mono ?_; rintro e w1 ⟨rfl, rfl⟩)
  refine ret_cell3 rfl rfl rfl (hnewAt rfl) Try.underlying32 rfl (by kernel_rfl) ⟨rfl, (Below.refl _ _).alloc (Nat.le_refl _) _⟩
theorem kidNoneI {w : World} {b n : Nat} {N : Nat → Nat → Option Nat} {M : Nat → Nat → Option Int} (h : TrieI w b N n M) {a : Nat} {i k : Nat} (hk : N (pcut a i) i = some k) :
    w.cell? ⟨k, if decide (i < 32) && a.testBit (31 - i) then 1 else 0, none⟩ = some (ptr (N (pcut a (i + 1)) (i + 1))) := by
  obtain ⟨n0, n1, -, -, -⟩ := nodeI h hk
  have hle := (h.key _ _ _ hk).le
  by_cases hi : i < 32
  · rw [cut_kid a (by omega)]
    simp only [hi, decide_true, Bool.true_and]
    cases a.testBit (31 - i)
    · exact n0
    · exact n1
  · simp only [hi, decide_false, Bool.false_and, Bool.false_eq_true, if_false]
    rw [h.none33 _ (by omega)]
    rw [h.none33 _ (by omega)] at n0
    exact n0
set_option maxHeartbeats 1000000 in
theorem longI_any {w : World} {b n : Nat} {N : Nat → Nat → Option Nat} {M : Nat → Nat → Option Int} (h : TrieI w b N n M) (a : Nat) (ha : a < 4294967296) :
    Calls Try.prog 43 #[.pointer (some ⟨b, 0, none⟩), .int .u32 a] w fun e w' => e = .returned (.tuple (match lng M a 33 with | none => #[pfx 0 0, .int .i64 (0 : Int), .bool false] | some j => #[pfx (pcut a j) j, .int .i64 ((M (pcut a j) j).getD (0 : Int)), .bool true])) ∧ Below w.heap.size w w' := by
  obtain ⟨r, hr, hb⟩ := h.root
  have hb0 := ((Below.refl w.heap.size w).alloc (Nat.le_refl _) (.cells #[.int .u32 0, .int .i64 0] 32))
  have c0 : w.cell? ⟨b, 0, none⟩ = some (.pointer (some ⟨r, 0, none⟩)) := cell_of hb rfl
  have c1 := cell_hold c0 (.cells #[.int .u32 0, .int .i64 0] 32)
  have HM := Lib.hid (madeI_any (h.below hb0))
  have HT := Lib.hid (h.below hb0)
  have HA := Lib.hid ha
  have HB0 := Lib.hid hb0
  have HK := Lib.hid (fun (j : Nat) w => make_any a j ha w)
  generalize hres : (match lng M a 33 with | none => #[pfx 0 0, .int .i64 (0 : Int), .bool false] | some j => #[pfx (pcut a j) j, .int .i64 ((M (pcut a j) j).getD (0 : Int)), .bool true]) = res
  have HRes := Lib.hid hres
  clear hres
  clear ha h hb hb0
  go_enter Try.func43, Try.ntmps43
  go_wp2_with (go_at_call 55; refine (HM.out).mono ?_; rintro e w1 ⟨rfl, rfl⟩)
  clear HM c0 c1
  obtain ⟨w1, hw1⟩ : ∃ w1 : World, w1 = w.alloc (.cells #[.int .u32 0, .int .i64 0] 32) := ⟨_, rfl⟩
  have hcell : w1.heap[w.heap.size]? = some (.cells #[.int .u32 0, .int .i64 0] 32) := by rw [hw1]; exact hnew _ _
  have HCell := Lib.hid hcell
  rw [← hw1] at HT HB0 ⊢
  clear hw1 hcell
  go_loopw [7, 8, 9, 10] (fun xv lv av iv wr => ∃ i : Nat, i ≤ 33 ∧ iv = .int .i64 i ∧ av = ptr (N (pcut a i) i) ∧ xv = .int .i64 (lngX (0 : Int) M a i) ∧ lv = .int .i64 (lngN M a i) ∧ Below w1.heap.size w1 wr) (fun _ _ _ iv _ => 34 - (intOf iv).toNat)
  case atStart => exact ⟨0, by omega, rfl, by rw [cut_0 HA.out, hr]; rfl, rfl, rfl, Below.refl _ _⟩
  case round =>
    obtain ⟨i, hi, rfl, rfl, rfl, rfl, hbw⟩ := hrel
    cases hN : N (pcut a i) i with
    | none =>
      have hst : lng M a 33 = lng M a i := lng_stop (fun j h1 h2 => by
        have := HT.out.none_down hN (j - i) (by omega)
        rw [show i + (j - i) = j by omega] at this
        exact HT.out.thing_none this) hi
      have hres := HRes.out
      rw [hst] at hres
      have hcw : wr.heap[w.heap.size]? = some (.cells #[.int .u32 0, .int .i64 0] 32) := (hbw.block _ (lt_of_blk HCell.out)).trans HCell.out
      have HW := Lib.hid (HB0.out.trans (hbw.mono HB0.out.size))
      unfold lngX lngN
      cases hl : lng M a i with
      | none =>
        rw [hl] at hres
        dsimp only at hres ⊢
        unfold ptr
        simp only [Option.map_none]
        have d0 : wr.cell? ⟨w.heap.size, 0, none⟩ = some (.int .u32 0) := cell_of hcw rfl
        have d1 : wr.cell? ⟨w.heap.size, 1, none⟩ = some (.int .i64 0) := cell_of hcw rfl
        have e0 : ∀ o, wr.frozen? ⟨w.heap.size, o, none⟩ = false := fun o => free_of hcw
        clear hbw hN hst hl HRes HK
        have HC := Lib.hid hcw
        have HE := Lib.hid hres
        clear hcw hres
        go_wp2_with fail
        have hs := ((SetB.self HC.out).store (o := 0) (lt_of_blk HC.out) (.int .u32 0)).store (o := 1) (lt_of_blk HC.out) (.int .i64 0)
        rw [← HE.out]
        refine ret_cell3 rfl rfl rfl (hs.at (lt_of_blk HC.out)) Try.underlying32 rfl (by kernel_rfl) ⟨rfl, HW.out.trans (hs.below (Nat.le_refl _))⟩
      | some j =>
        rw [hl] at hres
        dsimp only at hres ⊢
        unfold ptr
        simp only [Option.map_none]
        have hj := lng_lt hl
        have hcl : cl j = j := by unfold cl; rw [if_neg (by omega), if_neg (by omega)]; exact Int.toNat_natCast j
        have HMk := Lib.hid (HK.out j)
        rw [hcl] at HMk
        unfold pfx at HMk hres
        generalize (M (pcut a j) j).getD (0 : Int) = y at *
        clear hbw hN hst hl HRes HK hcl
        have HC := Lib.hid hcw
        have HE := Lib.hid hres
        clear hcw hres
        go_wp2_with (go_at_call 60; refine (HMk.out _).mono ?_; rintro e w2 ⟨rfl, hb2⟩; have hc2 := (hb2.block _ (lt_of_blk HC.out)).trans HC.out; have HC2 := Lib.hid hc2; have d0 : w2.cell? ⟨w.heap.size, 0, none⟩ = some (.int .u32 0) := cell_of hc2 rfl; have d1 : w2.cell? ⟨w.heap.size, 1, none⟩ = some (.int .i64 0) := cell_of hc2 rfl; have e0 : ∀ o, w2.frozen? ⟨w.heap.size, o, none⟩ = false := fun o => free_of hc2; have HB2 := Lib.hid hb2; clear hb2 hc2)
        have hs := ((SetB.self HC2.out).store (o := 0) (lt_of_blk HC2.out) (.int .u32 (pcut a j))).store (o := 1) (lt_of_blk HC2.out) (.int .i64 j)
        rw [← HE.out]
        refine ret_cell3 rfl rfl rfl (hs.at (lt_of_blk HC2.out)) Try.underlying32 rfl (by kernel_rfl) ⟨rfl, (HW.out.trans (HB2.out.mono HW.out.size)).trans (hs.below (Nat.le_refl _))⟩
    | some k =>
      have ht := HT.out.below hbw
      have hkk := (ht.key _ _ _ hN).le
      have nj := kidNoneI ht hN
      obtain ⟨-, -, c2, c3, -⟩ := nodeI ht hN
      have HBit := Lib.hid (bit_any a i HA.out)
      have HW := Lib.hid hbw
      have HSt := Lib.hid (And.intro (fun h => lng_none (z := (0 : Int)) (M := M) (a := a) (i := i) h) (fun x h => lng_some (z := (0 : Int)) (x := x) (M := M) (a := a) (i := i) h))
      generalize hpn : ptr (N (pcut a (i + 1)) (i + 1)) = pn at *
      have HPN := Lib.hid hpn
      clear hbw hN ht hpn
      unfold ptr
      simp only [Option.map_some]
      generalize (decide (i < 32) && a.testBit (31 - i)) = c at *
      cases hM : M (pcut a i) i with
      | none =>
        have hst := HSt.out.1 hM
        rw [hM] at c2 c3
        simp only [Option.isSome_none] at c3
        have HST := Lib.hid hst
        clear c2 hM hst HSt
        generalize lngX (0 : Int) M a i = x0 at *
        generalize lngN M a i = l0 at *
        cases c
        all_goals
          simp only [Bool.false_eq_true, if_false, if_true] at HBit nj
          go_wp2_with fail
          refine wp_region_quiet_tail (fun w' => w' = wr.drew) 8 (by kernel_rfl) (by kernel_rfl) rfl ?_
          simp only [List.take_succ_cons, List.take_zero, List.drop_succ_cons, List.drop_zero]
          iterate 8 (((with_reducible refine wpQuiet_step (fun K hK => ?_)); go_simp; first | ((with_reducible refine hK _ ?_); clear hK K) | (apply Exists.intro; refine ⟨?_, hK _ ?_⟩; (with_reducible refine (HBit.out _).mono ?_); rintro e w2 ⟨rfl, rfl⟩; exact ⟨rfl, rfl⟩; clear hK K)))
          refine wpQuiet_nil ?_
          rintro _ rfl
          clear HBit nj
          go_wp2_with fail
          go_roundw
          case rel => exact ⟨i + 1, by omega, by go_num, HPN.out.symm, by rw [HST.out.1], by rw [HST.out.2], HW.out.drew⟩
          case measure => simp [intOf]; omega
      | some y =>
        have hst := HSt.out.2 y hM
        rw [hM] at c2 c3
        simp only [Option.isSome_some, Option.getD_some] at c2 c3
        have HST := Lib.hid hst
        clear hM hst HSt
        generalize lngX (0 : Int) M a i = x0 at *
        generalize lngN M a i = l0 at *
        cases c
        all_goals
          simp only [Bool.false_eq_true, if_false, if_true] at HBit nj
          go_wp2_with fail
          refine wp_region_quiet_tail (fun w' => w' = wr.drew) 8 (by kernel_rfl) (by kernel_rfl) rfl ?_
          simp only [List.take_succ_cons, List.take_zero, List.drop_succ_cons, List.drop_zero]
          iterate 8 (((with_reducible refine wpQuiet_step (fun K hK => ?_)); go_simp; first | ((with_reducible refine hK _ ?_); clear hK K) | (apply Exists.intro; refine ⟨?_, hK _ ?_⟩; (with_reducible refine (HBit.out _).mono ?_); rintro e w2 ⟨rfl, rfl⟩; exact ⟨rfl, rfl⟩; clear hK K)))
          refine wpQuiet_nil ?_
          rintro _ rfl
          clear HBit nj
          go_wp2_with fail
          go_roundw
          case rel => exact ⟨i + 1, by omega, by go_num, HPN.out.symm, by rw [HST.out.1], by rw [HST.out.2], HW.out.drew⟩
          case measure => simp [intOf]; omega
end Go.Proofs.Ytlkbaplfffbmkaa
/- Hops in memory; Iface. -/
namespace Go.Proofs.Ytlkbaplfffbmkaa
open Go.RowKit

/-- interfaces by numbers, and routers' nets -/
structure HD where
  of : List (Int × If)
  M : Nat → Nat → Nat → Option Int
def HD.get (D : HD) (id : Int) : Option If := (D.of.find? (fun p => decide (p.1 = id))).map (·.2)
def hopCells (bm : Nat) (b : Nat → Nat) : Array Value := (.map (some bm) :: (List.range 16).map (fun i => .pointer (some ⟨b i, 0, none⟩))).toArray
structure HopsAt (w : World) (h : Nat) (D : HD) : Prop where
  out : ∃ (bm clk : Nat) (es : List (MR.Ent Int)) (b : Nat → Nat), w.heap[h]? = some (.cells (hopCells bm b) 80) ∧ MR.MapAt IN w bm es clk ∧ (∀ id, MR.get? es id = (D.get id).map If.v) ∧ ∀ i, i < 16 → ∃ N n, TrieI w (b i) N n (D.M i)
  wf : ∀ i, i < 16 → ∀ a d v, D.M i a d = some v → IN.ok v
theorem HopsAt.keep {w w' : World} {h : Nat} {D : HD} (H : HopsAt w h D) (hb : Below w.heap.size w w') : HopsAt w' h D := by
  obtain ⟨⟨bm, clk, es, b, h1, h2, h3, h4⟩, hw⟩ := H
  refine ⟨⟨bm, clk, es, b, (hb.block _ (lt_of_blk h1)).trans h1, h2.blk_iff IN (hb.block _ (lt_of_blk h2.blk)), h3, fun i hi => ?_⟩, hw⟩
  obtain ⟨N, n, hT⟩ := h4 i hi
  exact ⟨N, n, hT.below hb⟩
theorem hop_nth (bm : Nat) (b : Nat → Nat) {i : Nat} (hi : i < 16) : (hopCells bm b)[1 + i]? = some (.pointer (some ⟨b i, 0, none⟩)) := by
  unfold hopCells
  rw [List.getElem?_toArray, Nat.add_comm, List.getElem?_cons_succ, List.getElem?_map, List.getElem?_range hi]
  rfl
theorem zero83 (w : World) : (zeroValue 34).run Try.prog w = .ok (.agg #[.int .i64 0, .int .i64 0, .int .u32 0, .int .i64 0, .int .i64 0]) w := by kernel_rfl
section
variable {P : Program} {a : Act} {w : World}
theorem ret_cell2 {fn : Func} {R : Ending → World → Prop} {p q : Tmp} {ty T : TypeId} {b : Nat} {cells : Array Value} {fr : Nat × Nat} (hr : fn.results = #[.cell p ty, .tmp q]) (hp : a.tmps.getD p undef = .pointer (some ⟨b, 0, none⟩)) (hd : a.defers = [])
    (hb : w.heap[b]? = some (.cells cells T fr)) {d : TypeDesc} (hu : P.underlying ty = some d) (hdr : d.isRow = true) (hi : (P.info? ty).map (·.size) = some cells.size) (h : R (.returned (.tuple #[.agg cells, a.tmps.getD q undef])) w) : bodyPost P fn R .ret a w := by
  refine bodyPost_ret ?_ hd h
  simp only [results, hr]
  have hp' : a.tmps[p]?.getD undef = .pointer (some ⟨b, 0, none⟩) := by simpa using hp
  simp [asAddr, hp', run_load_whole (P := P) hb hu hdr hi]
end
set_option maxRecDepth 100000 in
set_option maxHeartbeats 1000000 in
theorem iface_any {w : World} {h : Nat} {D : HD} (H : HopsAt w h D) {id : Int} (hid : IN.ok id) (r : If) (is : Bool) (hr : D.get id = if is then some r else none) (hz : is = false → r = ⟨0, 0, 0, 0, 0⟩) : Calls Try.prog 16 #[.pointer (some ⟨h, 0, none⟩), .int .i64 id] w fun e w' => e = .returned (.tuple #[r.v, .bool is]) ∧ Below w.heap.size w w' := by
  obtain ⟨⟨bm, clk, es, b, h1, h2, h3, h4⟩, hw⟩ := H
  have hg : (MR.get? es id).getD (.agg #[.int .i64 0, .int .i64 0, .int .u32 0, .int .i64 0, .int .i64 0]) = r.v ∧ (MR.get? es id).isSome = is := by
    rw [h3, hr]
    cases is with
    | true => exact ⟨rfl, rfl⟩
    | false => rw [hz rfl]; exact ⟨rfl, rfl⟩
  have hlk : ∀ W, W.heap[bm]? = w.heap[bm]? → (Instr.lookup 76 (.map (some bm)) (.int .i64 id) true).run Try.prog W = .ok (.tuple #[r.v, .bool is]) W := fun W hW => by
    have := MR.run_lookup IN (h2.blk_iff IN hW) hid Try.underlying76 zero83 true
    rw [hg.1, hg.2, if_pos rfl] at this
    exact this
  have c0 : w.cell? ⟨h, 0, none⟩ = some (.map (some bm)) := cell_of h1 rfl
  have hal := (Below.refl w.heap.size w).alloc (Nat.le_refl _) (.cells #[.int .i64 0, .int .i64 0, .int .u32 0, .int .i64 0, .int .i64 0] 34)
  have lb := lt_of_blk h2.blk
  have lh := lt_of_blk h1
  have hlk1 := hlk _ (hal.block _ lb)
  have c1 : (w.alloc (.cells #[.int .i64 0, .int .i64 0, .int .u32 0, .int .i64 0, .int .i64 0] 34)).cell? ⟨h, 0, none⟩ = some (.map (some bm)) := cell_of (hold h1) rfl
  have HR := Lib.hid (And.intro hal lh)
  clear h1 h2 h3 h4 hw hg hlk hr hz hid lb lh hal c0
  unfold If.v at *
  go_enter Try.func16, Try.ntmps16
  go_wp2_with fail
  have hbb := ((Below.refl w.heap.size w).alloc (Nat.le_refl _) (.cells #[.int .i64 r.id, .int .i64 r.r, .int .u32 (r.ad : Int), .int .i64 r.ln, .int .i64 r.cp] 34))
  refine ret_cell2 (b := w.heap.size) rfl rfl rfl (hold (hnew _ _)) Try.underlying34 rfl (by kernel_rfl) ?_
  exact ⟨rfl, hbb.alloc hbb.size _⟩
end Go.Proofs.Ytlkbaplfffbmkaa
/- Find. -/
namespace Go.Proofs.Ytlkbaplfffbmkaa
open Go.RowKit

def HD.find (D : HD) (ρ a : Nat) : Option If := match lng (D.M ρ) a 33 with
  | none => none
  | some j => D.get ((D.M ρ (pcut a j) j).getD 0)
set_option maxRecDepth 100000 in
set_option maxHeartbeats 1000000 in
theorem find_any {w : World} {h : Nat} {D : HD} (H : HopsAt w h D) {ρ a : Nat} (hρ : ρ < 16) (ha : a < 4294967296) (r : If) (is : Bool) (hr : D.find ρ a = if is then some r else none) (hz : is = false → r = ⟨0, 0, 0, 0, 0⟩) : Calls Try.prog 14 #[.pointer (some ⟨h, 0, none⟩), .int .i64 ρ, .int .u32 a] w fun e w' => e = .returned (.tuple #[r.v, .bool is]) ∧ Below w.heap.size w w' := by
  have hal := (Below.refl w.heap.size w).alloc (Nat.le_refl _) (.cells #[.int .i64 0, .int .i64 0, .int .u32 0, .int .i64 0, .int .i64 0] 34)
  have H1 := H.keep hal
  have hzero : (w.alloc (.cells #[.int .i64 0, .int .i64 0, .int .u32 0, .int .i64 0, .int .i64 0] 34)).heap[w.heap.size]? = some (.cells #[.int .i64 0, .int .i64 0, .int .u32 0, .int .i64 0, .int .i64 0] 34 (0, 0)) := hnew _ _
  obtain ⟨⟨bm, clk, es, b, h1, h2, h3, h4⟩, hw⟩ := H1
  have c1 : (w.alloc (.cells #[.int .i64 0, .int .i64 0, .int .u32 0, .int .i64 0, .int .i64 0] 34)).cell? ⟨h, 1 + ρ, none⟩ = some (.pointer (some ⟨b ρ, 0, none⟩)) := cell_of h1 (hop_nth bm b hρ)
  obtain ⟨N, n, hT⟩ := h4 ρ hρ
  have hwi := fun W => hwithin_ok (n := (ρ : Int)) (a := 0) (b := 15) ⟨by omega, by omega⟩ W
  have HL := Lib.hid (longI_any hT a ha)
  have HW := Lib.hid hwi
  have HF := Lib.hid (And.intro hal (And.intro (H.keep hal) hzero))
  have HR := Lib.hid (And.intro hr (And.intro hz hw))
  have hlt : ((ρ : Int) < 16) = True := by simp; omega
  have h0 : ((0 : Int) ≤ (ρ : Int)) = True := by simp
  clear h1 h2 h3 h4 hw hT hwi hr hz H hal hzero
  go_enter Try.func14, Try.ntmps14
  go_wp2_with fail
  refine (HW.out _).mono ?_
  rintro e W ⟨rfl, hW⟩
  generalize w.alloc (.cells #[.int .i64 0, .int .i64 0, .int .u32 0, .int .i64 0, .int .i64 0] 34) = W1 at *
  subst W
  go_wp2_with fail
  rcases hG : lng (D.M ρ) a 33 with _ | j
  · have hl := HL.out
    rw [hG] at hl
    dsimp only at hl
    have HC := Lib.hid hl
    have hf : D.find ρ a = none := by unfold HD.find; rw [hG]
    obtain ⟨hr, hz, -⟩ := HR.out
    obtain rfl : is = false := by cases is with
      | false => rfl
      | true => rw [hf] at hr; cases hr
    have hr0 := hz rfl
    subst hr0
    clear hl hf hr hz HL HR hG c1
    refine (HC.out).mono ?_
    rintro e W2 ⟨rfl, hb2⟩
    have F2 := Lib.hid (And.intro (bcall HF.out.1 (Nat.le_refl _) hb2) ((hb2.block _ (lt_of_blk HF.out.2.2)).trans HF.out.2.2))
    clear hb2
    unfold pfx
    go_wp2_with (with_reducible refine halt_store 34 rfl ?_)
    refine Halted.go ?_
    have hal3 := (Below.refl W2.heap.size W2).alloc (Nat.le_refl _) (.cells #[.int .u32 0, .int .i64 0] 32)
    refine store_whole rfl 34 _ _ rfl w.heap.size #[.int .i64 0, .int .i64 0, .int .u32 0, .int .i64 0, .int .i64 0] rfl rfl (hold F2.out.2) rfl (by kernel_rfl) (by simp [Value.oneCell']) ?_
    intro Wz hwz hsz
    have HZ := Lib.hid (And.intro hwz (Below.trans (bcall F2.out.1 (Nat.le_refl _) hal3) (hsz.below (Nat.le_refl _))))
    clear hwz hsz hal3
    go_wp2_with fail
    refine ret_cell2 rfl rfl rfl HZ.out.1 Try.underlying34 rfl (by kernel_rfl) ?_
    exact ⟨rfl, HZ.out.2⟩
  · have hl := HL.out
    rw [hG] at hl
    dsimp only at hl
    obtain ⟨id, hid⟩ : ∃ id, (D.M ρ (pcut a j) j).getD 0 = id := ⟨_, rfl⟩
    rw [hid] at hl
    have HC := Lib.hid hl
    have hok : IN.ok id := by
      cases hm : D.M ρ (pcut a j) j with
      | none => rw [hm] at hid; subst hid; exact wfI (by decide)
      | some v => rw [hm] at hid; subst hid; exact HR.out.2.2 ρ hρ _ _ _ hm
    have hf : D.find ρ a = D.get id := by unfold HD.find; rw [hG, ← hid]
    have hg := HR.out.1
    rw [hf] at hg
    have hz := HR.out.2.1
    refine (HC.out).mono ?_
    rintro e W2 ⟨rfl, hb2⟩
    have hal3 := (Below.refl W2.heap.size W2).alloc (Nat.le_refl _) (.cells #[.int .u32 (pcut a j : Nat), .int .i64 (j : Int)] 32)
    have HI := Lib.hid (iface_any ((HF.out.2.1.keep hb2).keep hal3) hok r is hg hz)
    have F2 := Lib.hid (And.intro (bcall (bcall HF.out.1 (Nat.le_refl _) hb2) (Nat.le_refl _) hal3) (hold (hb2.block _ (lt_of_blk HF.out.2.2) |>.trans HF.out.2.2) : (W2.alloc (.cells #[.int .u32 (pcut a j : Nat), .int .i64 (j : Int)] 32)).heap[w.heap.size]? = some (.cells #[.int .i64 0, .int .i64 0, .int .u32 0, .int .i64 0, .int .i64 0] 34 (0, 0))))
    clear hb2 hal3 hl hid hok hf hg hz HL HR hG c1 HC HF
    unfold pfx
    unfold If.v at HI
    generalize pcut a j = q at *
    go_wp2_with fail
    refine (HI.out).mono ?_
    rintro e W3 ⟨rfl, hb3⟩
    generalize W2.alloc (.cells #[.int .u32 (q : Nat), .int .i64 (j : Int)] 32) = W2a at *
    have F3 := Lib.hid (And.intro (bcall F2.out.1 (Nat.le_refl _) hb3) ((hb3.block _ (lt_of_blk F2.out.2)).trans F2.out.2))
    clear hb3
    go_wp2_with (with_reducible refine halt_store 34 rfl ?_)
    refine Halted.go ?_
    refine store_whole rfl 34 _ _ rfl w.heap.size #[.int .i64 r.id, .int .i64 r.r, .int .u32 (r.ad : Int), .int .i64 r.ln, .int .i64 r.cp] rfl rfl F3.out.2 rfl (by kernel_rfl) (by simp [Value.oneCell']) ?_
    intro Wz hwz hsz
    have HZ := Lib.hid (And.intro hwz (Below.trans F3.out.1 (hsz.below (Nat.le_refl _))))
    clear hwz hsz
    go_wp2_with fail
    refine ret_cell2 rfl rfl rfl HZ.out.1 Try.underlying34 rfl (by kernel_rfl) ?_
    exact ⟨rfl, HZ.out.2⟩
end Go.Proofs.Ytlkbaplfffbmkaa
/- Hops being made: the content, and what each step leaves. -/
namespace Go.Proofs.Ytlkbaplfffbmkaa
open Go.RowKit
open Go.ChangeMaps (setBlock)

def HD.add (D : HD) (x : If) : HD := ⟨(x.id, x) :: D.of, fun i => if i = x.r.toNat then upd (D.M i) x.ad x.ln.toNat (some x.id) else D.M i⟩
def hd0 : HD := ⟨[], fun _ _ _ => none⟩
def hdOf (l : List If) : HD := l.foldl HD.add hd0
theorem hdOf_succ {l : List If} {i : Nat} (hi : i < l.length) : hdOf (l.take (i + 1)) = (hdOf (l.take i)).add (l.getD i default) := by
  unfold hdOf
  rw [List.take_succ_eq_append_getElem hi, List.foldl_append]
  simp [List.getD_eq_getElem?_getD, hi]
theorem HD.get_add (D : HD) (x : If) (id : Int) : (D.add x).get id = if id = x.id then some x else D.get id := by
  unfold HD.get HD.add
  simp only [List.find?_cons]
  by_cases h : id = x.id
  · subst h; simp
  · rw [if_neg h]
    have : decide (x.id = id) = false := by simp; exact fun e => h e.symm
    rw [this]
def partCells (bm : Nat) (b : Nat → Nat) (k : Nat) : Array Value := (.map (some bm) :: (List.range 16).map (fun i => if i < k then .pointer (some ⟨b i, 0, none⟩) else .pointer none)).toArray
structure HopsN (B : Nat) (w : World) (h bm k t : Nat) (D : HD) (clk : Nat) (es : List (MR.Ent Int)) (b : Nat → Nat) (N : Nat → Nat → Nat → Option Nat) (n : Nat → Nat) : Prop where
  hB : B ≤ h
  mB : B ≤ bm
  ne : h ≠ bm
  cell : w.heap[h]? = some (.cells (partCells bm b k) 80)
  map : MR.MapAt IN w bm es clk
  get : ∀ id, MR.get? es id = (D.get id).map If.v
  tr : ∀ i, i < k → TrieI w (b i) (N i) (n i) (D.M i)
  nn : ∀ i, n i ≤ t
  apart : ∀ i j, i < k → j < k → i ≠ j → ∀ x, foot (b i) (N i) x → foot (b j) (N j) x → False
  free : ∀ i, i < k → ∀ x, foot (b i) (N i) x → x ≠ h ∧ x ≠ bm ∧ B ≤ x
  wf : ∀ i a d v, D.M i a d = some v → IN.ok v
namespace HopsN
variable {B : Nat} {w w' : World} {h bm k t : Nat} {D : HD} {clk : Nat} {es : List (MR.Ent Int)} {b : Nat → Nat} {N : Nat → Nat → Nat → Option Nat} {n : Nat → Nat}
theorem keep (H : HopsN B w h bm k t D clk es b N n) (hb : Below w.heap.size w w') : HopsN B w' h bm k t D clk es b N n :=
  { H with
    cell := (hb.block _ (lt_of_blk H.cell)).trans H.cell
    map := H.map.blk_iff IN (hb.block _ (lt_of_blk H.map.blk))
    tr := fun i hi => (H.tr i hi).below hb }
theorem part_nth (bm : Nat) (b : Nat → Nat) (k : Nat) {i : Nat} (hi : i < 16) : (partCells bm b k)[1 + i]? = some (if i < k then .pointer (some ⟨b i, 0, none⟩) else .pointer none) := by
  unfold partCells
  rw [List.getElem?_toArray, Nat.add_comm, List.getElem?_cons_succ, List.getElem?_map, List.getElem?_range hi]
  rfl
theorem part_set (bm : Nat) (b : Nat → Nat) {k c : Nat} (hk : k < 16) : (partCells bm b k).setIfInBounds (1 + k) (.pointer (some ⟨c, 0, none⟩)) = partCells bm (fun i => if i = k then c else b i) (k + 1) := by
  apply Array.ext_getElem?
  intro j
  rw [Array.getElem?_setIfInBounds]
  have hs : (partCells bm b k).size = 17 := by simp [partCells]
  cases j with
  | zero => rw [if_neg (by omega)]; rfl
  | succ j =>
    by_cases hj : j < 16
    · rw [Nat.add_comm j 1, part_nth _ _ _ hj, part_nth _ _ _ hj]
      by_cases e : k = j
      · subst e; simp [hs]; omega
      · rw [if_neg (by omega)]
        by_cases e2 : j < k
        · rw [if_pos e2, if_pos (by omega), if_neg (by omega)]
        · rw [if_neg e2, if_neg (by omega)]
    · rw [if_neg (by omega), Array.getElem?_eq_none (by rw [hs]; omega), Array.getElem?_eq_none (by simp [partCells]; omega)]
/-- behind trie.New, and the store of its pointer -/
theorem grow (H : HopsN B w h bm k t D clk es b N n) (hk : k < 16) {w1 w2 : World} (hb : Below w.heap.size w w1) (hB : B ≤ w.heap.size)
    (hT : TrieI w1 (w.heap.size + 1) (fun a d => if a = 0 ∧ d = 0 then some w.heap.size else none) 0 (fun _ _ => none)) (hD : D.M k = fun _ _ => none)
    (hs : SetB w1 w2 h (.cells ((partCells bm b k).setIfInBounds (1 + k) (.pointer (some ⟨w.heap.size + 1, 0, none⟩))) 80)) :
    HopsN B w2 h bm (k + 1) t D clk es (fun i => if i = k then w.heap.size + 1 else b i) (fun i => if i = k then (fun a d => if a = 0 ∧ d = 0 then some w.heap.size else none) else N i) (fun i => if i = k then 0 else n i) := by
  have H1 := H.keep hb
  have hf : ∀ x, foot (w.heap.size + 1) (fun a d => if a = 0 ∧ d = 0 then some w.heap.size else none) x → w.heap.size ≤ x := by
    rintro x (rfl | ⟨a, d, e⟩)
    · omega
    · dsimp only at e; split at e
      · injection e with e; omega
      · cases e
  have hh := lt_of_blk H.cell
  have hm := lt_of_blk H.map.blk
  refine ⟨H.hB, H.mB, H.ne, ?_, H1.map.blk_iff IN (hs.other (Ne.symm H.ne)), H.get, fun i hi => ?_, fun i => ?_, fun i j hi hj hij x => ?_, fun i hi x => ?_, H.wf⟩
  · rw [hs.at (lt_of_blk H1.cell), part_set _ _ hk]
  · by_cases e : i = k
    · subst e
      simp only [if_true, hD]
      exact hT.keep fun x hx => hs.other (by have := hf x hx; omega)
    · simp only [if_neg e]
      exact (H1.tr i (by omega)).keep fun x hx => hs.other (H.free i (by omega) x hx).1
  · split
    · omega
    · exact H.nn i
  · by_cases e : i = k
    · subst e
      simp only [if_true, if_neg (Ne.symm hij)]
      exact fun h1 h2 => by have := hf x h1; have := (H.tr j (by omega)).lt h2; omega
    · by_cases e2 : j = k
      · subst e2
        simp only [if_true, if_neg e]
        exact fun h1 h2 => by have := hf x h2; have := (H.tr i (by omega)).lt h1; omega
      · simp only [if_neg e, if_neg e2]
        exact H.apart i j (by omega) (by omega) hij x
  · by_cases e : i = k
    · subst e
      simp only [if_true]
      exact fun hx => by have := hf x hx; omega
    · simp only [if_neg e]
      exact H.free i (by omega) x
/-- behind the map's update, and Set -/
theorem put (H : HopsN B w h bm 16 t D clk es b N n) (hB : B ≤ w.heap.size) {x : If} (hr : x.r.toNat < 16) (hid : IN.ok x.id) {w1 w2 : World}
    (hm : MR.MapAt IN w1 bm (MR.put es x.id x.v clk) (MR.clock' es x.id clk)) (ho : ∀ j, j ≠ bm → w1.heap[j]? = w.heap[j]?) {N' : Nat → Nat → Option Nat} 
    (hT : TrieI w2 (b x.r.toNat) N' (if (D.M x.r.toNat x.ad x.ln.toNat).isSome then n x.r.toNat else n x.r.toNat + 1) (upd (D.M x.r.toNat) x.ad x.ln.toNat (some x.id)))
    (hs : w1.heap.size = w.heap.size) (hv : Moved w1 w2 (foot (b x.r.toNat) (N x.r.toNat)) (foot (b x.r.toNat) N')) :
    HopsN B w2 h bm 16 (t + 1) (D.add x) (MR.clock' es x.id clk) (MR.put es x.id x.v clk) b (fun i => if i = x.r.toNat then N' else N i) (fun i => if i = x.r.toNat then (if (D.M x.r.toNat x.ad x.ln.toNat).isSome then n x.r.toNat else n x.r.toNat + 1) else n i) := by
  have hh := lt_of_blk H.cell
  have hbm := lt_of_blk H.map.blk
  generalize hρ : x.r.toNat = ρ at *
  refine ⟨H.hB, H.mB, H.ne, ?_, hm.blk_iff IN (hv.same bm (by omega) fun hf => (H.free ρ hr bm hf).2.1 rfl), fun id => ?_, fun i hi => ?_, fun i => ?_, fun i j hi hj hij y => ?_, fun i hi y => ?_, fun i a d v => ?_⟩
  · rw [hv.same h (by omega) (fun hf => (H.free ρ hr h hf).1 rfl), ho h H.ne]; exact H.cell
  · rw [MR.get?_put, HD.get_add, H.get]; split <;> rfl
  · unfold HD.add
    by_cases e : i = ρ
    · subst e; simp only [if_true, hρ]; exact hT
    · simp only [if_neg e, hρ]
      exact (H.tr i hi).keep fun y hy => (hv.same y (by have := (H.tr i hi).lt hy; omega) (fun hf => H.apart i ρ hi hr e y hy hf)).trans (ho y (H.free i hi y hy).2.1)
  · have := H.nn i; have := H.nn ρ
    split
    · split <;> omega
    · omega
  · by_cases e : i = ρ
    · subst e
      simp only [if_true, if_neg (Ne.symm hij)]
      intro h1 h2
      rcases hv.foot y h1 with h3 | h3
      · exact H.apart i j hi hj hij y h3 h2
      · have := (H.tr j hj).lt h2; omega
    · by_cases e2 : j = ρ
      · subst e2
        simp only [if_true, if_neg e]
        intro h1 h2
        rcases hv.foot y h2 with h3 | h3
        · exact H.apart i j hi hj hij y h1 h3
        · have := (H.tr i hi).lt h1; omega
      · simp only [if_neg e, if_neg e2]
        exact H.apart i j hi hj hij y
  · by_cases e : i = ρ
    · subst e
      simp only [if_true]
      intro h1
      rcases hv.foot y h1 with h3 | h3
      · exact H.free i hi y h3
      · omega
    · simp only [if_neg e]
      exact H.free i hi y
  · unfold HD.add
    dsimp only
    rw [hρ]
    split
    · unfold upd; split
      · intro e; injection e with e; subst e; exact hid
      · exact H.wf i a d v
    · exact H.wf i a d v
theorem hops (H : HopsN B w h bm 16 t D clk es b N n) : HopsAt w h D := by
  refine ⟨⟨bm, clk, es, b, ?_, H.map, H.get, fun i hi => ⟨N i, n i, H.tr i hi⟩⟩, fun i _ => H.wf i⟩
  rw [H.cell]
  unfold partCells hopCells
  congr 3
end HopsN
end Go.Proofs.Ytlkbaplfffbmkaa
/- Two operations that come up together. -/
namespace Go.Proofs.Ytlkbaplfffbmkaa
open Go Go.RowKit

section
variable {P : Program} {ops : Array Oper} {md : Region.Mode} {S : World → Prop}

/-- two that come up, in whatever order -/
theorem held_two {Q : Exit → Act → World → Prop} {g : Nat} (i j : Nat) {l0 : Array Bool} {a : Act} {w : World} (hB : decide (Region.ready md ops l0 = [i, j]) = true)
    (h1 : wpList P ops (Exit.then (fun a' w' => S w' ∧ wpAnyH P md ops Q S g (l0.setIfInBounds i true) a' w') Q) (pick ops.toList [i]) a w)
    (h2 : wpList P ops (Exit.then (fun a' w' => S w' ∧ wpAnyH P md ops Q S g (l0.setIfInBounds j true) a' w') Q) (pick ops.toList [j]) a w) : wpAnyH P md ops Q S (g + 1) l0 a w := by
  have hr : Region.ready md ops l0 = [i, j] := by simpa using hB
  have go : ∀ k, k ∈ [i, j] → wpList P ops (Exit.then (fun a' w' => S w' ∧ wpAnyH P md ops Q S g (l0.setIfInBounds k true) a' w') Q) (pick ops.toList [k]) a w → wpOp P ops Q k (fun a' w' => S w' ∧ wpAnyH P md ops Q S g (l0.setIfInBounds k true) a' w') a w := by
    intro k hk h
    obtain ⟨o, ho⟩ := ready_lt (md := md) (ops := ops) (listed := l0) (i := k) (by rw [hr]; exact hk)
    have hp : pick ops.toList [k] = [o] := by simp [pick, List.getD_eq_getElem?_getD, ho]
    rw [hp] at h
    unfold wpOp
    simp only [ho]
    unfold wpList at h
    by_cases hw : Region.wanted o (yielded ops a.tmps) = true
    · rw [if_pos hw] at h ⊢
      refine h.imp (fun h => wp_then (Oper.wp_mono (fun a' w' h' => h') h)) (fun h => ⟨h.1, let ⟨a, w, h⟩ := h.2; ⟨a, w, h⟩⟩)
    · rw [if_neg hw] at h ⊢
      exact h
  refine wpAnyH_all hr (by simp) fun k hk => go k hk ?_
  simp only [List.mem_cons, List.not_mem_nil, or_false] at hk
  rcases hk with rfl | rfl
  · exact h1
  · exact h2
end
end Go.Proofs.Ytlkbaplfffbmkaa
/- hop.New of good ones. -/
namespace Go.Proofs.Ytlkbaplfffbmkaa
open Go.RowKit
open Go.ChangeMaps (setBlock)

set_option maxRecDepth 100000 in
set_option maxHeartbeats 2000000 in
theorem hnew_ok {w : World} {oa : Option Addr} {n c : Nat} {l : List If} (h : Ifs w oa n c l) (hg : Good l) : Calls Try.prog 11 #[.slice oa n c] w fun e w' => ∃ hb, e = .returned (.tuple #[.pointer (some ⟨hb, 0, none⟩), .int .i64 0]) ∧ HopsAt w' hb (hdOf l) ∧ Below w.heap.size w w' := by
  have HL := Lib.hid h.sl.len
  have HK := Lib.hid (hcheck_ok h hg)
  have F := Lib.hid h
  have HG := Lib.hid hg
  have hmax := h.sl.max
  have h256 : n ≤ 256 := by have h1 := hg.len; have h2 := h.sl.len; omega
  clear h hg
  have hmm := @run_makeMap Try.prog
  go_enter Try.func11, Try.ntmps11
  go_wp2_with fail
  refine (HK.out).mono ?_
  rintro e W ⟨rfl, hbW⟩
  have F0 := Lib.hid (And.intro hbW (F.out.keep hbW))
  have m3 : MR.MapAt IN ((W.alloc (.map #[] 0)).alloc (.cells (partCells W.heap.size (fun _ => 0) 0) 80)) W.heap.size [] 0 := MR.mapAt_made IN (hold (hnew _ _))
  have H0 : HopsN w.heap.size ((W.alloc (.map #[] 0)).alloc (.cells (partCells W.heap.size (fun _ => 0) 0) 80)) (W.heap.size + 1) W.heap.size 0 0 hd0 0 [] (fun _ => 0) (fun _ _ _ => none) (fun _ => 0) :=
    ⟨by have := hbW.size; omega, hbW.size, by omega, hnewAt (by simp), m3, fun _ => rfl, fun i hi => by omega, fun _ => Nat.le_refl _, fun i j hi => by omega, fun i hi => by omega, fun i a d v e => by cases e⟩
  have hbb : Below w.heap.size w ((W.alloc (.map #[] 0)).alloc (.cells (partCells W.heap.size (fun _ => 0) 0) 80)) := (hbW.alloc hbW.size _).alloc (by have := hbW.size; simp; omega) _
  have G := Lib.hid (And.intro H0 hbb)
  clear m3 H0 hbb hbW HK
  go_wp2_with fail
  have l0 := hmm
  clear l0 hmm
  go_loopw [17] (fun iv wr => ∃ (i : Nat) (b : Nat → Nat) (N : Nat → Nat → Nat → Option Nat) (m : Nat → Nat), i ≤ 16 ∧ iv = .int .i64 i ∧ HopsN w.heap.size wr (W.heap.size + 1) W.heap.size i 0 hd0 0 [] b N m ∧ Below w.heap.size w wr) (fun iv _ => 16 - (intOf iv).toNat)
  case atStart => exact ⟨0, _, _, _, Nat.zero_le _, rfl, G.out.1, G.out.2⟩
  case round =>
    obtain ⟨i, b, N, m, hi, rfl, hH, hb⟩ := hrel
    obtain ⟨w2, rfl⟩ : ∃ w2 : World, w2 = wr := ⟨_, rfl⟩
    by_cases hlt : i < 16
    · have hil : ((i : Int) < 16) = True := by simp; omega
      have hiz : ((i : Int) < 0) = False := by simp
      have hw3 := wrapS hlt (by decide)
      have H2 := Lib.hid (And.intro hH hb)
      clear hH hb
      go_wp2_with fail
      refine wp_region_heldP (fun _ => True) (by kernel_rfl) ?_
      refine held_reads [0, 1] (g := 5) rfl (by kernel_rfl) trivial (fun _ _ d _ _ h => by cases d <;> exact h) ?_
      simp only [pick, List.getD_cons_zero, List.getD_cons_succ]
      iterate 2 ((with_reducible refine wpRead_step (fun K hK => ?_)); go_simp; first | ((with_reducible refine hK _ ?_); clear hK K) | (apply Exists.intro; (with_reducible refine ⟨fun w' hw' => ?_, hK _ ?_⟩); (skip; go_simp; first | exact rfl | exact ⟨rfl, rfl⟩); clear hK K))
      with_reducible refine wpRead_nil ?_
      have hd := (Below.refl w2.heap.size w2).drew
      have H2 := Lib.hid (And.intro (H2.out.1.keep hd) (bcall H2.out.2 (Nat.le_refl _) hd))
      clear hd
      generalize w2.drew = w3 at *
      refine held_two 2 3 (by kernel_rfl) ?_ ?_
      · simp only [pick, List.getD_cons_zero, List.getD_cons_succ]
        go_wp2_with fail
        refine (newI_any w3).mono ?_
        rintro e W2 ⟨rfl, hT, hb2⟩
        have c0 : W2.cell? ⟨W.heap.size + 1, 1 + i, none⟩ = some (.pointer none) := cell_of (H2.out.1.keep hb2).cell (by rw [HopsN.part_nth _ _ _ hlt, if_neg (Nat.lt_irrefl _)])
        have f0 : W2.frozen? ⟨W.heap.size + 1, 1 + i, none⟩ = false := free_of (H2.out.1.keep hb2).cell
        have hs := (SetB.self (H2.out.1.keep hb2).cell).store (o := 1 + i) (lt_of_blk (H2.out.1.keep hb2).cell) (.pointer (some ⟨w3.heap.size + 1, 0, none⟩))
        have hB2 : w.heap.size ≤ w3.heap.size := H2.out.2.size
        have H3 := Lib.hid (And.intro (H2.out.1.grow hlt hb2 hB2 hT rfl hs) (Below.trans (bcall H2.out.2 (Nat.le_refl _) hb2) (hs.below H2.out.1.hB)))
        clear hs hB2 hT hb2
        go_wp2_with fail
        refine ⟨trivial, ?_⟩
        refine held_reads [3, 4, 5] (g := 1) rfl (by kernel_rfl) trivial (fun _ _ d _ _ h => by cases d <;> exact h) ?_
        simp only [pick, List.getD_cons_zero, List.getD_cons_succ]
        iterate 3 ((with_reducible refine wpRead_step (fun K hK => ?_)); go_simp; first | ((with_reducible refine hK _ ?_); clear hK K) | (apply Exists.intro; (with_reducible refine ⟨fun w' hw' => ?_, hK _ ?_⟩); (skip; go_simp; first | exact rfl | exact ⟨rfl, rfl⟩); clear hK K))
        with_reducible refine wpRead_nil ?_
        refine held_one 6 (by kernel_rfl) ?_
        simp only [pick, List.getD_cons_zero, List.getD_cons_succ]
        go_wp2_with fail
        refine ⟨trivial, ?_⟩
        refine wpAnyH_done (by kernel_rfl) ?_ _
        go_wp2_with fail
        exact ⟨⟨i + 1, _, _, _, hlt, by first | rw [hw3] | rw [Int.natCast_succ], H3.out.1, H3.out.2⟩, by first | (rw [hw3]; exact mSucc hlt) | (rw [← Int.natCast_succ]; exact mSucc hlt)⟩
      · simp only [pick, List.getD_cons_zero, List.getD_cons_succ]
        go_wp2_with fail
        refine ⟨trivial, ?_⟩
        refine held_reads [4] (g := 3) rfl (by kernel_rfl) trivial (fun _ _ d _ _ h => by cases d <;> exact h) ?_
        simp only [pick, List.getD_cons_zero, List.getD_cons_succ]
        iterate 1 ((with_reducible refine wpRead_step (fun K hK => ?_)); go_simp; first | ((with_reducible refine hK _ ?_); clear hK K) | (apply Exists.intro; (with_reducible refine ⟨fun w' hw' => ?_, hK _ ?_⟩); (skip; go_simp; first | exact rfl | exact ⟨rfl, rfl⟩); clear hK K))
        with_reducible refine wpRead_nil ?_
        refine held_one 2 (by kernel_rfl) ?_
        simp only [pick, List.getD_cons_zero, List.getD_cons_succ]
        go_wp2_with fail
        refine (newI_any w3).mono ?_
        rintro e W2 ⟨rfl, hT, hb2⟩
        have c0 : W2.cell? ⟨W.heap.size + 1, 1 + i, none⟩ = some (.pointer none) := cell_of (H2.out.1.keep hb2).cell (by rw [HopsN.part_nth _ _ _ hlt, if_neg (Nat.lt_irrefl _)])
        have f0 : W2.frozen? ⟨W.heap.size + 1, 1 + i, none⟩ = false := free_of (H2.out.1.keep hb2).cell
        have hs := (SetB.self (H2.out.1.keep hb2).cell).store (o := 1 + i) (lt_of_blk (H2.out.1.keep hb2).cell) (.pointer (some ⟨w3.heap.size + 1, 0, none⟩))
        have hB2 : w.heap.size ≤ w3.heap.size := H2.out.2.size
        have H3 := Lib.hid (And.intro (H2.out.1.grow hlt hb2 hB2 hT rfl hs) (Below.trans (bcall H2.out.2 (Nat.le_refl _) hb2) (hs.below H2.out.1.hB)))
        clear hs hB2 hT hb2
        go_wp2_with fail
        refine ⟨trivial, ?_⟩
        refine held_reads [5] (g := 1) rfl (by kernel_rfl) trivial (fun _ _ d _ _ h => by cases d <;> exact h) ?_
        simp only [pick, List.getD_cons_zero, List.getD_cons_succ]
        iterate 1 ((with_reducible refine wpRead_step (fun K hK => ?_)); go_simp; first | ((with_reducible refine hK _ ?_); clear hK K) | (apply Exists.intro; (with_reducible refine ⟨fun w' hw' => ?_, hK _ ?_⟩); (skip; go_simp; first | exact rfl | exact ⟨rfl, rfl⟩); clear hK K))
        with_reducible refine wpRead_nil ?_
        refine held_one 6 (by kernel_rfl) ?_
        simp only [pick, List.getD_cons_zero, List.getD_cons_succ]
        go_wp2_with fail
        refine ⟨trivial, ?_⟩
        refine wpAnyH_done (by kernel_rfl) ?_ _
        go_wp2_with fail
        exact ⟨⟨i + 1, _, _, _, hlt, by first | rw [hw3] | rw [Int.natCast_succ], H3.out.1, H3.out.2⟩, by first | (rw [hw3]; exact mSucc hlt) | (rw [← Int.natCast_succ]; exact mSucc hlt)⟩
    · obtain rfl : i = 16 := by omega
      rw [show ((16 : Nat) : Int) = 16 from rfl]
      have H2 := Lib.hid (And.intro hH hb)
      clear hH hb G
      go_wp2_with fail
      have hK := H2.out.2.size
      go_loopw [29] (fun iv wr => ∃ (i clk : Nat) (es : List (MR.Ent Int)) (b : Nat → Nat) (N : Nat → Nat → Nat → Option Nat) (m : Nat → Nat), i ≤ n ∧ iv = .int .i64 i ∧ HopsN w.heap.size wr (W.heap.size + 1) W.heap.size 16 i (hdOf (l.take i)) clk es b N m ∧ Below w.heap.size w wr) (fun iv _ => n - (intOf iv).toNat)
      case atStart => exact ⟨0, 0, _, _, _, _, Nat.zero_le _, rfl, H2.out.1, H2.out.2⟩
      case round =>
        clear H2 b N m
        obtain ⟨i, clk, es, b, N, m, hi, rfl, hH, hb⟩ := hrel
        obtain ⟨w2, rfl⟩ : ∃ w2 : World, w2 = wr := ⟨_, rfl⟩
        by_cases hlt : i < n
        · have hil : ((i : Int) < (n : Int)) = True := by simp; omega
          have hw3 := wrapS hlt hmax
          have hlen : l.length = n := HL.out.symm
          obtain ⟨b0, o0, rfl, hbb, hat⟩ := (F.out.keep hb).sl.at hlt
          have c0 := hat 0 (by decide)
          have c1 := hat 1 (by decide)
          have c2 := hat 2 (by decide)
          have c3' := hat 3 (by decide)
          have c4' := hat 4 (by decide)
          simp only [RIf, Nat.add_zero, List.getElem?_cons_zero, List.getElem?_cons_succ] at c0 c1 c2 c3' c4'
          obtain ⟨hx1, hx2, hx3, hx4, hx5, hx6, hx7⟩ := okI_iff.1 (HG.out.ok _ (getD_mem (i := i) (by omega)))
          have hbd := (okI_bd (HG.out.ok _ (getD_mem (i := i) (by omega)))).1
          obtain ⟨hx8, hx9, -⟩ := okP_iff.1 hx5
          have hadx := F.out.ad _ (getD_mem (i := i) (by omega))
          have t1 := hdOf_succ (l := l) (i := i) (by omega)
          generalize l.getD i default = x at *
          obtain ⟨id, r, ad, ln, cp⟩ := x
          dsimp only at *
          obtain ⟨ρ, rfl⟩ : ∃ ρ : Nat, r = ρ := ⟨r.toNat, by omega⟩
          obtain ⟨d, rfl⟩ : ∃ d : Nat, ln = d := ⟨ln.toNat, by omega⟩
          have hρ : ρ < 16 := by omega
          have hr1 : ((ρ : Int) < 16) = True := by simp; omega
          have hr0 : ((0 : Int) ≤ (ρ : Int)) = True := by simp
          have hal := ((Below.refl w2.heap.size w2).alloc (Nat.le_refl _) (.cells #[.int .i64 id, .int .i64 (ρ : Nat), .int .u32 (ad : Nat), .int .i64 (d : Nat), .int .i64 cp] 34)).drew
          have hxs : IfS w2.heap.size ⟨id, ρ, ad, d, cp⟩ (w2.alloc (.cells #[.int .i64 id, .int .i64 (ρ : Nat), .int .u32 (ad : Nat), .int .i64 (d : Nat), .int .i64 cp] 34)).drew := hnew _ _
          have H1 := hH.keep hal
          have lm := lt_of_blk hH.map.blk
          have lh := lt_of_blk hH.cell
          obtain ⟨O1, hO1⟩ : ∃ O, O = Obj.map (MR.ents IN.enc (MR.put es id (If.v ⟨id, ρ, ad, d, cp⟩) clk)).toArray (MR.clock' es id clk) := ⟨_, rfl⟩
          have hu1 : (Instr.mapUpdate 76 (.map (some W.heap.size)) (.int .i64 id) (.agg #[.int .i64 id, .int .i64 (ρ : Nat), .int .u32 (ad : Nat), .int .i64 (d : Nat), .int .i64 cp])).run Try.prog (w2.alloc (.cells #[.int .i64 id, .int .i64 (ρ : Nat), .int .u32 (ad : Nat), .int .i64 (d : Nat), .int .i64 cp] 34)).drew = .ok () (setBlock (w2.alloc (.cells #[.int .i64 id, .int .i64 (ρ : Nat), .int .u32 (ad : Nat), .int .i64 (d : Nat), .int .i64 cp] 34)).drew W.heap.size O1) := by rw [hO1]; exact (MR.run_update IN H1.map hbd Try.underlying76 (If.v ⟨id, ρ, ad, d, cp⟩)).1
          have hm1 : MR.MapAt IN (setBlock (w2.alloc (.cells #[.int .i64 id, .int .i64 (ρ : Nat), .int .u32 (ad : Nat), .int .i64 (d : Nat), .int .i64 cp] 34)).drew W.heap.size O1).drew W.heap.size (MR.put es id (If.v ⟨id, ρ, ad, d, cp⟩) clk) (MR.clock' es id clk) := by rw [hO1]; exact (MR.run_update IN H1.map hbd Try.underlying76 (If.v ⟨id, ρ, ad, d, cp⟩)).2.blk_iff IN rfl
          have hxs2 : IfS w2.heap.size ⟨id, ρ, ad, d, cp⟩ (setBlock (w2.alloc (.cells #[.int .i64 id, .int .i64 (ρ : Nat), .int .u32 (ad : Nat), .int .i64 (d : Nat), .int .i64 cp] 34)).drew W.heap.size O1).drew := (setBlock_other (by omega)).trans hxs
          have hT : TrieI (setBlock (w2.alloc (.cells #[.int .i64 id, .int .i64 (ρ : Nat), .int .u32 (ad : Nat), .int .i64 (d : Nat), .int .i64 cp] 34)).drew W.heap.size O1).drew (b ρ) (N ρ) (m ρ) ((hdOf (l.take i)).M ρ) := (H1.tr ρ hρ).keep fun y hy => setBlock_other (H1.free ρ hρ y hy).2.1
          have HS := Lib.hid (setI_any hT ad d hadx hx5 (by have := H1.nn ρ; omega) id)
          have k0 : (w2.alloc (.cells #[.int .i64 id, .int .i64 (ρ : Nat), .int .u32 (ad : Nat), .int .i64 (d : Nat), .int .i64 cp] 34)).drew.cell? ⟨W.heap.size + 1, 0, none⟩ = some (.map (some W.heap.size)) := cell_of H1.cell rfl
          have k1 : (setBlock (w2.alloc (.cells #[.int .i64 id, .int .i64 (ρ : Nat), .int .u32 (ad : Nat), .int .i64 (d : Nat), .int .i64 cp] 34)).drew W.heap.size O1).drew.cell? ⟨W.heap.size + 1, 1 + ρ, none⟩ = some (.pointer (some ⟨b ρ, 0, none⟩)) := cell_of ((setBlock_other H1.ne).trans H1.cell) (by rw [HopsN.part_nth _ _ _ hρ, if_pos hρ])
          have hbc : Below w.heap.size w (setBlock (w2.alloc (.cells #[.int .i64 id, .int .i64 (ρ : Nat), .int .u32 (ad : Nat), .int .i64 (d : Nat), .int .i64 cp] 34)).drew W.heap.size O1).drew := (below_setBlock (bcall hb (Nat.le_refl _) hal) H1.mB).drew
          have H := Lib.hid (And.intro H1 (And.intro hm1 (And.intro hbc (And.intro hbd (And.intro hρ t1)))))
          have hsz : (setBlock (w2.alloc (.cells #[.int .i64 id, .int .i64 (ρ : Nat), .int .u32 (ad : Nat), .int .i64 (d : Nat), .int .i64 cp] 34)).drew W.heap.size O1).drew.heap.size = (w2.alloc (.cells #[.int .i64 id, .int .i64 (ρ : Nat), .int .u32 (ad : Nat), .int .i64 (d : Nat), .int .i64 cp] 34)).drew.heap.size := by simp [setBlock]
          have HZ := Lib.hid hsz
          obtain ⟨z0, z1, z2, z3, z4⟩ := hxs.cells
          obtain ⟨y0, y1, y2, y3, y4⟩ := hxs2.cells
          clear hO1 hm1 hbc hT H1 hH hb hal hxs hxs2 hbd t1 hat hlen hadx hx1 hx2 hx3 hx4 hx5 hx6 hx7 hx8 hx9 hsz
          unfold pfx at HS
          dsimp only at *
          go_wp2_with fail
          refine wp_region_pieces (by kernel_rfl) ?_
          refine wpAny_seg (fun w' => w' = (w2.alloc (.cells #[.int .i64 id, .int .i64 (ρ : Nat), .int .u32 (ad : Nat), .int .i64 (d : Nat), .int .i64 cp] 34)).drew) [0, 1, 2, 3, 4, 5, 6] (g := 1) rfl (by kernel_rfl) rfl ?_
          simp only [pick, List.getD_cons_zero, List.getD_cons_succ]
          iterate 7 ((with_reducible refine wpQuiet_step (fun K hK => ?_)); go_simp; first | ((with_reducible refine hK _ ?_); clear hK K) | (apply Exists.intro; (with_reducible refine ⟨fun w' hw' => ?_, hK _ ?_⟩); (subst hw'; go_simp; first | exact rfl | exact ⟨rfl, rfl⟩); clear hK K))
          refine wpQuiet_nil ?_
          rintro _ rfl
          refine wpAny_one 7 (by kernel_rfl) ?_
          simp only [pick, List.getD_cons_zero, List.getD_cons_succ]
          go_wp2_with fail
          refine wpAny_done (by kernel_rfl) ?_ _
          go_wp2_with fail
          refine wp_region_pieces (by kernel_rfl) ?_
          refine wpAny_seg (fun w' => w' = (setBlock (w2.alloc (.cells #[.int .i64 id, .int .i64 (ρ : Nat), .int .u32 (ad : Nat), .int .i64 (d : Nat), .int .i64 cp] 34)).drew W.heap.size O1).drew) [0, 1, 2, 3, 4, 5, 6, 7, 8, 9, 10] (g := 1) rfl (by kernel_rfl) rfl ?_
          simp only [pick, List.getD_cons_zero, List.getD_cons_succ]
          iterate 11 ((with_reducible refine wpQuiet_step (fun K hK => ?_)); go_simp; first | ((with_reducible refine hK _ ?_); clear hK K) | (apply Exists.intro; (with_reducible refine ⟨fun w' hw' => ?_, hK _ ?_⟩); (subst hw'; go_simp; first | exact rfl | exact ⟨rfl, rfl⟩); clear hK K))
          refine wpQuiet_nil ?_
          rintro _ rfl
          refine wpAny_one 11 (by kernel_rfl) ?_
          simp only [pick, List.getD_cons_zero, List.getD_cons_succ]
          go_wp2_with fail
          refine (HS.out).mono ?_
          rintro e W2 ⟨rfl, N', hT', hmv⟩
          have H5 := H.out.1.put (x := ⟨id, ρ, ad, d, cp⟩) (Nat.le_trans H.out.1.hB (Nat.le_of_lt (lt_of_blk H.out.1.cell))) H.out.2.2.2.2.1 H.out.2.2.2.1 H.out.2.1 (fun j hj => setBlock_other hj) hT' HZ.out hmv
          rw [← H.out.2.2.2.2.2] at H5
          have H6 := Lib.hid (And.intro H5 (Below.trans H.out.2.2.1 (hmv.below H.out.2.2.1.size fun k hk => (H.out.1.free _ H.out.2.2.2.2.1 k hk).2.2)))
          clear H5 hT' hmv H HS HZ
          go_wp2_with fail
          refine wpAny_done (by kernel_rfl) ?_ _
          go_wp2_with fail
          go_roundw
          case rel => exact ⟨i + 1, _, _, _, _, _, hlt, by first | rw [hw3] | rw [Int.natCast_succ], H6.out.1, H6.out.2⟩
          case measure => first | (rw [hw3]; exact mSucc hlt) | (rw [← Int.natCast_succ]; exact mSucc hlt)
        · obtain rfl : n = i := by omega
          have hil : ((n : Int) < (n : Int)) = False := by simp
          have hH2 := hH.hops
          rw [List.take_of_length_le (by rw [HL.out]; exact Nat.le_refl _)] at hH2
          have H6 := Lib.hid (And.intro hH2 hb)
          clear hH hb hH2
          go_wp2_with fail
          go_ret2
          exact ⟨_, rfl, H6.out.1, H6.out.2⟩
end Go.Proofs.Ytlkbaplfffbmkaa
