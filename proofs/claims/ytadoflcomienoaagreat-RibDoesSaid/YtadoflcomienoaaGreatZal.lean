/- Attributes that share nothing. -/
import Derived.Test.YtadoflcomienoaaGreatZak
import Derived.Test.YtadoflcomienoaaGreatZah
import Derived.Test.YtadoflcomienoaaGreatZab
import Derived.Test.YtadoflcomienoaaGreatZac
namespace Go.Proofs.YtadoflcomienoaaGreat
open Go.RowKit

set_option maxRecDepth 100000 in
theorem clone_ints {w : World} {oa : Option Addr} {n c : Nat} {L : List Int} (h : SlOk RI OkI w ⟨oa, n, c, L⟩) (hn : n ≤ 1000000) : Calls Tryz.prog 114 #[.slice oa n c] w fun e w' => ∃ v, e = .returned v ∧ RI.Own w' w.heap.size v L ∧ Below w.heap.size w w' := by
  cases oa with
  | none =>
    have h1 : n = 0 := h.sl.none_zero rfl
    have h2 : L = [] := by have h3 : n = L.length := h.sl.len; exact List.length_eq_zero_iff.1 (by omega)
    have h4 : c = 0 := h.nil rfl
    subst h1
    subst h2
    subst h4
    clear h
    have hnil : (binOp BinOp.eql 38 (.slice none 0 0) (.slice none 0 0)).run Tryz.prog w = .ok (.bool true) w := by kernel_rfl
    go_enter Tryz.func114, Tryz.ntmps114
    go_wp2_with fail
    go_ret
    exact ⟨_, rfl, Rep.Own.nil _ _, Below.refl _ _⟩
  | some ad =>
    have hal := (Below.refl w.heap.size w).alloc (Nat.le_refl _) (.cells #[] 3)
    have hem : RI.Own (w.alloc (.cells #[] 3)) w.heap.size (.slice (some ⟨w.heap.size, 0, none⟩) 0 0) ([] : List Int) := Rep.own_empty (hnew _ _) (Nat.le_refl _)
    have F := Lib.hid (And.intro hal (And.intro hem (h.sl.keep hal)))
    clear hal hem h
    have hnil : (binOp BinOp.eql 38 (.slice (some ad) n c) (.slice none 0 0)).run Tryz.prog w = .ok (.bool false) w := by kernel_rfl
    go_enter Tryz.func114, Tryz.ntmps114
    go_wp2_with (at_builtin; refine halt ?_)
    refine Halted.go ?_
    generalize w.alloc (.cells #[] 3) = W1 at *
    refine Rep.append_list TI rfl _ _ rfl rfl F.out.2.1 (L := []) (M := L) rfl F.out.2.2 (fun e => by cases e) (by rw [List.length_nil]; unfold maxLen; omega) (by rw [List.length_nil]; omega) F.out.1.size ?_
    intro v9 V9 hown9 hb9 _
    rw [List.nil_append] at hown9
    obtain ⟨a9, c9, rfl, -, -⟩ := hown9.sl0
    have HO := Lib.hid (And.intro hown9 (F.out.1.trans hb9))
    generalize L.length = m at *
    clear hown9 hb9
    go_wp2_with fail
    go_ret
    exact ⟨_, rfl, HO.out⟩
set_option maxRecDepth 100000 in
theorem clone_sgs {w : World} {oa : Option Addr} {n c : Nat} {L : List SgV} (h : SlOk RSg SgOk w ⟨oa, n, c, L⟩) (hn : n ≤ 1000000) : Calls Tryz.prog 115 #[.slice oa n c] w fun e w' => ∃ v, e = .returned v ∧ RSg.Own w' w.heap.size v L ∧ Below w.heap.size w w' := by
  cases oa with
  | none =>
    have h1 : n = 0 := h.sl.none_zero rfl
    have h2 : L = [] := by have h3 : n = L.length := h.sl.len; exact List.length_eq_zero_iff.1 (by omega)
    have h4 : c = 0 := h.nil rfl
    subst h1
    subst h2
    subst h4
    clear h
    have hnil : (binOp BinOp.eql 36 (.slice none 0 0) (.slice none 0 0)).run Tryz.prog w = .ok (.bool true) w := by kernel_rfl
    go_enter Tryz.func115, Tryz.ntmps115
    go_wp2_with fail
    go_ret
    exact ⟨_, rfl, Rep.Own.nil _ _, Below.refl _ _⟩
  | some ad =>
    have hal := (Below.refl w.heap.size w).alloc (Nat.le_refl _) (.cells #[] 134)
    have hem : RSg.Own (w.alloc (.cells #[] 134)) w.heap.size (.slice (some ⟨w.heap.size, 0, none⟩) 0 0) ([] : List SgV) := Rep.own_empty (hnew _ _) (Nat.le_refl _)
    have F := Lib.hid (And.intro hal (And.intro hem (h.sl.keep hal)))
    clear hal hem h
    have hnil : (binOp BinOp.eql 36 (.slice (some ad) n c) (.slice none 0 0)).run Tryz.prog w = .ok (.bool false) w := by kernel_rfl
    go_enter Tryz.func115, Tryz.ntmps115
    go_wp2_with (at_builtin; refine halt ?_)
    refine Halted.go ?_
    generalize w.alloc (.cells #[] 134) = W1 at *
    refine Rep.append_list TSg rfl _ _ rfl rfl F.out.2.1 (L := []) (M := L) rfl F.out.2.2 (fun e => by cases e) (by rw [List.length_nil]; unfold maxLen; omega) (by rw [List.length_nil]; omega) F.out.1.size ?_
    intro v9 V9 hown9 hb9 _
    rw [List.nil_append] at hown9
    obtain ⟨a9, c9, rfl, -, -⟩ := hown9.sl0
    have HO := Lib.hid (And.intro hown9 (F.out.1.trans hb9))
    generalize L.length = m at *
    clear hown9 hb9
    go_wp2_with fail
    go_ret
    exact ⟨_, rfl, HO.out⟩
/-- attributes of a size that can be copied -/
structure SmA (x : AtV) : Prop where
  p : x.p.n ≤ 1000000
  c : x.c.n ≤ 1000000
  s : ∀ y ∈ x.p.l, y.s.n ≤ 1000000
structure CpS (q : Nat) (y : AtV) (g o : Nat) (s : SlV Int) (W : World) : Prop where
  bx : BxA q y W
  c : W.cell? ⟨g, o, none⟩ = some (.slice s.a s.n s.c)
theorem CpS.keep {q : Nat} {y : AtV} {g o : Nat} {s : SlV Int} {W W' : World} (h : CpS q y g o s W) (hb : Below W.heap.size W W') : CpS q y g o s W' := ⟨h.bx.keep hb, (hb.cell (World.block_lt_of_cell? _ _ h.c)).trans h.c⟩
/-- the first i have been copied -/
structure CpI (w : World) (x : AtV) (v : Value) (s5 : SlV Int) (pn pc i : Nat) (pa : Option Addr) (Pl : List SgV) (wr : World) : Prop where
  own : RSg.Own wr w.heap.size (.slice pa pn pc) Pl
  sg : Pl.map SgV.sg = x.p.l.map SgV.sg
  ok : ∀ j, j < i → Firm (Value.ownBlock (.slice pa pn pc)) wr (fun W => SlOk RI OkI W (Pl.getD j default).s) ∧ NewS (w.heap.size + 2) (Pl.getD j default).s
  rest : ∀ j, i ≤ j → Pl.getD j default = x.p.l.getD j default
  bx : BxA w.heap.size ⟨x.o, ⟨pa, pn, pc, Pl⟩, x.nx, x.md, x.pf, s5⟩ wr
  z : wr.heap[w.heap.size + 1]? = some (.cells #[.int .i64 0, .slice none 0 0, .int .u32 0, .int .i64 0, .int .i64 0, .slice none 0 0] 40)
  c : Firm (Value.ownBlock (.slice pa pn pc)) wr (fun W => SlOk RI OkI W s5)
  far : ∀ k, Value.ownBlock (.slice pa pn pc) = some k → w.heap.size + 2 ≤ k
  old : Below w.heap.size w wr
theorem CpI.keep {w : World} {x : AtV} {v : Value} {s5 : SlV Int} {pn pc i : Nat} {pa : Option Addr} {Pl : List SgV} {wr W : World} (h : CpI w x v s5 pn pc i pa Pl wr) (hb : Below wr.heap.size wr W) : CpI w x v s5 pn pc i pa Pl W :=
  ⟨h.own.below hb, h.sg, fun j hj => ⟨(h.ok j hj).1.below hb, (h.ok j hj).2⟩, h.rest, h.bx.keep hb, (hb.block _ (lt_of_blk h.z)).trans h.z, h.c.below hb, h.far, bcall h.old (Nat.le_refl _) hb⟩
end Go.Proofs.YtadoflcomienoaaGreat
/- made, find, at nodes. -/
namespace Go.Proofs.YtadoflcomienoaaGreat.Tm
open Go.RowKit

abbrev TrieM := TrieAt (α := (Option Nat)) 172 174 (Value.map) none
theorem madeM_any {w : World} {b n : Nat} {N : Nat → Nat → Option Nat} {M : Nat → Nat → Option (Option Nat)} (h : TrieM w b N n M) : Calls Tryz.prog 150 #[.pointer (some ⟨b, 0, none⟩)] w fun e w' => e = .returned (.bool true) ∧ w' = w := by
  obtain ⟨r, hr, hb⟩ := h.root
  have c0 : w.cell? ⟨b, 0, none⟩ = some (.pointer (some ⟨r, 0, none⟩)) := cell_of hb rfl
  clear h hb
  go_enter Tryz.func150, Tryz.ntmps150
  go_wp2_with fail
  go_ret
  exact ⟨rfl, rfl⟩
/-- a node's cells -/
theorem nodeM {w : World} {b n : Nat} {N : Nat → Nat → Option Nat} {M : Nat → Nat → Option (Option Nat)} (h : TrieM w b N n M) {a d k : Nat} (hk : N a d = some k) :
    w.cell? ⟨k, 0, none⟩ = some (ptr (N (kid a d false) (d + 1))) ∧ w.cell? ⟨k, 1, none⟩ = some (ptr (N (kid a d true) (d + 1))) ∧ w.cell? ⟨k, 2, none⟩ = some (.map ((M a d).getD none)) ∧ w.cell? ⟨k, 3, none⟩ = some (.bool (M a d).isSome) ∧ (∀ o, w.frozen? ⟨k, o, none⟩ = false) := by
  have hb := h.node a d k hk
  exact ⟨cell_of hb rfl, cell_of hb rfl, cell_of hb rfl, cell_of hb rfl, fun o => free_of hb⟩
set_option maxHeartbeats 1000000 in
theorem findM_any {w : World} {b n : Nat} {N : Nat → Nat → Option Nat} {M : Nat → Nat → Option (Option Nat)} (h : TrieM w b N n M) (a : Nat) (l : Int) (ha : a < 4294967296) :
    Calls Tryz.prog 119 #[.pointer (some ⟨b, 0, none⟩), pfx a l] w fun e w' => e = .returned (ptr (if okP a l then N a l.toNat else none)) ∧ Below w.heap.size w w' := by
  obtain ⟨r, hr, hb⟩ := h.root
  have c0 : w.cell? ⟨b, 0, none⟩ = some (.pointer (some ⟨r, 0, none⟩)) := cell_of hb rfl
  have HM := Lib.hid (madeM_any (h.below ((Below.refl _ _).alloc (Nat.le_refl _) (.cells #[.int .u32 a, .int .i64 l] 58))))
  have HC := Lib.hid (check_any a l ha)
  have HT := Lib.hid h
  have HA := Lib.hid ha
  clear ha
  cases hok : okP a l with
  | false =>
    rw [hok] at HC
    clear h hb hok c0
    unfold pfx at HC ⊢
    simp only [Bool.false_eq_true, if_false] at HC ⊢
    go_enter Tryz.func119, Tryz.ntmps119
    go_wp2_with (first | (go_at_call 150; refine (HM.out).mono ?_; rintro e w1 ⟨rfl, rfl⟩) | (go_at_call 54; refine (HC.out _).mono ?_; rintro e w1 ⟨rfl, hb1⟩))
    go_ret
    exact ⟨rfl, ((Below.refl _ _).alloc (Nat.le_refl _) _).trans (hb1.mono (by simp))⟩
  | true =>
    rw [hok] at HC
    obtain ⟨h0, h32, hcut⟩ := okP_iff.1 hok
    obtain ⟨m, rfl⟩ := Int.eq_ofNat_of_zero_le h0
    simp only [Int.toNat_natCast] at hcut
    have hm32 : m ≤ 32 := by omega
    have hbl := lt_of_blk hb
    clear h hb hok h0 h32
    unfold pfx at HC ⊢
    simp only [if_true, Int.toNat_natCast] at HC ⊢
    go_enter Tryz.func119, Tryz.ntmps119
    have c1 : (w.alloc (.cells #[.int .u32 a, .int .i64 m] 58)).cell? ⟨b, 0, none⟩ = some (.pointer (some ⟨r, 0, none⟩)) := cell_hold c0 _
    go_wp2_with (first | (go_at_call 150; refine (HM.out).mono ?_; rintro e w1 ⟨rfl, rfl⟩) | (go_at_call 54; refine (HC.out _).mono ?_; rintro e w1 ⟨rfl, hb1⟩; have c2 := (Below.cell hb1 (p := ⟨b, 0, none⟩) (by simp; omega)).trans c1))
    have HB := Lib.hid (((Below.refl _ _).alloc (Nat.le_refl _) _).trans (hb1.mono (by simp)) : Below w.heap.size w w1)
    have hp : w1.heap[w.heap.size]? = some (.cells #[.int .u32 a, .int .i64 m] 58) := (hb1.block _ (by simp)).trans (hnew _ _)
    have HP := Lib.hid hp
    clear HM HC c0 c1 c2 hb1 hp
    go_loopw [5, 6] (fun av iv wr => ∃ i : Nat, i ≤ m ∧ iv = .int .i64 i ∧ av = ptr (N (cut a i) i) ∧ Below w1.heap.size w1 wr) (fun _ iv _ => m - (intOf iv).toNat)
    case atStart => exact ⟨0, Nat.zero_le _, rfl, by rw [cut_0 HA.out, hr]; rfl, Below.refl _ _⟩
    case round =>
      obtain ⟨i, hi, rfl, rfl, hbw⟩ := hrel
      have hbww := HB.out.trans (hbw.mono HB.out.size)
      have hpw : wr.heap[w.heap.size]? = some (.cells #[.int .u32 a, .int .i64 m] 58) := (hbw.block _ (lt_of_blk HP.out)).trans HP.out
      have p0 : wr.cell? ⟨w.heap.size, 0, none⟩ = some (.int .u32 a) := cell_of hpw rfl
      have p1 : wr.cell? ⟨w.heap.size, 1, none⟩ = some (.int .i64 m) := cell_of hpw rfl
      clear hpw
      cases hN : N (cut a i) i with
      | none =>
        have hr2 : N a m = none := by
          have := HT.out.none_down hN (m - i) (by omega)
          rwa [show i + (m - i) = m by omega, hcut] at this
        have HR := Lib.hid hr2
        have HW := Lib.hid hbww
        clear hbw hbww hN hr2
        unfold ptr
        simp only [Option.map_none]
        by_cases hlt : i < m
        all_goals
          go_wp2_with fail
          go_ret
          exact ⟨by rw [HR.out]; rfl, HW.out⟩
      | some k =>
        have hnode := nodeM (HT.out.below hbww) hN
        by_cases hlt : i < m
        · have hk := cut_kid a (show i ≤ 31 by omega)
          have HBit := Lib.hid (bit_any a i HA.out)
          rw [show decide (i < 32) = true by simp; omega, Bool.true_and] at HBit
          have HW := Lib.hid hbw
          clear hbw hbww hN
          have hkl : ptr (N (cut a (i + 1)) (i + 1)) = if a.testBit (31 - i) then ptr (N (kid (cut a i) i true) (i + 1)) else ptr (N (kid (cut a i) i false) (i + 1)) := by
            rw [hk]; split <;> simp_all
          obtain ⟨n0, n1, -, -, -⟩ := hnode
          generalize ptr (N (kid (cut a i) i true) (i + 1)) = pt at *
          generalize ptr (N (kid (cut a i) i false) (i + 1)) = pf at *
          have HK := Lib.hid hkl
          clear hk hkl
          unfold ptr
          simp only [Option.map_some]
          generalize a.testBit (31 - i) = c at *
          cases c
          all_goals
            simp only [Bool.false_eq_true, if_false, if_true] at HBit HK
            go_wp2_with fail
            refine wp_region_quiet_tail (fun w' => w' = wr.drew) 9 (by kernel_rfl) (by kernel_rfl) rfl ?_
            simp only [List.take_succ_cons, List.take_zero, List.drop_succ_cons, List.drop_zero]
            iterate 9 (((with_reducible refine wpQuiet_step (fun K hK => ?_)); go_simp; first | ((with_reducible refine hK _ ?_); clear hK K) | (apply Exists.intro; refine ⟨?_, hK _ ?_⟩; (with_reducible refine (HBit.out _).mono ?_); rintro e w2 ⟨rfl, rfl⟩; exact ⟨rfl, rfl⟩; clear hK K)))
            refine wpQuiet_nil ?_
            rintro _ rfl
            go_wp2_with fail
            go_roundw
            case rel => exact ⟨i + 1, by omega, by go_num, HK.out.symm, HW.out.drew⟩
            case measure => simp [intOf]; omega
        · obtain rfl : i = m := by omega
          rw [hcut] at hN
          have HR := Lib.hid hN
          have HW := Lib.hid hbww
          clear hbw hbww hN hnode
          unfold ptr
          simp only [Option.map_some]
          go_wp2_with fail
          go_ret
          exact ⟨by rw [HR.out]; rfl, HW.out⟩
end Go.Proofs.YtadoflcomienoaaGreat.Tm
/- New, Set. -/
namespace Go.Proofs.YtadoflcomienoaaGreat.Tm
open Go.RowKit

theorem newM_any (w : World) : Calls Tryz.prog 66 #[] w fun e w' => e = .returned (.pointer (some ⟨w.heap.size + 1, 0, none⟩)) ∧ TrieM w' (w.heap.size + 1) (fun a d => if a = 0 ∧ d = 0 then some w.heap.size else none) 0 (fun _ _ => none) ∧ Below w.heap.size w w' := by
  go_enter Tryz.func66, Tryz.ntmps66
  go_wp2_with fail
  go_ret
  refine ⟨rfl, ?_, ((Below.refl _ _).alloc (Nat.le_refl _) _).alloc (by simp) _⟩
  refine ⟨⟨w.heap.size, by simp, hnewAt (by simp)⟩, fun a d k h => ?_, fun a d h => ?_, fun a d k h => ?_, fun a d a' d' k h h' => ?_, fun a d h => ?_, fun a d h => by cases h⟩
  · split at h
    · rename_i e; obtain ⟨rfl, rfl⟩ := e; exact ⟨by decide, by decide, by decide⟩
    · cases h
  · simp at h
  · split at h
    · rename_i e; obtain ⟨rfl, rfl⟩ := e; injection h with h; subst h
      simp only [Nat.succ_ne_zero, and_false, if_false]
      exact hold (hnew _ _)
    · cases h
  · split at h
    · rename_i e; split at h'
      · rename_i e'; exact ⟨by omega, by omega⟩
      · cases h'
    · cases h
  · split at h
    · injection h with h; omega
    · cases h
/-- a link of a node is laid -/
theorem linkM {w : World} {k j : Nat} {l r : Option Nat} {x : Option (Option Nat)} (h : w.heap[k]? = some (.cells (nodeCells (Value.map) none l r x) 172 (0, 0))) (c : Bool) (v : Option Nat) (hj : j = if c then 1 else 0) :
    SetB w (w.setCell ⟨k, j, none⟩ (ptr v)) k (.cells (nodeCells (Value.map) none (if c then l else v) (if c then v else r) x) 172 (0, 0)) := by
  have := (SetB.self h).store (o := j) (lt_of_blk h) (ptr v)
  subst hj
  cases c <;> exact this
theorem linkNewM {w : World} {k j : Nat} {l r : Option Nat} {x : Option (Option Nat)} (h : w.heap[k]? = some (.cells (nodeCells (Value.map) none l r x) 172 (0, 0))) (c : Bool) (v : Option Nat) (hj : j = if c then 1 else 0) (o : Obj) :
    SetB (w.alloc o) (((w.setCell ⟨k, j, none⟩ (ptr v)).alloc o).drew) k (.cells (nodeCells (Value.map) none (if c then l else v) (if c then v else r) x) 172 (0, 0)) := by
  rw [← World.setCell_alloc_past o k j (ptr v) (lt_of_blk h)]
  exact (linkM (hold h) c v hj).drew
theorem grownM {w : World} {b n : Nat} {N : Nat → Nat → Option Nat} {M : Nat → Nat → Option (Option Nat)} (h : TrieM w b N n M) {a d k j : Nat} (hk : N a d = some k) (hd : d ≤ 31) (c : Bool) (hc : N (kid a d c) (d + 1) = none) (hj : j = if c then 1 else 0) :
    TrieM (((w.setCell ⟨k, j, none⟩ (ptr (some w.heap.size))).alloc (.cells (nodeCells (Value.map) none none none (none : Option (Option Nat))) 172 (0, 0))).drew) b (upd N (kid a d c) (d + 1) (some w.heap.size)) n M ∧
    Moved w (((w.setCell ⟨k, j, none⟩ (ptr (some w.heap.size))).alloc (.cells (nodeCells (Value.map) none none none (none : Option (Option Nat))) 172 (0, 0))).drew) (foot b N) (foot b (upd N (kid a d c) (d + 1) (some w.heap.size))) := by
  have hs := linkNewM (h.node _ _ _ hk) c (some w.heap.size) hj (.cells (nodeCells (Value.map) none none none (none : Option (Option Nat))) 172 (0, 0))
  refine ⟨h.grow hk hd c hc rfl hs, ⟨rfl, rfl, rfl, by simp [World.setCell], fun q hq hn => ?_, fun q hq => ?_⟩⟩
  · exact (hs.other (fun e => hn (by rw [e]; exact .inr ⟨_, _, hk⟩))).trans (Below.heap_alloc w _ q hq)
  · rcases hq with rfl | ⟨x, y, hq⟩
    · exact .inl (.inl rfl)
    · by_cases e : x = kid a d c ∧ y = d + 1
      · rw [e.1, e.2, upd_same] at hq; injection hq with hq; exact .inr (by omega)
      · rw [upd_other _ _ e] at hq; exact .inl (.inr ⟨_, _, hq⟩)
/-- a node's thing is laid -/
theorem putM {w : World} {b n : Nat} {N : Nat → Nat → Option Nat} {M : Nat → Nat → Option (Option Nat)} (h : TrieM w b N n M) {a d k : Nat} (hk : N a d = some k) (v : Option (Option Nat)) :
    TrieM ((w.setCell ⟨k, 2, none⟩ (.map (v.getD none))).setCell ⟨k, 3, none⟩ (.bool v.isSome)) b N n (upd M a d v) ∧
    Moved w ((w.setCell ⟨k, 2, none⟩ (.map (v.getD none))).setCell ⟨k, 3, none⟩ (.bool v.isSome)) (foot b N) (foot b N) := by
  have hb := h.node _ _ _ hk
  have hs := ((SetB.self hb).store (o := 2) (lt_of_blk hb) (.map (v.getD none))).store (o := 3) (lt_of_blk hb) (.bool v.isSome)
  exact ⟨h.setNode hk v hs, Moved.of_set hs (.inr ⟨_, _, hk⟩)⟩
theorem countM {w : World} {b n : Nat} {N : Nat → Nat → Option Nat} {M : Nat → Nat → Option (Option Nat)} (h : TrieM w b N n M) (n' : Nat) :
    TrieM (w.setCell ⟨b, 1, none⟩ (.int .i64 n')) b N n' M ∧ Moved w (w.setCell ⟨b, 1, none⟩ (.int .i64 n')) (foot b N) (foot b N) := by
  obtain ⟨r, hr, hb⟩ := h.root
  have hs := (SetB.self hb).store (o := 1) (lt_of_blk hb) (.int .i64 n')
  exact ⟨h.setCount hr hs, Moved.of_set hs (.inl rfl)⟩
set_option maxHeartbeats 1000000 in
theorem setM_any {w : World} {b n : Nat} {N : Nat → Nat → Option Nat} {M : Nat → Nat → Option (Option Nat)} (h : TrieM w b N n M) (a m : Nat) (ha : a < 4294967296) (hok : okP a m = true) (hn : n < 4611686018427387904) (x : (Option Nat)) :
    Calls Tryz.prog 127 #[.pointer (some ⟨b, 0, none⟩), pfx a m, .map x] w fun e w' => e = .returned (.int .i64 0) ∧ ∃ N', TrieM w' b N' (if (M a m).isSome then n else n + 1) (upd M a m (some x)) ∧ Moved w w' (foot b N) (foot b N') := by
  obtain ⟨r, hr, hb⟩ := h.root
  have c0 : w.cell? ⟨b, 0, none⟩ = some (.pointer (some ⟨r, 0, none⟩)) := cell_of hb rfl
  have HM := Lib.hid (madeM_any (h.below ((Below.refl _ _).alloc (Nat.le_refl _) (.cells #[.int .u32 a, .int .i64 m] 58))))
  have HC := Lib.hid (check_any a m ha)
  have HT := Lib.hid h
  have HA := Lib.hid ha
  rw [hok] at HC
  obtain ⟨h0, h32, hcut⟩ := okP_iff.1 hok
  simp only [Int.toNat_natCast] at hcut
  have hm32 : m ≤ 32 := by omega
  have hbl := lt_of_blk hb
  have HCut := Lib.hid hcut
  generalize hnm : (if (M a m).isSome = true then n else n + 1) = nm
  have HNM := Lib.hid hnm
  clear hnm
  clear ha h hb hok h0 h32 hcut
  unfold pfx at HC ⊢
  simp only [if_true] at HC ⊢
  have c1 : (w.alloc (.cells #[.int .u32 a, .int .i64 m] 58)).cell? ⟨b, 0, none⟩ = some (.pointer (some ⟨r, 0, none⟩)) := cell_hold c0 _
  go_enter Tryz.func127, Tryz.ntmps127
  go_wp2_with (first | (go_at_call 150; refine (HM.out).mono ?_; rintro e w1 ⟨rfl, rfl⟩) | (go_at_call 54; refine (HC.out _).mono ?_; rintro e w1 ⟨rfl, hb1⟩; have c2 := (Below.cell hb1 (p := ⟨b, 0, none⟩) (by simp; omega)).trans c1; have hp : w1.heap[w.heap.size]? = some (.cells #[.int .u32 a, .int .i64 m] 58) := (hb1.block _ (by simp)).trans (hnew _ _); have p1 : w1.cell? ⟨w.heap.size, 1, none⟩ = some (.int .i64 m) := cell_of hp rfl))
  have HB := Lib.hid (((Below.refl _ _).alloc (Nat.le_refl _) _).trans (hb1.mono (by simp)) : Below w.heap.size w w1)
  have HP := Lib.hid hp
  clear HM HC c0 c1 c2 hb1 hp p1
  go_loopw [8, 25] (fun av iv wr => ∃ (i k : Nat) (N1 : Nat → Nat → Option Nat), i ≤ m ∧ iv = .int .i64 i ∧ av = .pointer (some ⟨k, 0, none⟩) ∧ N1 (cut a i) i = some k ∧ TrieM wr b N1 n M ∧ Moved w1 wr (foot b N) (foot b N1)) (fun _ iv _ => m - (intOf iv).toNat)
  case atStart => exact ⟨0, r, N, Nat.zero_le _, rfl, rfl, by rw [cut_0 HA.out, hr], HT.out.below HB.out, Moved.of_below (Below.refl _ _) _⟩
  case round =>
    obtain ⟨i, k, N1, hi, rfl, rfl, hk, ht, hmv⟩ := hrel
    have hpw : wr.heap[w.heap.size]? = some (.cells #[.int .u32 a, .int .i64 m] 58) := (hmv.same _ (lt_of_blk HP.out) (fun hf => by have := HT.out.lt hf; omega)).trans HP.out
    have p0 : wr.cell? ⟨w.heap.size, 0, none⟩ = some (.int .u32 a) := cell_of hpw rfl
    have p1 : wr.cell? ⟨w.heap.size, 1, none⟩ = some (.int .i64 m) := cell_of hpw rfl
    have hkl := ht.lt (.inr ⟨_, _, hk⟩)
    have hkb : k ≠ b := fun e => ht.nb _ _ (e ▸ hk)
    by_cases hlt : i < m
    · have hck := cut_kid a (show i ≤ 31 by omega)
      have HBit := Lib.hid (bit_any a i HA.out)
      rw [show decide (i < 32) = true by simp; omega, Bool.true_and] at HBit
      obtain ⟨n0, n1, -, -, nf⟩ := nodeM ht hk
      obtain ⟨nj, fj⟩ : wr.cell? ⟨k, if a.testBit (31 - i) then 1 else 0, none⟩ = some (ptr (N1 (cut a (i + 1)) (i + 1))) ∧ wr.frozen? ⟨k, if a.testBit (31 - i) then 1 else 0, none⟩ = false := by
        refine ⟨?_, nf _⟩
        rw [hck]
        cases a.testBit (31 - i)
        · exact n0
        · exact n1
      have HR := Lib.hid (And.intro ht (And.intro hmv hk))
      have HCK := Lib.hid hck
      clear ht hmv hk hpw n0 n1 nf hck
      cases hN : N1 (cut a (i + 1)) (i + 1) with
      | none =>
        have HN := Lib.hid hN
        rw [hN] at nj
        clear hN
        unfold ptr at nj
        simp only [Option.map_none] at nj
        generalize a.testBit (31 - i) = c at *
        have HJ := Lib.hid (And.intro nj fj)
        cases c
        all_goals
          simp only [Bool.false_eq_true, if_false, if_true] at HBit nj fj
          go_wp2_with fail
          refine wp_region_quiet_tail (fun w' => w' = wr.drew) 8 (by kernel_rfl) (by kernel_rfl) rfl ?_
          simp only [List.take_succ_cons, List.take_zero, List.drop_succ_cons, List.drop_zero]
          iterate 8 (((with_reducible refine wpQuiet_step (fun K hK => ?_)); go_simp; first | ((with_reducible refine hK _ ?_); clear hK K) | (apply Exists.intro; refine ⟨?_, hK _ ?_⟩; (with_reducible refine (HBit.out _).mono ?_); rintro e w2 ⟨rfl, rfl⟩; exact ⟨rfl, rfl⟩; clear hK K)))
          refine wpQuiet_nil ?_
          rintro _ rfl
          clear HBit
          go_wp2_with fail
          obtain ⟨ht, hmv, hk⟩ := HR.out
          have hc0 := HN.out
          rw [HCK.out] at hc0
          refine (?_ : (∃ _, _) ∧ _)
          first
            | exact ⟨⟨i + 1, wr.heap.size, _, by omega, by go_num, rfl, by rw [HCK.out, upd_same], (grownM ht hk (by omega) false hc0 rfl).1, hmv.trans (grownM ht hk (by omega) false hc0 rfl).2⟩, by simp [intOf]; omega⟩
            | exact ⟨⟨i + 1, wr.heap.size, _, by omega, by go_num, rfl, by rw [HCK.out, upd_same], (grownM ht hk (by omega) true hc0 rfl).1, hmv.trans (grownM ht hk (by omega) true hc0 rfl).2⟩, by simp [intOf]; omega⟩
      | some q =>
        have HN := Lib.hid hN
        rw [hN] at nj
        clear hN
        unfold ptr at nj
        simp only [Option.map_some] at nj
        generalize a.testBit (31 - i) = c at *
        cases c
        all_goals
          simp only [Bool.false_eq_true, if_false, if_true] at HBit nj fj
          go_wp2_with fail
          refine wp_region_quiet_tail (fun w' => w' = wr.drew) 8 (by kernel_rfl) (by kernel_rfl) rfl ?_
          simp only [List.take_succ_cons, List.take_zero, List.drop_succ_cons, List.drop_zero]
          iterate 8 (((with_reducible refine wpQuiet_step (fun K hK => ?_)); go_simp; first | ((with_reducible refine hK _ ?_); clear hK K) | (apply Exists.intro; refine ⟨?_, hK _ ?_⟩; (with_reducible refine (HBit.out _).mono ?_); rintro e w2 ⟨rfl, rfl⟩; exact ⟨rfl, rfl⟩; clear hK K)))
          refine wpQuiet_nil ?_
          rintro _ rfl
          clear HBit
          go_wp2_with fail
          obtain ⟨ht, hmv, hk⟩ := HR.out
          exact ⟨⟨i + 1, q, N1, by omega, by go_num, rfl, HN.out, ht.keep (fun _ _ => rfl), hmv.trans ⟨rfl, rfl, rfl, Nat.le_refl _, fun _ _ _ => rfl, fun _ h => .inl h⟩⟩, by simp [intOf]; omega⟩
    · obtain rfl : i = m := by omega
      rw [HCut.out] at hk
      obtain ⟨r2, hr2, hb2⟩ := ht.root
      have d1 : wr.cell? ⟨b, 1, none⟩ = some (.int .i64 n) := cell_of hb2 rfl
      have e1 : wr.frozen? ⟨b, 1, none⟩ = false := free_of hb2
      obtain ⟨-, -, c2, c3, nf⟩ := nodeM ht hk
      have f2 := nf 2
      have f3 := nf 3
      have HR := Lib.hid (And.intro ht (And.intro hmv hk))
      have hnn : IntKind.i64.wrap ((n : Int) + 1) = ((n + 1 : Nat) : Int) := by rw [IntWalk.i64_in _ (by omega)]; rfl
      have HB2 := Lib.hid hb2
      clear ht hmv hk hpw nf hb2 hr2
      cases hM : M a i with
      | none =>
        have HMM := Lib.hid hM
        rw [hM] at c2 c3
        clear hM
        simp only [Option.isSome_none] at c3
        generalize Option.getD none none = y at *
        go_wp2_with fail
        go_ret
        obtain ⟨ht, hmv, hk⟩ := HR.out
        have e : n + 1 = nm := by have := HNM.out; rw [HMM.out] at this; simpa using this
        subst e
        exact ⟨rfl, N1, (putM (countM ht (n + 1)).1 hk (some x)).1, (Moved.of_below HB.out _).trans (hmv.trans ((countM ht (n + 1)).2.trans (putM (countM ht (n + 1)).1 hk (some x)).2))⟩
      | some y =>
        have HMM := Lib.hid hM
        rw [hM] at c2 c3
        clear hM
        simp only [Option.isSome_some, Option.getD_some] at c2 c3
        go_wp2_with fail
        go_ret
        obtain ⟨ht, hmv, hk⟩ := HR.out
        have e : n = nm := by have := HNM.out; rw [HMM.out] at this; simpa using this
        subst e
        exact ⟨rfl, N1, (putM ht hk (some x)).1, (Moved.of_below HB.out _).trans (hmv.trans (putM ht hk (some x)).2)⟩
end Go.Proofs.YtadoflcomienoaaGreat.Tm
/- Get, Len, Longest. -/
namespace Go.Proofs.YtadoflcomienoaaGreat.Tm
open Go.RowKit

theorem getM_any {w : World} {b n : Nat} {N : Nat → Nat → Option Nat} {M : Nat → Nat → Option (Option Nat)} (h : TrieM w b N n M) (a : Nat) (l : Int) (ha : a < 4294967296) :
    Calls Tryz.prog 75 #[.pointer (some ⟨b, 0, none⟩), pfx a l] w fun e w' => e = .returned (.tuple #[.map ((look M a l).getD none), .bool (look M a l).isSome]) ∧ Below w.heap.size w w' := by
  have hb0 := ((Below.refl w.heap.size w).alloc (Nat.le_refl _) (.cells #[.int .u32 a, .int .i64 l] 58))
  have HF := Lib.hid (findM_any (h.below hb0) a l ha)
  have HT := Lib.hid h
  clear ha
  cases hN : (if okP a l then N a l.toNat else none) with
  | none =>
    have hl : look M a l = none := by
      unfold look
      split
      · rename_i e; rw [if_pos e] at hN; exact h.thing_none hN
      · rfl
    rw [hl]
    rw [hN] at HF
    clear h hN hl
    unfold pfx at HF ⊢
    unfold ptr at HF
    simp only [Option.map_none, Option.getD_none, Option.isSome_none] at HF ⊢
    go_enter Tryz.func75, Tryz.ntmps75
    go_wp2_with (go_at_call 119; refine (HF.out).mono ?_; rintro e w1 ⟨rfl, hb⟩)
    go_ret2
    exact ⟨rfl, hb0.trans (hb.mono (by simp))⟩
  | some k =>
    have hok : okP a l = true := by
      cases h2 : okP a l with
      | true => rfl
      | false => rw [h2] at hN; simp at hN
    rw [hok, if_pos rfl] at hN
    have hl : look M a l = M a l.toNat := by unfold look; rw [if_pos hok]
    rw [hl]
    rw [hok, if_pos rfl, hN] at HF
    have HK := Lib.hid hN
    clear h hN hl hok
    unfold pfx at HF ⊢
    unfold ptr at HF
    simp only [Option.map_some] at HF
    generalize hx : M a l.toNat = x
    have HX := Lib.hid hx
    clear hx
    cases x with
    | none =>
      simp only [Option.getD_none, Option.isSome_none]
      go_enter Tryz.func75, Tryz.ntmps75
      go_wp2_with (go_at_call 119; refine (HF.out).mono ?_; rintro e w1 ⟨rfl, hb⟩; have hbw := hb0.trans (hb.mono (by simp)); obtain ⟨-, -, c2, c3, -⟩ := nodeM (HT.out.below hbw) HK.out; rw [HX.out] at c2 c3; simp only [Option.getD_none, Option.isSome_none] at c2 c3; clear hb)
      go_ret2
      exact ⟨rfl, hbw⟩
    | some y =>
      simp only [Option.getD_some, Option.isSome_some]
      go_enter Tryz.func75, Tryz.ntmps75
      go_wp2_with (go_at_call 119; refine (HF.out).mono ?_; rintro e w1 ⟨rfl, hb⟩; have hbw := hb0.trans (hb.mono (by simp)); obtain ⟨-, -, c2, c3, -⟩ := nodeM (HT.out.below hbw) HK.out; rw [HX.out] at c2 c3; simp only [Option.getD_some, Option.isSome_some] at c2 c3; clear hb)
      go_ret2
      exact ⟨rfl, hbw⟩
theorem kidNoneM {w : World} {b n : Nat} {N : Nat → Nat → Option Nat} {M : Nat → Nat → Option (Option Nat)} (h : TrieM w b N n M) {a : Nat} {i k : Nat} (hk : N (cut a i) i = some k) :
    w.cell? ⟨k, if decide (i < 32) && a.testBit (31 - i) then 1 else 0, none⟩ = some (ptr (N (cut a (i + 1)) (i + 1))) := by
  obtain ⟨n0, n1, -, -, -⟩ := nodeM h hk
  have hle := (h.key _ _ _ hk).le
  by_cases hi : i < 32
  · rw [cut_kid a (by omega)]
    simp only [hi, decide_true, Bool.true_and]
    cases a.testBit (31 - i)
    · exact n0
    · exact n1
  · simp only [hi, decide_false, Bool.false_and, Bool.false_eq_true, if_false]
    rw [h.none33 _ (by omega)]
    rw [h.none33 _ (by omega)] at n0
    exact n0
end Go.Proofs.YtadoflcomienoaaGreat.Tm
/- prune. -/
namespace Go.Proofs.YtadoflcomienoaaGreat.Tm
open Go.RowKit

def AgreeM (N' N : Nat → Nat → Option Nat) (i : Nat) : Prop := ∀ x d, d ≤ i → N' x d = N x d
/-- what prune hands back: the node, or nothing where it has nothing -/
def PrunedM (N' : Nat → Nat → Option Nat) (M : Nat → Nat → Option (Option Nat)) (x i k : Nat) (r : Option Nat) : Prop := r = some k ∨ (r = none ∧ 0 < i ∧ M x i = none ∧ ∀ c, N' (kid x i c) (i + 1) = none)
theorem AgreeM.refl (N : Nat → Nat → Option Nat) (i : Nat) : AgreeM N N i := fun _ _ _ => rfl
theorem relinkM {w : World} {b n : Nat} {N : Nat → Nat → Option Nat} {M : Nat → Nat → Option (Option Nat)} (h : TrieM w b N n M) {a d k j : Nat} (hk : N a d = some k) (c : Bool) (hj : j = if c then 1 else 0) :
    TrieM (w.setCell ⟨k, j, none⟩ (ptr (N (kid a d c) (d + 1)))) b N n M ∧ Moved w (w.setCell ⟨k, j, none⟩ (ptr (N (kid a d c) (d + 1)))) (foot b N) (foot b N) := by
  have hs := linkM (h.node _ _ _ hk) c (N (kid a d c) (d + 1)) hj
  refine ⟨h.keep fun q hq => ?_, Moved.of_set hs (.inr ⟨_, _, hk⟩)⟩
  by_cases e : q = k
  · subst e
    rw [hs.at (h.lt hq), h.node _ _ _ hk]
    cases c <;> rfl
  · exact hs.other e
theorem unlinkM {w : World} {b n : Nat} {N : Nat → Nat → Option Nat} {M : Nat → Nat → Option (Option Nat)} (h : TrieM w b N n M) {a d k j q : Nat} (hk : N a d = some k) (c : Bool) (hj : j = if c then 1 else 0)
    (hq : N (kid a d c) (d + 1) = some q) (hl : ∀ c', N (kid (kid a d c) (d + 1) c') (d + 1 + 1) = none) (hm0 : M (kid a d c) (d + 1) = none) :
    TrieM (w.setCell ⟨k, j, none⟩ (ptr none)) b (upd N (kid a d c) (d + 1) none) n M ∧ Moved w (w.setCell ⟨k, j, none⟩ (ptr none)) (foot b N) (foot b (upd N (kid a d c) (d + 1) none)) := by
  have hs := linkM (h.node _ _ _ hk) c none hj
  refine ⟨h.drop hk c hq hl hm0 hs, ⟨rfl, rfl, rfl, by rw [hs.size]; exact Nat.le_refl _, fun i _ hn => hs.other (fun e => hn (by rw [e]; exact .inr ⟨_, _, hk⟩)), fun i hi => ?_⟩⟩
  rcases hi with rfl | ⟨x, y, hi⟩
  · exact .inl (.inl rfl)
  · by_cases e : x = kid a d c ∧ y = d + 1
    · rw [e.1, e.2, upd_same] at hi; cases hi
    · rw [upd_other _ _ e] at hi; exact .inl (.inr ⟨_, _, hi⟩)
theorem AgreeM.trans {N3 N2 N : Nat → Nat → Option Nat} {i : Nat} (h : AgreeM N3 N2 i) (k : AgreeM N2 N (i + 1)) : AgreeM N3 N i := fun x d hd => (h x d hd).trans (k x d (by omega))
theorem relinkedM {w : World} {b n : Nat} {N : Nat → Nat → Option Nat} {M : Nat → Nat → Option (Option Nat)} (h : TrieM w b N n M) {a x d k q : Nat} {r : Option Nat} (hk : N x d = some k) (_hd : d ≤ 31) (c : Bool) (hc : cut a (d + 1) = kid x d c) (hq : N (cut a (d + 1)) (d + 1) = some q)
    (hp : PrunedM N M (cut a (d + 1)) (d + 1) q r) : ∃ N3, TrieM (w.setCell ⟨k, if c then 1 else 0, none⟩ (ptr r)) b N3 n M ∧ Moved w (w.setCell ⟨k, if c then 1 else 0, none⟩ (ptr r)) (foot b N) (foot b N3) ∧ AgreeM N3 N d := by
  rw [hc] at hq hp
  rcases hp with rfl | ⟨rfl, _, hm0, hl⟩
  · have := relinkM h hk c rfl
    rw [hq] at this
    exact ⟨N, this.1, this.2, AgreeM.refl _ _⟩
  · have := unlinkM h hk c rfl hq hl hm0
    exact ⟨_, this.1, this.2, fun y e he => upd_other _ _ (by omega)⟩
set_option maxHeartbeats 4000000 in
theorem pruneM_any (a m : Nat) (ha : a < 4294967296) (hm32 : m ≤ 32) (hcut : cut a m = a) : ∀ (d i : Nat), i + d = m → ∀ (w : World) (b n : Nat) (N : Nat → Nat → Option Nat) (M : Nat → Nat → Option (Option Nat)) (k : Nat), TrieM w b N n M → N (cut a i) i = some k → (N a m).isSome →
    Calls Tryz.prog 155 #[.pointer (some ⟨k, 0, none⟩), pfx a m, .int .i64 i] w fun e w' => ∃ N' r, e = .returned (ptr r) ∧ TrieM w' b N' n M ∧ Moved w w' (foot b N) (foot b N') ∧ AgreeM N' N i ∧ PrunedM N' M (cut a i) i k r := by
  intro d
  induction d with
  | zero =>
    intro i hid w b n N M k h hk hnm
    obtain rfl : i = m := by omega
    have hb0 := ((Below.refl w.heap.size w).alloc (Nat.le_refl _) (.cells #[.int .u32 a, .int .i64 i] 58))
    have hp : (w.alloc (.cells #[.int .u32 a, .int .i64 i] 58)).cell? ⟨w.heap.size, 1, none⟩ = some (.int .i64 i) := cell_of (hnew _ _) rfl
    have HR3 := Lib.hid (And.intro (h.below hb0) (And.intro (Moved.of_below hb0 (foot b N)) (AgreeM.refl N i)))
    have HK := Lib.hid hk
    have hkl := h.lt (.inr ⟨_, _, hk⟩)
    clear h hk hnm hb0
    obtain ⟨N3, hN3⟩ : ∃ N3, N3 = N := ⟨_, rfl⟩
    rw [← hN3] at HR3 HK ⊢
    clear hN3
    unfold pfx
    go_enter Tryz.func155, Tryz.ntmps155
    obtain ⟨ht3, hmv3, hag3⟩ := HR3.out
    have hk3 : N3 (cut a i) i = some k := by rw [hag3 _ _ (Nat.le_refl _)]; exact HK.out
    obtain ⟨c0, c1, -, c3, -⟩ := nodeM ht3 hk3
    have HK3 := Lib.hid hk3
    clear ht3 hmv3 hag3 hk3
    cases hM : M (cut a i) i with
    | some y =>
      have HMM := Lib.hid hM
      rw [hM] at c3
      simp only [Option.isSome_some] at c3
      clear hM c0 c1
      go_wp2_with fail
      go_ret
      exact ⟨N3, some k, rfl, HR3.out.1, HR3.out.2.1, HR3.out.2.2, .inl rfl⟩
    | none =>
      have HMM := Lib.hid hM
      rw [hM] at c3
      simp only [Option.isSome_none] at c3
      clear hM
      cases h0 : N3 (kid (cut a i) i false) (i + 1) with
      | some x0 =>
        rw [h0] at c0
        unfold ptr at c0
        simp only [Option.map_some] at c0
        clear h0 c1
        go_wp2_with fail
        go_ret
        exact ⟨N3, some k, rfl, HR3.out.1, HR3.out.2.1, HR3.out.2.2, .inl rfl⟩
      | none =>
        have HL := Lib.hid h0
        rw [h0] at c0
        unfold ptr at c0
        simp only [Option.map_none] at c0
        clear h0
        cases h1 : N3 (kid (cut a i) i true) (i + 1) with
        | some x1 =>
          rw [h1] at c1
          unfold ptr at c1
          simp only [Option.map_some] at c1
          clear h1
          go_wp2_with fail
          go_ret
          exact ⟨N3, some k, rfl, HR3.out.1, HR3.out.2.1, HR3.out.2.2, .inl rfl⟩
        | none =>
          have HRr := Lib.hid h1
          rw [h1] at c1
          unfold ptr at c1
          simp only [Option.map_none] at c1
          clear h1
          by_cases hi0 : (0 : Int) < (i : Int)
          · go_wp2_with fail
            go_ret
            exact ⟨N3, none, rfl, HR3.out.1, HR3.out.2.1, HR3.out.2.2, .inr ⟨rfl, by omega, HMM.out, fun c => by cases c; exact HL.out; exact HRr.out⟩⟩
          · go_wp2_with fail
            go_ret
            exact ⟨N3, some k, rfl, HR3.out.1, HR3.out.2.1, HR3.out.2.2, .inl rfl⟩
  | succ d ih =>
    intro i hid w b n N M k h hk hnm
    have hi31 : i ≤ 31 := by omega
    have hb0 := ((Below.refl w.heap.size w).alloc (Nat.le_refl _) (.cells #[.int .u32 a, .int .i64 m] 58))
    obtain ⟨q, hq⟩ : ∃ q, N (cut a (i + 1)) (i + 1) = some q := by
      cases e : N (cut a (i + 1)) (i + 1) with
      | some q => exact ⟨q, rfl⟩
      | none =>
        have := h.none_down e (m - (i + 1)) (by omega)
        rw [show i + 1 + (m - (i + 1)) = m by omega, hcut] at this
        rw [this] at hnm; cases hnm
    have hck := cut_kid a hi31
    have hpb := hnew w (.cells #[.int .u32 a, .int .i64 m] 58)
    have p0 : (w.alloc (.cells #[.int .u32 a, .int .i64 m] 58)).cell? ⟨w.heap.size, 0, none⟩ = some (.int .u32 a) := cell_of hpb rfl
    have p1 : (w.alloc (.cells #[.int .u32 a, .int .i64 m] 58)).cell? ⟨w.heap.size, 1, none⟩ = some (.int .i64 m) := cell_of hpb rfl
    have ht := h.below hb0
    have HIH := Lib.hid (fun w' (hh : TrieM w' b N n M) => ih (i + 1) (by omega) w' b n N M q hh hq hnm)
    clear ih
    have hd0 := cut_cut a (Nat.le_succ i)
    have HBit := Lib.hid (bit_any a i ha)
    rw [show decide (i < 32) = true by simp; omega, Bool.true_and] at HBit
    have nj := kidNoneM ht hk
    rw [show decide (i < 32) = true by simp; omega, Bool.true_and, hq] at nj
    have hfr := ht.node _ _ _ hk
    have hkl := ht.lt (.inr ⟨_, _, hk⟩)
    have hkw := h.lt (.inr ⟨_, _, hk⟩)
    have hlt : (i : Int) < (m : Int) := by omega
    have HK := Lib.hid hk
    have HT := Lib.hid ht
    have HB0 := Lib.hid hb0
    have HCK := Lib.hid hck
    have HQ := Lib.hid hq
    clear h hk hnm hb0 hck hpb ht hfr hd0 hq
    unfold pfx at HIH ⊢
    unfold ptr at nj
    simp only [Option.map_some] at nj
    have hii : IntKind.i64.wrap ((i : Int) + 1) = ((i + 1 : Nat) : Int) := by rw [IntWalk.i64_in _ (by omega)]; rfl
    generalize hw1 : w.alloc (.cells #[.int .u32 a, .int .i64 m] 58) = w1 at *
    have HW1 := Lib.hid hw1
    clear hw1
    generalize hbit : a.testBit (31 - i) = c at *
    cases c with
    | false =>
      simp only [Bool.false_eq_true, if_false] at HBit nj
      go_enter Tryz.func155, Tryz.ntmps155
      go_wp2_with fail
      rw [HW1.out]
      refine wp_region_quiet_tail (fun w' => w' = w1.drew) 8 (by kernel_rfl) (by kernel_rfl) rfl ?_
      simp only [List.take_succ_cons, List.take_zero, List.drop_succ_cons, List.drop_zero]
      iterate 8 (((with_reducible refine wpQuiet_step (fun K hK => ?_)); go_simp; first | ((with_reducible refine hK _ ?_); clear hK K) | (apply Exists.intro; refine ⟨?_, hK _ ?_⟩; (with_reducible refine (HBit.out _).mono ?_); rintro e w2 ⟨rfl, rfl⟩; exact ⟨rfl, rfl⟩; clear hK K)))
      refine wpQuiet_nil ?_
      rintro _ rfl
      clear HBit
      go_wp2_with fail
      refine wp_region_pieces (by kernel_rfl) ?_
      refine wpAny_pure [0] (g := 9) rfl (by kernel_rfl) (fun _ _ d _ _ h => by cases d <;> exact h) ?_
      simp only [pick, List.getD_cons_zero]
      (with_reducible refine wpPure_step (fun K hK => ?_)); go_simp; with_reducible refine hK _ ?_; clear hK K
      with_reducible refine wpPure_nil ?_
      refine wpAny_seg (fun w' => w' = w1.drew.drew) [1, 2, 3, 4, 5, 6] (g := 3) rfl (by kernel_rfl) rfl ?_
      simp only [pick, List.getD_cons_zero, List.getD_cons_succ]
      iterate 6 (((with_reducible refine wpQuiet_step (fun K hK => ?_)); go_simp; first | ((with_reducible refine hK _ ?_); clear hK K) | (apply Exists.intro; refine ⟨?_, hK _ ?_⟩; (with_reducible refine (HBit.out _).mono ?_); rintro e w2 ⟨rfl, rfl⟩; exact ⟨rfl, rfl⟩; clear hK K)))
      refine wpQuiet_nil ?_
      rintro _ rfl
      refine wpAny_one 7 (by kernel_rfl) ?_
      simp only [pick, List.getD_cons_zero, List.getD_cons_succ]
      go_wp2_with (go_at_call 155; refine (HIH.out w1.drew.drew (HT.out.keep (fun _ _ => rfl))).mono ?_; rintro e w2 ⟨N2, r, rfl, ht2, hmv2, hag2, hpr2⟩)
      have hk2 : N2 (cut a i) i = some k := by rw [hag2 _ _ (Nat.le_succ i)]; exact HK.out
      have hq2 : N2 (cut a (i + 1)) (i + 1) = some q := by rw [hag2 _ _ (Nat.le_refl _)]; exact HQ.out
      have hmv : Moved w w2 (foot b N) (foot b N2) := (Moved.of_below (Below.drew (Below.drew HB0.out)) _).trans hmv2
      have hR := relinkedM ht2 hk2 hi31 _ (by simpa using HCK.out) hq2 hpr2
      have nj2 := kidNoneM ht2 hk2
      rw [show decide (i < 32) = true by simp; omega, Bool.true_and, hbit, hq2] at nj2
      have nf2 := free_of (o := if a.testBit (31 - i) then 1 else 0) (ht2.node _ _ _ hk2)
      rw [hbit] at nf2
      simp only [Bool.false_eq_true, if_false] at nj2 nf2 hR
      obtain ⟨N3, hR1, hR2, hR3⟩ := hR
      unfold ptr at hR1 hR2
      have HR3 := Lib.hid (And.intro hR1 (And.intro (hmv.trans hR2) (AgreeM.trans hR3 hag2)))
      clear ht2 hmv2 hag2 hpr2 hk2 hq2 hmv hR1 hR2 hR3 nj p0 p1 hbit
      unfold ptr at nj2 ⊢
      simp only [Option.map_some] at nj2
      refine wpAny_one 8 (by kernel_rfl) ?_
      simp only [pick, List.getD_cons_zero, List.getD_cons_succ]
      go_wp2_with fail
      refine wpAny_one 9 (by kernel_rfl) ?_
      simp only [pick, List.getD_cons_zero, List.getD_cons_succ]
      go_wp2_with fail
      refine wpAny_done (by kernel_rfl) ?_ _
      generalize w2.setCell ⟨k, 0, none⟩ (.pointer (Option.map (fun k => ⟨k, 0, none⟩) r)) = w3 at HR3 ⊢
      clear nj2 nf2
      obtain ⟨ht3, hmv3, hag3⟩ := HR3.out
      have hk3 : N3 (cut a i) i = some k := by rw [hag3 _ _ (Nat.le_refl _)]; exact HK.out
      obtain ⟨c0, c1, -, c3, -⟩ := nodeM ht3 hk3
      have HK3 := Lib.hid hk3
      clear ht3 hmv3 hag3 hk3
      cases hM : M (cut a i) i with
      | some y =>
        have HMM := Lib.hid hM
        rw [hM] at c3
        simp only [Option.isSome_some] at c3
        clear hM c0 c1
        go_wp2_with fail
        go_ret
        exact ⟨N3, some k, rfl, HR3.out.1, HR3.out.2.1, HR3.out.2.2, .inl rfl⟩
      | none =>
        have HMM := Lib.hid hM
        rw [hM] at c3
        simp only [Option.isSome_none] at c3
        clear hM
        cases h0 : N3 (kid (cut a i) i false) (i + 1) with
        | some x0 =>
          rw [h0] at c0
          unfold ptr at c0
          simp only [Option.map_some] at c0
          clear h0 c1
          go_wp2_with fail
          go_ret
          exact ⟨N3, some k, rfl, HR3.out.1, HR3.out.2.1, HR3.out.2.2, .inl rfl⟩
        | none =>
          have HL := Lib.hid h0
          rw [h0] at c0
          unfold ptr at c0
          simp only [Option.map_none] at c0
          clear h0
          cases h1 : N3 (kid (cut a i) i true) (i + 1) with
          | some x1 =>
            rw [h1] at c1
            unfold ptr at c1
            simp only [Option.map_some] at c1
            clear h1
            go_wp2_with fail
            go_ret
            exact ⟨N3, some k, rfl, HR3.out.1, HR3.out.2.1, HR3.out.2.2, .inl rfl⟩
          | none =>
            have HRr := Lib.hid h1
            rw [h1] at c1
            unfold ptr at c1
            simp only [Option.map_none] at c1
            clear h1
            by_cases hi0 : (0 : Int) < (i : Int)
            · go_wp2_with fail
              go_ret
              exact ⟨N3, none, rfl, HR3.out.1, HR3.out.2.1, HR3.out.2.2, .inr ⟨rfl, by omega, HMM.out, fun c => by cases c; exact HL.out; exact HRr.out⟩⟩
            · go_wp2_with fail
              go_ret
              exact ⟨N3, some k, rfl, HR3.out.1, HR3.out.2.1, HR3.out.2.2, .inl rfl⟩
    | true =>
      simp only [if_true] at HBit nj
      go_enter Tryz.func155, Tryz.ntmps155
      go_wp2_with fail
      rw [HW1.out]
      refine wp_region_quiet_tail (fun w' => w' = w1.drew) 8 (by kernel_rfl) (by kernel_rfl) rfl ?_
      simp only [List.take_succ_cons, List.take_zero, List.drop_succ_cons, List.drop_zero]
      iterate 8 (((with_reducible refine wpQuiet_step (fun K hK => ?_)); go_simp; first | ((with_reducible refine hK _ ?_); clear hK K) | (apply Exists.intro; refine ⟨?_, hK _ ?_⟩; (with_reducible refine (HBit.out _).mono ?_); rintro e w2 ⟨rfl, rfl⟩; exact ⟨rfl, rfl⟩; clear hK K)))
      refine wpQuiet_nil ?_
      rintro _ rfl
      clear HBit
      go_wp2_with fail
      refine wp_region_pieces (by kernel_rfl) ?_
      refine wpAny_pure [0] (g := 9) rfl (by kernel_rfl) (fun _ _ d _ _ h => by cases d <;> exact h) ?_
      simp only [pick, List.getD_cons_zero]
      (with_reducible refine wpPure_step (fun K hK => ?_)); go_simp; with_reducible refine hK _ ?_; clear hK K
      with_reducible refine wpPure_nil ?_
      refine wpAny_seg (fun w' => w' = w1.drew.drew) [1, 2, 3, 4, 5, 6] (g := 3) rfl (by kernel_rfl) rfl ?_
      simp only [pick, List.getD_cons_zero, List.getD_cons_succ]
      iterate 6 (((with_reducible refine wpQuiet_step (fun K hK => ?_)); go_simp; first | ((with_reducible refine hK _ ?_); clear hK K) | (apply Exists.intro; refine ⟨?_, hK _ ?_⟩; (with_reducible refine (HBit.out _).mono ?_); rintro e w2 ⟨rfl, rfl⟩; exact ⟨rfl, rfl⟩; clear hK K)))
      refine wpQuiet_nil ?_
      rintro _ rfl
      refine wpAny_one 7 (by kernel_rfl) ?_
      simp only [pick, List.getD_cons_zero, List.getD_cons_succ]
      go_wp2_with (go_at_call 155; refine (HIH.out w1.drew.drew (HT.out.keep (fun _ _ => rfl))).mono ?_; rintro e w2 ⟨N2, r, rfl, ht2, hmv2, hag2, hpr2⟩)
      have hk2 : N2 (cut a i) i = some k := by rw [hag2 _ _ (Nat.le_succ i)]; exact HK.out
      have hq2 : N2 (cut a (i + 1)) (i + 1) = some q := by rw [hag2 _ _ (Nat.le_refl _)]; exact HQ.out
      have hmv : Moved w w2 (foot b N) (foot b N2) := (Moved.of_below (Below.drew (Below.drew HB0.out)) _).trans hmv2
      have hR := relinkedM ht2 hk2 hi31 _ (by simpa using HCK.out) hq2 hpr2
      have nj2 := kidNoneM ht2 hk2
      rw [show decide (i < 32) = true by simp; omega, Bool.true_and, hbit, hq2] at nj2
      have nf2 := free_of (o := if a.testBit (31 - i) then 1 else 0) (ht2.node _ _ _ hk2)
      rw [hbit] at nf2
      simp only [if_true] at nj2 nf2 hR
      obtain ⟨N3, hR1, hR2, hR3⟩ := hR
      unfold ptr at hR1 hR2
      have HR3 := Lib.hid (And.intro hR1 (And.intro (hmv.trans hR2) (AgreeM.trans hR3 hag2)))
      clear ht2 hmv2 hag2 hpr2 hk2 hq2 hmv hR1 hR2 hR3 nj p0 p1 hbit
      unfold ptr at nj2 ⊢
      simp only [Option.map_some] at nj2
      refine wpAny_one 8 (by kernel_rfl) ?_
      simp only [pick, List.getD_cons_zero, List.getD_cons_succ]
      go_wp2_with fail
      refine wpAny_one 9 (by kernel_rfl) ?_
      simp only [pick, List.getD_cons_zero, List.getD_cons_succ]
      go_wp2_with fail
      refine wpAny_done (by kernel_rfl) ?_ _
      generalize w2.setCell ⟨k, 1, none⟩ (.pointer (Option.map (fun k => ⟨k, 0, none⟩) r)) = w3 at HR3 ⊢
      clear nj2 nf2
      obtain ⟨ht3, hmv3, hag3⟩ := HR3.out
      have hk3 : N3 (cut a i) i = some k := by rw [hag3 _ _ (Nat.le_refl _)]; exact HK.out
      obtain ⟨c0, c1, -, c3, -⟩ := nodeM ht3 hk3
      have HK3 := Lib.hid hk3
      clear ht3 hmv3 hag3 hk3
      cases hM : M (cut a i) i with
      | some y =>
        have HMM := Lib.hid hM
        rw [hM] at c3
        simp only [Option.isSome_some] at c3
        clear hM c0 c1
        go_wp2_with fail
        go_ret
        exact ⟨N3, some k, rfl, HR3.out.1, HR3.out.2.1, HR3.out.2.2, .inl rfl⟩
      | none =>
        have HMM := Lib.hid hM
        rw [hM] at c3
        simp only [Option.isSome_none] at c3
        clear hM
        cases h0 : N3 (kid (cut a i) i false) (i + 1) with
        | some x0 =>
          rw [h0] at c0
          unfold ptr at c0
          simp only [Option.map_some] at c0
          clear h0 c1
          go_wp2_with fail
          go_ret
          exact ⟨N3, some k, rfl, HR3.out.1, HR3.out.2.1, HR3.out.2.2, .inl rfl⟩
        | none =>
          have HL := Lib.hid h0
          rw [h0] at c0
          unfold ptr at c0
          simp only [Option.map_none] at c0
          clear h0
          cases h1 : N3 (kid (cut a i) i true) (i + 1) with
          | some x1 =>
            rw [h1] at c1
            unfold ptr at c1
            simp only [Option.map_some] at c1
            clear h1
            go_wp2_with fail
            go_ret
            exact ⟨N3, some k, rfl, HR3.out.1, HR3.out.2.1, HR3.out.2.2, .inl rfl⟩
          | none =>
            have HRr := Lib.hid h1
            rw [h1] at c1
            unfold ptr at c1
            simp only [Option.map_none] at c1
            clear h1
            by_cases hi0 : (0 : Int) < (i : Int)
            · go_wp2_with fail
              go_ret
              exact ⟨N3, none, rfl, HR3.out.1, HR3.out.2.1, HR3.out.2.2, .inr ⟨rfl, by omega, HMM.out, fun c => by cases c; exact HL.out; exact HRr.out⟩⟩
            · go_wp2_with fail
              go_ret
              exact ⟨N3, some k, rfl, HR3.out.1, HR3.out.2.1, HR3.out.2.2, .inl rfl⟩
end Go.Proofs.YtadoflcomienoaaGreat.Tm
/- Delete. -/
namespace Go.Proofs.YtadoflcomienoaaGreat.Tm
open Go.RowKit

set_option maxHeartbeats 1000000 in
theorem delM_yes {w : World} {b n : Nat} {N : Nat → Nat → Option Nat} {M : Nat → Nat → Option (Option Nat)} (h : TrieM w b N (n + 1) M) (a m : Nat) (ha : a < 4294967296) (hok : okP a m = true) (hn : n < 4611686018427387904) (y : (Option Nat)) (hy : M a m = some y) :
    Calls Tryz.prog 124 #[.pointer (some ⟨b, 0, none⟩), pfx a m] w fun e w' => e = .returned (.bool true) ∧ ∃ N', TrieM w' b N' n (upd M a m none) ∧ Moved w w' (foot b N) (foot b N') := by
  have hb0 := ((Below.refl w.heap.size w).alloc (Nat.le_refl _) (.cells #[.int .u32 a, .int .i64 m] 58))
  have HF := Lib.hid (findM_any (h.below hb0) a m ha)
  obtain ⟨k, hk⟩ : ∃ k, N a m = some k := by
    have := h.thing a m (by rw [hy]; rfl)
    exact Option.isSome_iff_exists.1 this
  obtain ⟨-, h32, hcut⟩ := okP_iff.1 hok
  simp only [Int.toNat_natCast] at hcut
  rw [hok] at HF
  simp only [if_true, Int.toNat_natCast] at HF
  rw [hk] at HF
  have HT := Lib.hid h
  have HK := Lib.hid hk
  have HY := Lib.hid hy
  have HA := Lib.hid (And.intro ha (And.intro hcut (show m ≤ 32 by omega)))
  have hpb := hnew w (.cells #[.int .u32 a, .int .i64 m] 58)
  have hpl := h.lt (.inl rfl)
  have HPB := Lib.hid hpb
  have hkb : k ≠ b := fun e => h.nb _ _ (e ▸ hk)
  clear ha h hk hy hok hcut h32 hpb
  unfold pfx at HF ⊢
  unfold ptr at HF
  simp only [Option.map_some] at HF
  have hnn : IntKind.i64.wrap (((n + 1 : Nat) : Int) - 1) = (n : Int) := by rw [IntWalk.i64_in _ (by omega)]; omega
  have hn1 : ((n + 1 : Nat) : Int) = (n : Int) + 1 := by omega
  go_enter Tryz.func124, Tryz.ntmps124
  go_wp2_with (go_at_call 119; refine (HF.out).mono ?_; rintro e w1 ⟨rfl, hb⟩; have hbw := hb0.trans (hb.mono (by simp)); have ht1 := HT.out.below hbw; obtain ⟨-, -, c2, c3, nf⟩ := nodeM ht1 HK.out; rw [HY.out] at c2 c3; simp only [Option.getD_some, Option.isSome_some] at c2 c3; obtain ⟨r, hr, hrb⟩ := ht1.root; have d1 : w1.cell? ⟨b, 1, none⟩ = some (.int .i64 ((n + 1 : Nat) : Int)) := cell_of hrb rfl; have e1 : w1.frozen? ⟨b, 1, none⟩ = false := free_of hrb; have f2 := nf 2; have f3 := nf 3; have hb2 := Lib.hid hb; clear hb nf hrb)
  have hput := putM ht1 HK.out none
  have hcnt := countM hput.1 n
  have HT2 : Hid (TrieM (((w1.setCell ⟨k, 2, none⟩ (.map none)).setCell ⟨k, 3, none⟩ (.bool false)).setCell ⟨b, 1, none⟩ (.int .i64 n)) b N n (upd M a m none) ∧ Moved w (((w1.setCell ⟨k, 2, none⟩ (.map none)).setCell ⟨k, 3, none⟩ (.bool false)).setCell ⟨b, 1, none⟩ (.int .i64 n)) (foot b N) (foot b N) ∧ Moved w1 (((w1.setCell ⟨k, 2, none⟩ (.map none)).setCell ⟨k, 3, none⟩ (.bool false)).setCell ⟨b, 1, none⟩ (.int .i64 n)) (foot b N) (foot b N)) :=
    Lib.hid ⟨hcnt.1, (Moved.of_below hbw _).trans (hput.2.trans hcnt.2), hput.2.trans hcnt.2⟩
  clear hput hcnt ht1 c2 c3 d1 e1 f2 f3 hbw
  generalize ((w1.setCell ⟨k, 2, none⟩ (.map none)).setCell ⟨k, 3, none⟩ (.bool false)).setCell ⟨b, 1, none⟩ (.int .i64 n) = w2 at *
  obtain ⟨ht2, -, hmv2⟩ := HT2.out
  have hrb := ht2.blk hr
  have d0 : w2.cell? ⟨b, 0, none⟩ = some (.pointer (some ⟨r, 0, none⟩)) := cell_of hrb rfl
  have hbox : w2.heap[w.heap.size]? = some (.cells #[.int .u32 a, .int .i64 m] 58) := by
    have h1 := (hb2.out.block w.heap.size (by simp)).trans HPB.out
    exact (hmv2.same _ (lt_of_blk h1) (fun hf => by have := HT.out.lt hf; omega)).trans h1
  have p0 : w2.cell? ⟨w.heap.size, 0, none⟩ = some (.int .u32 a) := cell_of hbox rfl
  have p1 : w2.cell? ⟨w.heap.size, 1, none⟩ = some (.int .i64 m) := cell_of hbox rfl
  have HR := Lib.hid hr
  clear ht2 hmv2 hrb hbox hr
  refine wp_region_quiet_tail (fun w' => w' = w2.drew) 5 (by kernel_rfl) (by kernel_rfl) rfl ?_
  simp only [List.take_succ_cons, List.take_zero, List.drop_succ_cons, List.drop_zero]
  iterate 5 (((with_reducible refine wpQuiet_step (fun K hK => ?_)); go_simp; first | ((with_reducible refine hK _ ?_); clear hK K) | (apply Exists.intro; refine ⟨?_, hK _ ?_⟩; (with_reducible refine (HBit.out _).mono ?_); rintro e w2 ⟨rfl, rfl⟩; exact ⟨rfl, rfl⟩; clear hK K)))
  refine wpQuiet_nil ?_
  rintro _ rfl
  obtain ⟨ha, hcut, h32⟩ := HA.out
  have hpr := pruneM_any a m ha h32 hcut m 0 (by omega) w2.drew b n N (upd M a m none) r (HT2.out.1.keep (fun _ _ => rfl)) (by rw [cut_0 ha]; exact HR.out) (by rw [HK.out]; rfl)
  have HPr := Lib.hid hpr
  clear hpr ha hcut h32
  unfold pfx at HPr
  go_wp2_with (go_at_call 155; refine (HPr.out).mono ?_; rintro e w3 ⟨N3, r3, rfl, ht3, hmv3, -, -⟩)
  go_ret
  exact ⟨rfl, N3, ht3, HT2.out.2.1.drew.trans hmv3⟩
end Go.Proofs.YtadoflcomienoaaGreat.Tm
