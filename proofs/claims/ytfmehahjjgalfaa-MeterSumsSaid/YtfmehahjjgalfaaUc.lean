/- Meter: Check, the meter in memory, New, others. -/
import Derived.Test.YtfmehahjjgalfaaUb
import Derived.Test.YtfmehahjjgalfaaQl
namespace Go.Proofs.Ytfmehahjjgalfaa.Me
open Go.RowKit
open Go.ChangeMaps (setBlock)

def inS (n : Int) : Bool := decide (0 ≤ n) && decide (n ≤ 15)
def chkR (src seq : Int) (L : List Ct) : Bool := chkL L && (inS src && inM seq)
def RpS (q : Nat) (src seq : Int) (oa : Option Addr) (n c : Nat) (w : World) : Prop := w.heap[q]? = some (.cells #[.int .i64 src, .int .i64 seq, .slice oa n c] 82)
theorem RpS.cells {q : Nat} {src seq : Int} {oa : Option Addr} {n c : Nat} {w : World} (h : RpS q src seq oa n c w) : w.cell? ⟨q, 0, none⟩ = some (.int .i64 src) ∧ w.cell? ⟨q, 1, none⟩ = some (.int .i64 seq) ∧ w.cell? ⟨q, 2, none⟩ = some (.slice oa n c) := ⟨cell_of h rfl, cell_of h rfl, cell_of h rfl⟩
theorem RpS.keep {q : Nat} {src seq : Int} {oa : Option Addr} {n c : Nat} {w w' : World} (h : RpS q src seq oa n c w) (hb : Below w.heap.size w w') : RpS q src seq oa n c w' := (hb.block _ (lt_of_blk h)).trans h
set_option maxRecDepth 100000 in
set_option maxHeartbeats 2000000 in
theorem mcheck_any {w : World} {oa : Option Addr} {n c : Nat} {L : List Ct} (H : Cts w oa n c L) (src seq : Int) : Calls Try.prog 47 #[.agg #[.int .i64 src, .int .i64 seq, .slice oa n c]] w fun e w' => e = .returned (.int .i64 (if chkR src seq L then 0 else 1)) ∧ Below w.heap.size w w' := by
  have hal := (Below.refl w.heap.size w).alloc (Nat.le_refl _) (.cells #[.int .i64 src, .int .i64 seq, .slice oa n c] 82)
  have hks : RpS w.heap.size src seq oa n c (w.alloc (.cells #[.int .i64 src, .int .i64 seq, .slice oa n c] 82)) := hnew _ _
  obtain ⟨z0, z1, z2⟩ := hks.cells
  have HI := Lib.hid (index_any (H.keep hal))
  have F := Lib.hid (And.intro hal hks)
  have HW1 := Lib.hid (within_any src 0 15)
  have HW2 := Lib.hid (within_any seq 0 9007199254740991)
  have e1 : (decide (0 ≤ src) && decide (src ≤ 15)) = inS src := rfl
  have e2 : (decide (0 ≤ seq) && decide (seq ≤ 9007199254740991)) = inM seq := rfl
  rw [e1] at HW1
  rw [e2] at HW2
  obtain ⟨k, hk⟩ : ∃ k, (if chkR src seq L then (0 : Int) else 1) = k := ⟨_, rfl⟩
  rw [hk]
  have HK := Lib.hid hk
  clear hal hks H e1 e2 hk
  go_enter Try.func47, Try.ntmps47
  go_wp2_with fail
  refine HI.out.mono ?_
  rintro e W1 ⟨v, rfl, hix⟩
  obtain ⟨q, hq⟩ : ∃ q, w.heap.size = q := ⟨_, rfl⟩
  have F2 := Lib.hid (show Below w.heap.size w W1 ∧ RpS q src seq oa n c W1 from hq ▸ And.intro (bcall F.out.1 (Nat.le_refl _) hix.1) (F.out.2.keep hix.1))
  rw [hq]
  clear hq hix F HI z0 z1 z2
  obtain ⟨z0, z1, z2⟩ := F2.out.2.cells
  cases hc : chkL L with
  | false =>
    have HR := Lib.hid (show 1 = k from by rw [← HK.out]; unfold chkR; rw [hc]; rfl)
    clear hc
    go_wp2_with fail
    go_ret
    exact ⟨ret_int HR.out, F2.out.1⟩
  | true =>
    cases hs : inS src with
    | false =>
      rw [hs] at HW1
      have HR := Lib.hid (show 1 = k from by rw [← HK.out]; unfold chkR; rw [hc, hs]; rfl)
      clear hc hs
      go_wp2_with fail
      refine (HW1.out _).mono ?_
      rintro e W4 ⟨rfl, hw4⟩
      subst hw4
      go_wp2_with fail
      go_ret
      exact ⟨ret_int HR.out, F2.out.1⟩
    | true =>
      rw [hs] at HW1
      cases hm : inM seq with
      | false =>
        rw [hm] at HW2
        have HR := Lib.hid (show 1 = k from by rw [← HK.out]; unfold chkR; rw [hc, hs, hm]; rfl)
        clear hc hs hm
        go_wp2_with fail
        refine (HW1.out _).mono ?_
        rintro e W4 ⟨rfl, hw4⟩
        subst hw4
        go_wp2_with fail
        refine (HW2.out _).mono ?_
        rintro e W4 ⟨rfl, hw4⟩
        subst hw4
        go_wp2_with fail
        go_ret
        exact ⟨ret_int HR.out, F2.out.1⟩
      | true =>
        rw [hm] at HW2
        have HR := Lib.hid (show 0 = k from by rw [← HK.out]; unfold chkR; rw [hc, hs, hm]; rfl)
        clear hc hs hm
        go_wp2_with fail
        refine (HW1.out _).mono ?_
        rintro e W4 ⟨rfl, hw4⟩
        subst hw4
        go_wp2_with fail
        refine (HW2.out _).mono ?_
        rintro e W4 ⟨rfl, hw4⟩
        subst hw4
        go_wp2_with fail
        go_ret
        exact ⟨ret_int HR.out, F2.out.1⟩
/-- a report that was taken -/
structure Rp where
  seq : Int
  at' : Int
  cs : List Ct
deriving Inhabited
structure Rp.ok (r : Rp) : Prop where
  seq : inM r.seq = true
  at' : inM r.at' = true
  chk : chkL r.cs = true
structure Src where
  last : Option Rp
  ahead : Option Rp
deriving Inhabited
structure Src.ok (s : Src) : Prop where
  last : ∀ r, s.last = some r → r.ok
  ahead : ∀ r, s.ahead = some r → r.ok
  two : s.last = none → s.ahead = none
theorem chkL_len {L : List Ct} (h : chkL L = true) : L.length ≤ 1024 := by unfold chkL at h; simp at h; exact h.2.2
theorem chkL_nd {L : List Ct} (h : chkL L = true) : (L.map Ct.p).Nodup := by unfold chkL at h; simp at h; exact (ixC_len L).2.1 h.2.1
theorem chkL_ok {L : List Ct} (h : chkL L = true) {x : Ct} (hx : x ∈ L) : okC x = true := by
  unfold chkL at h
  rw [Bool.and_eq_true] at h
  exact List.all_eq_true.1 h.1 x hx
def TkAt (w : World) (b : Nat) (r : Rp) : Prop := ∃ bm, w.heap[b]? = some (.cells #[.int .i64 r.seq, .int .i64 r.at', .map (some bm)] 135) ∧ CntAt w bm r.cs
def PtrAt (w : World) (p : Option Addr) (o : Option Rp) : Prop := match o with
  | none => p = none
  | some r => ∃ b, p = some ⟨b, 0, none⟩ ∧ TkAt w b r
structure MetAt (w : World) (m : Nat) (X : Nat → Src) : Prop where
  out : ∃ A : Array Value, A.size = 33 ∧ w.heap[m]? = some (.cells A 126) ∧ A[32]? = some (.bool true) ∧ ∀ i : Nat, i < 16 → ∃ p q, A[i * 2]? = some (.pointer p) ∧ A[i * 2 + 1]? = some (.pointer q) ∧ PtrAt w p (X i).last ∧ PtrAt w q (X i).ahead
  ok : ∀ i, i < 16 → (X i).ok
theorem MetAt.lt {w : World} {m : Nat} {X : Nat → Src} (H : MetAt w m X) : m < w.heap.size := by
  obtain ⟨A, -, h, -⟩ := H.out
  exact lt_of_blk h
theorem TkAt.on {w w' : World} {b m : Nat} {A : Array Value} {r : Rp} (H : TkAt w b r) (hm : w.heap[m]? = some (.cells A 126)) (h : ∀ k, k < w.heap.size → k ≠ m → w'.heap[k]? = w.heap[k]?) : TkAt w' b r := by
  obtain ⟨bm, h1, h2⟩ := H
  have hb : b ≠ m := by rintro rfl; rw [h1] at hm; cases hm
  have hc : bm ≠ m := by
    rintro rfl
    obtain ⟨clk, es, k2, k3⟩ := h2.out
    rw [k2.blk] at hm; cases hm
  exact ⟨bm, (h b (lt_of_blk h1) hb).trans h1, h2.on (h bm h2.lt hc)⟩
theorem PtrAt.on {w w' : World} {m : Nat} {A : Array Value} {p : Option Addr} {o : Option Rp} (H : PtrAt w p o) (hm : w.heap[m]? = some (.cells A 126)) (h : ∀ k, k < w.heap.size → k ≠ m → w'.heap[k]? = w.heap[k]?) : PtrAt w' p o := by
  cases o with
  | none => exact H
  | some r =>
    obtain ⟨b, h1, h2⟩ := H
    exact ⟨b, h1, h2.on hm h⟩
theorem MetAt.keep {w w' : World} {m : Nat} {X : Nat → Src} (H : MetAt w m X) (hb : Below w.heap.size w w') : MetAt w' m X := by
  obtain ⟨A, h1, h2, h3, h4⟩ := H.out
  exact ⟨⟨A, h1, (hb.block _ (lt_of_blk h2)).trans h2, h3, fun i hi => by
    obtain ⟨p, q, k1, k2, k3, k4⟩ := h4 i hi
    exact ⟨p, q, k1, k2, k3.on h2 fun k hk _ => hb.block k hk, k4.on h2 fun k hk _ => hb.block k hk⟩⟩, H.ok⟩
theorem run_index {P : Program} {T E : TypeId} {len k : Nat} (ht : P.underlying T = some (.array len E)) (ha : ∀ w, (isAgg E).run P w = .ok true w) (hz : ∀ w, (Go.sizeOf E).run P w = .ok k w) {cs : Array Value} {i : Nat} (hi : i < len) (w : World) : (Instr.index T (.agg cs) (.int .i64 (i : Int))).run P w = .ok (.agg (cs.extract (i * k) (i * k + k))) w := by
  have hc : (0 : Int) ≤ (i : Int) ∧ (i : Int) < (len : Int) := by omega
  unfold Instr.index
  simp only [asIntOf, Sem.run_bind, Sem.run_pure, Result.andThen_ok, run_underlying ht]
  rw [if_pos hc]
  simp only [part, Sem.run_bind, ha w, Result.andThen_ok, if_true, hz w, Sem.run_pure, Int.toNat_natCast]
/-- a range over all sources -/
structure AllS (w : World) (A : Array Value) (X : Nat → Src) : Prop where
  ix : ∀ i : Nat, i < 16 → ∃ p q, (∀ w, (Instr.index 124 (.agg A) (.int .i64 (i : Int))).run Try.prog w = .ok (.agg #[.pointer p, .pointer q]) w) ∧ PtrAt w p (X i).last ∧ PtrAt w q (X i).ahead
theorem MetAt.all {w : World} {m : Nat} {X : Nat → Src} (H : MetAt w m X) : ∃ A : Array Value, A.size = 32 ∧ w.rangeAt m 0 A.toList ∧ AllS w A X := by
  obtain ⟨A, h1, h2, h3, h4⟩ := H.out
  refine ⟨A.extract 0 32, by simp [h1], ?_, ⟨fun i hi => ?_⟩⟩
  · intro j v hv
    refine cell_of h2 ?_
    rw [Array.getElem?_toList, Array.getElem?_extract] at hv
    split at hv
    · simpa using hv
    · cases hv
  · obtain ⟨p, q, k1, k2, k3, k4⟩ := h4 i hi
    refine ⟨p, q, fun w => ?_, k3, k4⟩
    rw [run_index (P := Try.prog) (len := 16) (k := 2) Try.underlying124 (fun w => by kernel_rfl) (fun w => by kernel_rfl) hi w]
    congr 2
    refine Array.ext' (List.ext_getElem? fun j => ?_)
    rw [Array.getElem?_toList, Array.getElem?_toList, Array.getElem?_extract]
    by_cases hj : j < 2
    · have hj2 : j = 0 ∨ j = 1 := by omega
      rw [if_pos (by simp [h1]; omega), Array.getElem?_extract, if_pos (by simp [h1]; omega)]
      rcases hj2 with rfl | rfl
      · simpa using k1
      · simpa using k2
    · rw [if_neg (by omega)]
      match j, hj with
      | 0, hj => omega
      | 1, hj => omega
      | j + 2, _ => simp
theorem AllS.keep {w w' : World} {m : Nat} {A : Array Value} {X : Nat → Src} (h : AllS w A X) (H : MetAt w m X) (hb : Below w.heap.size w w') : AllS w' A X := by
  obtain ⟨B, h1, h2, h3, h4⟩ := H.out
  exact ⟨fun i hi => by
    obtain ⟨p, q, k1, k3, k4⟩ := h.ix i hi
    exact ⟨p, q, k1, k3.on h2 fun k hk _ => hb.block k hk, k4.on h2 fun k hk _ => hb.block k hk⟩⟩
/-- an array of another block is loaded -/
theorem load_mid {P : Program} {ops : Array Oper} {rest : List Oper} {o : Oper} {a : Act} {Q : Exit → Act → World → Prop} {w : World} (hgd : o.guard = none) (ty : TypeId) (x : Operand) (ho : o.op = .load ty x) (b off : Nat) (cells : Array Value) (hx : a.eval x = .pointer (some ⟨b, off, none⟩))
    (hb : w.rangeAt b off cells.toList) {d : TypeDesc} (hu : P.underlying ty = some d) (hd : d.isRow = true) (hi : (P.info? ty).map (·.size) = some cells.size) (h : wpList P ops Q rest (a.put o.dst (.agg cells)) w) : wpList P ops Q (o :: rest) a w :=
  op_value hgd _ (exec_load_mid ty x ho b off cells hx hb hu hd hi) h
theorem infoA : (Try.prog.info? 124).map (·.size) = some 32 := by kernel_rfl
set_option maxRecDepth 100000 in
theorem mnew_any (w : World) : Calls Try.prog 44 #[] w fun e w' => e = .returned (.pointer (some ⟨w.heap.size, 0, none⟩)) ∧ MetAt w' w.heap.size (fun _ => ⟨none, none⟩) ∧ Below w.heap.size w w' := by
  go_enter Try.func44, Try.ntmps44
  go_wp2_with fail
  go_ret
  refine ⟨rfl, ⟨⟨_, ?_, hnew _ _, ?_, ?_⟩, fun i _ => ⟨fun r h => (by cases h), fun r h => (by cases h), fun _ => rfl⟩⟩, (Below.refl _ _).alloc (Nat.le_refl _) _⟩
  · rfl
  · rfl
  · intro i hi
    refine ⟨none, none, ?_, ?_, rfl, rfl⟩
    · match i, hi with
      | 0, _ | 1, _ | 2, _ | 3, _ | 4, _ | 5, _ | 6, _ | 7, _ | 8, _ | 9, _ | 10, _ | 11, _ | 12, _ | 13, _ | 14, _ | 15, _ => rfl
      | n + 16, h => exact absurd h (by omega)
    · match i, hi with
      | 0, _ | 1, _ | 2, _ | 3, _ | 4, _ | 5, _ | 6, _ | 7, _ | 8, _ | 9, _ | 10, _ | 11, _ | 12, _ | 13, _ | 14, _ | 15, _ => rfl
      | n + 16, h => exact absurd h (by omega)
end Go.Proofs.Ytfmehahjjgalfaa.Me
