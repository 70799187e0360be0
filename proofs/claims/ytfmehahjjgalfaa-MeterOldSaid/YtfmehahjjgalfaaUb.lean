/- Meter: index, Check. -/
import Derived.Test.YtfmehahjjgalfaaUa
import Derived.Test.YtfmehahjjgalfaaDf
namespace Go.Proofs.Ytfmehahjjgalfaa.Me
open Go.RowKit
open Go.ChangeMaps (setBlock)

def inM (n : Int) : Bool := decide (0 ≤ n) && decide (n ≤ 9007199254740991)
def okC (x : Ct) : Bool := okP x.p.1 x.p.2 && inM x.n
def chkL (L : List Ct) : Bool := L.all okC && (decide ((ixC L).length = L.length) && decide (L.length ≤ 1024))
def CtS (q : Nat) (y : Ct) (w : World) : Prop := w.heap[q]? = some (.cells #[.int .u32 (y.p.1 : Int), .int .i64 y.p.2, .int .i64 y.n] 128)
theorem CtS.cells {q : Nat} {y : Ct} {w : World} (h : CtS q y w) : w.cell? ⟨q, 0, none⟩ = some (.int .u32 (y.p.1 : Int)) ∧ w.cell? ⟨q, 1, none⟩ = some (.int .i64 y.p.2) ∧ w.cell? ⟨q, 2, none⟩ = some (.int .i64 y.n) := ⟨cell_of h rfl, cell_of h rfl, cell_of h rfl⟩
theorem CtS.on {q : Nat} {y : Ct} {w w' : World} (h : CtS q y w) (hb : w'.heap[q]? = w.heap[q]?) : CtS q y w' := hb.trans h
theorem CtS.keep {q : Nat} {y : Ct} {w w' : World} (h : CtS q y w) (hb : Below w.heap.size w w') : CtS q y w' := h.on (hb.block _ (lt_of_blk h))
theorem below_put {w W : World} {b : Nat} (h : Below w.heap.size w W) (hb : w.heap.size ≤ b) (O : Obj) : Below w.heap.size w (setBlock W b O) := ((But.of_below h []).setBlock (.inl hb) O).below (Nat.le_refl _) (by simp)
/-- counts of an argument -/
structure Cts (w : World) (oa : Option Addr) (n c : Nat) (L : List Ct) : Prop where
  sl : RCt.Sl w oa n c L
  ok : ∀ x ∈ L, x.p.1 < 4294967296 ∧ PN.ok x.p
theorem Cts.keep {w w' : World} {oa : Option Addr} {n c : Nat} {L : List Ct} (h : Cts w oa n c L) (hb : Below w.heap.size w w') : Cts w' oa n c L := ⟨h.sl.keep hb, h.ok⟩
theorem all_succ {L : List Ct} {i : Nat} (hi : i < L.length) : (L.take (i + 1)).all okC = ((L.take i).all okC && okC (L.getD i default)) := by
  rw [List.take_succ_eq_append_getElem hi, List.all_append]
  simp [List.getD_eq_getElem?_getD, hi]
theorem chk_bad {L : List Ct} {i : Nat} (hi : i < L.length) (h : okC (L.getD i default) = false) : chkL L = false := by
  have hm : L.getD i default ∈ L := getD_mem hi
  unfold chkL
  cases ha : L.all okC with
  | false => rfl
  | true => rw [List.all_eq_true.1 ha _ hm] at h; cases h
theorem ret_vb {v : Value} {a b : Bool} (h : a = b) : Ending.returned (.tuple #[v, .bool a]) = .returned (.tuple #[v, .bool b]) := by rw [h]
def IxR (w w' : World) (L : List Ct) (v : Value) : Prop := Below w.heap.size w w' ∧ (chkL L = true → ∃ bm, v = .map (some bm) ∧ w.heap.size ≤ bm ∧ CntAt w' bm L)
set_option maxRecDepth 100000 in
set_option maxHeartbeats 2000000 in
theorem index_any {w : World} {oa : Option Addr} {n c : Nat} {L : List Ct} (H : Cts w oa n c L) : Calls Try.prog 74 #[.slice oa n c] w fun e w' => ∃ v, e = .returned (.tuple #[v, .bool (chkL L)]) ∧ IxR w w' L v := by
  have hmm := @run_makeMap Try.prog
  have hln : L.length = n := H.sl.len.symm
  have hmax : n ≤ maxLen := H.sl.max
  have HS := Lib.hid (And.intro H hln)
  clear H hln
  go_enter Try.func74, Try.ntmps74
  go_wp2_with fail
  clear hmm
  go_loopw [10] (fun iv wr => ∃ i : Nat, i ≤ n ∧ iv = .int .i64 i ∧ (L.take i).all okC = true ∧ CntAt wr w.heap.size (ixC (L.take i)) ∧ Below w.heap.size w wr) (fun iv _ => n - (intOf iv).toNat)
  case atStart => exact ⟨0, Nat.zero_le _, rfl, rfl, CntAt.made (hnew _ _), (Below.refl _ _).alloc (Nat.le_refl _) _⟩
  case round =>
    obtain ⟨i, hi, rfl, hall, htab, hb⟩ := hrel
    obtain ⟨w2, rfl⟩ : ∃ w2 : World, w2 = wr := ⟨_, rfl⟩
    by_cases hlt : i < n
    · have hil : ((i : Int) < (n : Int)) = True := by simp; omega
      have hi0 : ((0 : Int) ≤ (i : Int)) = True := by simp
      have hw3 := wrapS hlt hmax
      have hgm : L.getD i default ∈ L := getD_mem (by rw [HS.out.2]; exact hlt)
      obtain ⟨ha, hok⟩ := HS.out.1.ok _ hgm
      have hix := ixC_succ (L := L) (i := i) (by rw [HS.out.2]; exact hlt)
      have hal1 := all_succ (L := L) (i := i) (by rw [HS.out.2]; exact hlt)
      have hbad := chk_bad (L := L) (i := i) (by rw [HS.out.2]; exact hlt)
      obtain ⟨b, o, hbo, hrow⟩ := HS.out.1.sl.row (by omega)
      subst hbo
      have hat := (hrow.below hb).get i (by rw [HS.out.2]; exact hlt)
      rw [hall, Bool.true_and] at hal1
      generalize L.getD i default = y at *
      have y0 := hat 0 (by decide)
      have y1 := hat 1 (by decide)
      have y2 := hat 2 (by decide)
      simp only [RCt, Nat.add_zero, List.getElem?_cons_zero, List.getElem?_cons_succ] at y0 y1 y2
      have hal := (Below.refl w2.heap.size w2).alloc (Nat.le_refl _) (.cells #[.int .u32 (y.p.1 : Int), .int .i64 y.p.2, .int .i64 y.n] 128)
      have hxs : CtS w2.heap.size y (w2.alloc (.cells #[.int .u32 (y.p.1 : Int), .int .i64 y.p.2, .int .i64 y.n] 128)) := hnew _ _
      obtain ⟨x0, x1, x2⟩ := hxs.cells
      have F1 := Lib.hid (And.intro hxs (And.intro (htab.keep hal) (bcall hb (Nat.le_refl _) hal)))
      have G := Lib.hid (And.intro ha (And.intro hok (And.intro hix (And.intro hal1 hbad))))
      have HCK := Lib.hid (check_any y.p.1 y.p.2 ha)
      clear hgm ha hok hix hal1 hbad hrow hat hal hxs htab hb hall
      unfold pfx at HCK
      cases hp : okP y.p.1 y.p.2 with
      | false =>
        rw [hp, if_neg (by decide)] at HCK
        have HP := Lib.hid (show chkL L = false from G.out.2.2.2.2 (by unfold okC; rw [hp]; rfl))
        clear hp
        go_wp2_with fail
        refine (HCK.out _).mono ?_
        rintro e W3 ⟨rfl, hb⟩
        have F2 := Lib.hid (bcall F1.out.2.2 (Nat.le_refl _) hb)
        clear hb F1 y0 y1 y2 x0 x1 x2 HCK
        go_wp2_with fail
        go_ret2
        exact ⟨_, ret_vb HP.out.symm, F2.out, fun h => by rw [HP.out] at h; cases h⟩
      | true =>
        rw [hp, if_pos rfl] at HCK
        have HW := Lib.hid (within_any y.n 0 9007199254740991)
        have HCN := Lib.hid (show okC y = inM y.n from by unfold okC; rw [hp]; rfl)
        have hin0 : (decide (0 ≤ y.n) && decide (y.n ≤ 9007199254740991)) = inM y.n := rfl
        rw [hin0] at HW
        clear hp hin0
        go_wp2_with fail
        refine (HCK.out _).mono ?_
        rintro e W3 ⟨rfl, hb⟩
        obtain ⟨q, hq⟩ : ∃ q, w2.heap.size = q := ⟨_, rfl⟩
        have F2 := Lib.hid (show CtS q y W3 ∧ CntAt W3 w.heap.size (ixC (L.take i)) ∧ Below w.heap.size w W3 from hq ▸ And.intro (F1.out.1.keep hb) (And.intro (F1.out.2.1.keep hb) (bcall F1.out.2.2 (Nat.le_refl _) hb)))
        rw [hq]
        clear hq hb F1 y0 y1 y2 x0 x1 x2 HCK
        obtain ⟨x0, x1, x2⟩ := F2.out.1.cells
        obtain ⟨O, hup, htab⟩ := F2.out.2.1.update G.out.2.1 y.n
        rw [show (⟨y.p, y.n⟩ : Ct) = y from rfl, ← G.out.2.2.1] at htab
        have F3 := Lib.hid (And.intro htab (below_put F2.out.2.2 (Nat.le_refl _) O))
        clear htab
        cases hin : inM y.n with
        | false =>
          rw [hin] at HW
          have HP := Lib.hid (show chkL L = false from G.out.2.2.2.2 (by rw [HCN.out]; exact hin))
          clear hin
          go_wp2_with fail
          refine (HW.out _).mono ?_
          rintro e W4 ⟨rfl, hw4⟩
          subst hw4
          go_wp2_with fail
          go_ret2
          exact ⟨_, ret_vb HP.out.symm, F2.out.2.2, fun h => by rw [HP.out] at h; cases h⟩
        | true =>
          rw [hin] at HW
          have HP := Lib.hid (show (L.take (i + 1)).all okC = true from by rw [G.out.2.2.2.1, HCN.out]; exact hin)
          clear hin
          go_wp2_with fail
          refine (HW.out _).mono ?_
          rintro e W4 ⟨rfl, hw4⟩
          subst hw4
          go_wp2_with fail
          exact ⟨⟨i + 1, hlt, by first | rw [hw3] | rw [Int.natCast_succ], HP.out, F3.out.1, F3.out.2⟩, by first | (rw [hw3]; exact mSucc hlt) | (rw [← Int.natCast_succ]; exact mSucc hlt)⟩
    · obtain rfl : n = i := by omega
      have hil : ((n : Int) < (n : Int)) = False := by simp
      rw [List.take_of_length_le (by rw [HS.out.2]; exact Nat.le_refl _)] at htab hall
      have hlen := fun ty => htab.len w2 rfl ty
      obtain ⟨k, hk⟩ : ∃ k, (ixC L).length = k := ⟨_, rfl⟩
      rw [hk] at hlen
      have hck : chkL L = (((k : Int) == (n : Int)) && decide (n ≤ 1024)) := by
        unfold chkL
        rw [hall, hk, HS.out.2, Bool.true_and]
        congr 1
        rw [Bool.eq_iff_iff]
        simp
        omega
      have F2 := Lib.hid (show IxR w w2 L (.map (some w.heap.size)) from ⟨hb, fun h => ⟨_, rfl, Nat.le_refl _, by
        have hnd : (L.map Ct.p).Nodup := (ixC_len L).2.1 (by
          unfold chkL at h
          simp at h
          exact h.2.1)
        rw [← ixC_id L hnd]
        exact htab⟩⟩)
      have HK := Lib.hid hck
      clear hck hall htab hb hk
      cases hkn : ((k : Int) == (n : Int)) with
      | false =>
        rw [hkn] at HK
        go_wp2_with fail
        go_ret2
        exact ⟨_, ret_vb (HK.out.trans (Bool.false_and _)).symm, F2.out⟩
      | true =>
        rw [hkn] at HK
        by_cases h4 : n ≤ 1024
        · have h4t : ((n : Int) ≤ 1024) = True := by simp; omega
          have HK2 := Lib.hid (show chkL L = true from by rw [HK.out]; simp [h4])
          clear h4 HK
          go_wp2_with fail
          go_ret2
          exact ⟨_, ret_vb HK2.out.symm, F2.out⟩
        · have h4t : ((n : Int) ≤ 1024) = False := by simp; omega
          have HK2 := Lib.hid (show chkL L = false from by rw [HK.out]; simp [h4])
          clear h4 HK
          go_wp2_with fail
          go_ret2
          exact ⟨_, ret_vb HK2.out.symm, F2.out⟩
end Go.Proofs.Ytfmehahjjgalfaa.Me
