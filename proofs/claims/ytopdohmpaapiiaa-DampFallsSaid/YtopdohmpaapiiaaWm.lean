/- The walk of DampFalls, where it is looked at. -/
import Derived.Test.YtopdohmpaapiiaaWl
namespace Go.Proofs.Ytopdohmpaapiiaa
open Go.RowKit
open Go.ChangeMaps (setBlock)

theorem cell_same {w w' : World} {b o : Nat} (h : w'.heap[b]? = w.heap[b]?) : w'.cell? ⟨b, o, none⟩ = w.cell? ⟨b, o, none⟩ := by simp [World.cell?, h]
theorem undrew {w w2 : World} (h : Below w.drew.heap.size w.drew w2) : Below w.heap.size w w2 := ⟨h.os, h.tape, h.output, h.size, h.block⟩
def boxObj (s : Sett) : Obj := .cells #[.int .i64 s.g, .int .i64 s.o, .int .i64 s.hi, .int .i64 s.lo, .int .i64 s.e] 23 (0, 0)
/-- the state behind some deeds at one moment; bx: the settings' own block -/
inductive Told (B : Nat) (w w' : World) (d bm bx : Nat) (s : Sett) (at0 : Int) : Prop where
  | none (clock : Nat) (h : DampE w' d bm clock s) (x : w'.heap[bx]? = some (boxObj s)) (b : Below B w w') (hB : B ≤ w'.heap.size) (hm : B ≤ bm)
  | one (clock bp born : Nat) (n : Int) (hh : Bool) (h : Damp1 w' d bm bp clock born s K1 (n, at0, hh)) (hn : 1 ≤ n) (x : w'.heap[bx]? = some (boxObj s)) (b : Below B w w') (hB : B ≤ w'.heap.size) (hm : B ≤ bm) (hp : B ≤ bp)

theorem Told.box {B : Nat} {w w1 : World} {d bm bx : Nat} {s : Sett} {at0 : Int} (h : Told B w w1 d bm bx s at0) : w1.heap[bx]? = some (boxObj s) := by
  cases h with
  | none clock h x b hB hm => exact x
  | one clock bp born n hh h hn x b hB hm hp => exact x
theorem Told.far {B : Nat} {w w1 w2 : World} {d bm bx : Nat} {s : Sett} {at0 : Int} (h : Told B w w1 d bm bx s at0) (hb : Below w1.heap.size w1 w2) : Told B w w2 d bm bx s at0 := by
  cases h with
  | none clock h x b hB hm => exact .none clock (h.below hb) ((hb.block _ (lt_of_blk x)).trans x) (b.trans (hb.mono hB)) (Nat.le_trans hB hb.size) hm
  | one clock bp born n hh h hn x b hB hm hp => exact .one clock bp born n hh (h.below hb) hn ((hb.block _ (lt_of_blk x)).trans x) (b.trans (hb.mono hB)) (Nat.le_trans hB hb.size) hm hp
theorem box_ne {w : World} {bx bm clock : Nat} {s : Sett} {l : List (MR.Ent Key)} (x : w.heap[bx]? = some (boxObj s)) (h : MR.MapAt KN w bm l clock) : bx ≠ bm := by
  rintro rfl
  have := h.blk.symm.trans x
  simp [boxObj] at this
theorem box_ne2 {w : World} {bx bp : Nat} {s : Sett} {p : Pen} (x : w.heap[bx]? = some (boxObj s)) (h : w.heap[bp]? = some (penObj p)) : bx ≠ bp := by
  rintro rfl
  have := h.symm.trans x
  simp [boxObj, penObj] at this

/-- a deed that is not looked at -/
theorem deed_told (B : Nat) (w w1 : World) (d bm bx : Nat) (s : Sett) (hs : s.ok) (at0 : Int) (h0 : 0 ≤ at0) (h1 : at0 ≤ 1099511627776) (h : Told B w w1 d bm bx s at0) :
    Calls Try.prog 8 #[.pointer (some ⟨d, 0, none⟩), K1.val, .int .i64 3, .int .i64 at0] w1 fun e w' => ∃ b, e = .returned (.tuple #[.bool b, .int .i64 0]) ∧ Told B w w' d bm bx s at0 := by
  have hg := hs
  obtain ⟨g0, g1, _, _, g4, _⟩ := hg
  cases h with
  | none clock h x b hB hm =>
    have ne1 := box_ne x h.map
    refine (deed_E d bm clock s hs K1 K1_wf K1_chk 3 at0 (by omega) (by omega) h0 (by omega) w1 h).mono ?_
    rintro e w' ⟨bp, born, rfl, hD, hb, hbp⟩
    refine ⟨_, rfl, ?_⟩
    rw [deed_first] at hD
    have x' := (hb.block bx (lt_of_blk x) (by simpa using ne1)).trans x
    by_cases hz : s.g = 0
    · refine .none (clock + 1) (hD.E (by dsimp only; omega) (by simp; omega)) x' (Below.step b hB hb (by simpa using hm)) (Nat.le_trans hB hb.size) hm
    · refine .one (clock + 1) bp born _ _ (hD.one (by dsimp only; omega)) (by omega) x' (Below.step b hB hb (by simpa using hm)) (Nat.le_trans hB hb.size) hm (Nat.le_trans hB hbp)
  | one clock bp born n hh h hn x b hB hm hp =>
    have ne1 := box_ne x h.map
    have ne2 := box_ne2 x h.pen
    refine (deed_some d bm bp clock born s hs K1 K1_wf K1_chk n at0 hh 3 at0 (by omega) (by omega) h0 (by omega) w1 h).mono ?_
    rintro e w' ⟨rfl, hD, hb⟩
    refine ⟨_, rfl, ?_⟩
    rw [deed_same s hs n at0 hh hn] at hD
    have x' := (hb.block bx (lt_of_blk x) (by simp [ne1, ne2])).trans x
    refine .one clock bp born _ _ (hD.one (by dsimp only; omega)) (by omega) x' (Below.step b hB hb (by intro b hb'; simp at hb'; rcases hb' with rfl | rfl; exact hm; exact hp)) (Nat.le_trans hB hb.size) hm hp

set_option maxHeartbeats 4000000 in
theorem falls_in (s : Sett) (hs : s.ok) (deeds at0 later : Int) (w : World) (a1 : 0 ≤ deeds) (a2 : deeds ≤ 20) (a3 : 0 ≤ at0) (a4 : at0 ≤ 1099511627776) (a5 : 0 ≤ later) (a6 : later ≤ 1099511627776) :
    Calls Try.prog 3 #[s.val, .int .i64 deeds, .int .i64 at0, .int .i64 later] w fun e w' => e = .returned (.bool true) ∧ Below w.heap.size w w' := by
  have HC := Lib.hid (fun w => refCheck_any s w)
  rw [Sett.okB_iff.2 hs] at HC
  have HS := Lib.hid hs
  obtain ⟨g0, g1, g2, g3, g4, g5, g6, g7, g8, g9⟩ := hs
  have HN := Lib.hid (fun w => new_ok s HS.out w)
  unfold Sett.val at *
  go_enter Try.func3, Try.ntmps3
  go_wp2_with fail
  refine (HC.out _).mono ?_
  rintro e w1 ⟨rfl, hb1⟩
  have K1b := (hb1.block w.heap.size (by simp)).trans (hnew _ _)
  have j0 : w1.cell? ⟨w.heap.size, 0, none⟩ = some (.int .i64 s.g) := cell_of K1b rfl
  have j1 : w1.cell? ⟨w.heap.size, 1, none⟩ = some (.int .i64 s.o) := cell_of K1b rfl
  have j2 : w1.cell? ⟨w.heap.size, 2, none⟩ = some (.int .i64 s.hi) := cell_of K1b rfl
  have j3 : w1.cell? ⟨w.heap.size, 3, none⟩ = some (.int .i64 s.lo) := cell_of K1b rfl
  have j4 : w1.cell? ⟨w.heap.size, 4, none⟩ = some (.int .i64 s.e) := cell_of K1b rfl
  have HK := Lib.hid (And.intro hb1 K1b)
  clear hb1 K1b
  go_wp2_with fail
  refine (HN.out _).mono ?_
  rintro e w2 ⟨d, bm, rfl, hm2⟩
  obtain ⟨hb1, K1b⟩ := HK.out
  have B1 : Below w.heap.size w w1 := ((Below.refl _ _).alloc (Nat.le_refl _) _).trans (hb1.mono (by simp))
  have K2 := (hm2.below.block w.heap.size (lt_of_blk K1b)).trans K1b
  have T2 : Told w.heap.size w w2 d bm w.heap.size s at0 := .none 0 ⟨hm2.blk, MR.mapAt_made KN hm2.map⟩ K2 (B1.trans (hm2.below.mono B1.size)) (Nat.le_trans B1.size hm2.below.size) (Nat.le_trans B1.size hm2.b0)
  have HK2 := Lib.hid T2
  clear hb1 K1b B1 T2 K2 hm2 HK j0 j1 j2 j3 j4
  go_wp2_with fail
  refine (lives_any _).mono ?_
  rintro e w3 ⟨rfl, hb3⟩
  have HK3 := Lib.hid (HK2.out.far hb3)
  clear HK2 hb3
  go_wp2_with fail
  go_loopg [11] deeds.toNat (fun k i wr => ∃ j : Nat, j ≤ deeds ∧ i = .int .i64 j ∧ k = (deeds - j).toNat ∧ Told w.heap.size w wr d bm w.heap.size s at0)
  case atStart => exact ⟨0, by omega, rfl, by omega, HK3.out⟩
  case round =>
    obtain ⟨j, q1, rfl, q2, q3⟩ := hrel
    have HQ := Lib.hid (And.intro q2 q3)
    clear q2 q3
    by_cases hlt : (j : Int) < deeds
    · have HL := Lib.hid hlt
      go_wp2_with fail
      refine (keyC _).mono ?_
      rintro e w4 ⟨rfl, hb4⟩
      go_wp2_with fail
      refine (deed_told w.heap.size w _ d bm w.heap.size s HS.out at0 a3 a4 (HQ.out.2.far hb4)).mono ?_
      rintro e w5 ⟨b5, rfl, hT5⟩
      have HT := Lib.hid hT5
      clear hT5 hb4
      go_wp2_with fail
      have hl := HL.out
      go_roundg (deeds - (j + 1 : Nat)).toNat
      case measure => have := HQ.out.1; omega
      case rel => exact ⟨j + 1, by omega, by go_num, rfl, HT.out⟩
    · have HL := Lib.hid hlt
      have hlt' : decide ((j : Int) < deeds) = false := by simpa using hlt
      go_wp2_with fail
      have hw1 : IntKind.i64.wrap (at0 + later) = at0 + later := IntWalk.i64_in _ (by omega)
      have hw2 : IntKind.i64.wrap (200 * s.e) = 200 * s.e := IntWalk.i64_in _ (by omega)
      have hw3 : IntKind.i64.wrap (at0 + later + 200 * s.e) = at0 + later + 200 * s.e := IntWalk.i64_in _ (by omega)
      have HW := Lib.hid (And.intro hw1 (And.intro hw2 hw3))
      clear hw1 hw2 hw3
      have T := HQ.out.2
      clear HQ
      cases T with
      | none clock h x b hB hm =>
        have X := Lib.hid (And.intro h (And.intro x (And.intro b hB)))
        clear h x b hB
        have X0 := X
        clear X
        refine (keyC _).mono ?_
        rintro e v1 ⟨rfl, hb1⟩
        go_wp2_with fail
        refine (penalty_E d bm clock s K1 _ _ K1_wf (X0.out.1.below hb1)).mono ?_
        rintro e u1 ⟨rfl, hc1⟩
        obtain ⟨h, x, b, hB⟩ := X0.out
        have hbb := hb1.trans (hc1.mono hb1.size)
        have X1 := Lib.hid (And.intro (h.below hbb) (And.intro ((hbb.block _ (lt_of_blk x)).trans x) (And.intro (b.trans (hbb.mono hB)) (Nat.le_trans hB hbb.size))))
        clear h x b hB hb1 hc1 hbb
        go_wp2_with fail
        refine (keyC _).mono ?_
        rintro e v2 ⟨rfl, hb2⟩
        go_wp2_with fail
        refine (penalty_E d bm clock s K1 _ _ K1_wf (X1.out.1.below hb2)).mono ?_
        rintro e u2 ⟨rfl, hc2⟩
        obtain ⟨h, x, b, hB⟩ := X1.out
        have hbb := hb2.trans (hc2.mono hb2.size)
        have X2 := Lib.hid (And.intro (h.below hbb) (And.intro ((hbb.block _ (lt_of_blk x)).trans x) (And.intro (b.trans (hbb.mono hB)) (Nat.le_trans hB hbb.size))))
        clear h x b hB hb2 hc2 hbb
        go_wp2_with fail
        obtain ⟨hw1, hw2, hw3⟩ := HW.out
        have x4 : u2.cell? ⟨w.heap.size, 4, none⟩ = some (.int .i64 s.e) := cell_of X2.out.2.1 rfl
        go_region_held3 (fun w' => w'.cell? ⟨w.heap.size, 4, none⟩ = some (.int .i64 s.e)) (first | go_keep | exact (hb3.cell (p := ⟨w.heap.size, 4, none⟩) (lt_of_blk X2.out.2.1)).trans x4 | exact ((hb3.trans (hc3.mono hb3.size)).cell (p := ⟨w.heap.size, 4, none⟩) (lt_of_blk X2.out.2.1)).trans x4) ((first | (go_at_call 9; refine (keyC _).mono ?_; rintro e v3 ⟨rfl, hb3'⟩; have hb3 := undrew hb3') | (go_at_call 10; refine (penalty_E d bm clock s K1 _ _ K1_wf (X2.out.1.below hb3)).mono ?_; rintro e u3 ⟨rfl, hc3⟩)))
        obtain ⟨h, x, b, hB⟩ := X2.out
        have hbb := hb3.trans (hc3.mono hb3.size)
        have X3 := Lib.hid (And.intro (h.below hbb) (And.intro ((hbb.block _ (lt_of_blk x)).trans x) (And.intro (b.trans (hbb.mono hB)) (Nat.le_trans hB hbb.size))))
        clear h x b hB hb3 hc3 hbb x4 hw1 hw2 hw3
        go_wp2_with fail
        refine (keyC _).mono ?_
        rintro e v4 ⟨rfl, hb4⟩
        go_wp2_with fail
        refine (held_E d bm clock s K1 _ _ K1_wf (X3.out.1.below hb4)).mono ?_
        rintro e u4 ⟨rfl, hc4⟩
        obtain ⟨h, x, b, hB⟩ := X3.out
        have hbb := hb4.trans (hc4.mono hb4.size)
        have X4 := Lib.hid (And.intro (h.below hbb) (And.intro ((hbb.block _ (lt_of_blk x)).trans x) (And.intro (b.trans (hbb.mono hB)) (Nat.le_trans hB hbb.size))))
        clear h x b hB hb4 hc4 hbb
        go_wp2_with fail
        refine (keyC _).mono ?_
        rintro e v5 ⟨rfl, hb5⟩
        go_wp2_with fail
        refine (penalty_E d bm clock s K1 _ _ K1_wf (X4.out.1.below hb5)).mono ?_
        rintro e u5 ⟨rfl, hc5⟩
        obtain ⟨h, x, b, hB⟩ := X4.out
        have hbb := hb5.trans (hc5.mono hb5.size)
        have X5 := Lib.hid (And.intro (h.below hbb) (And.intro ((hbb.block _ (lt_of_blk x)).trans x) (And.intro (b.trans (hbb.mono hB)) (Nat.le_trans hB hbb.size))))
        clear h x b hB hb5 hc5 hbb
        go_wp2_with fail
        go_ret
        exact ⟨rfl, X5.out.2.2.1⟩
      | one clock bp born n hh h hn x b hB hm hp =>
        have hn2 := h.n1
        have HF := Lib.hid (falls s HS.out n at0 later hh hn hn2 a3 a4 a5 a6)
        have X0 := Lib.hid (And.intro h (And.intro x (And.intro b (And.intro hB (And.intro (box_ne x h.map) (box_ne2 x h.pen))))))
        have HB2 := Lib.hid (show ∀ b ∈ [bp], w.heap.size ≤ b by simpa using hp)
        clear h x b hB
        dsimp only at hn2
        refine (keyC _).mono ?_
        rintro e v1 ⟨rfl, hb1⟩
        go_wp2_with fail
        refine (penalty_some d bm bp clock born s HS.out K1 K1_wf _ _ _ (X0.out.1.below hb1)).mono ?_
        rintro e u1 ⟨rfl, hd1, hc1⟩
        rw [HF.out.1] at hd1 ⊢
        obtain ⟨h, x, b, hB, ne1, ne2⟩ := X0.out
        have b1 := b.trans (hb1.mono hB)
        have X1 := Lib.hid (And.intro hd1 (And.intro ((hc1.block _ (Nat.lt_of_lt_of_le (lt_of_blk x) hb1.size) (by simpa using ne2)).trans ((hb1.block _ (lt_of_blk x)).trans x)) (And.intro (Below.step b1 b1.size hc1 HB2.out) (And.intro (Nat.le_trans b1.size hc1.size) (And.intro ne1 ne2)))))
        clear h x b hB hb1 hc1 hd1 ne1 ne2 b1
        go_wp2_with fail
        refine (keyC _).mono ?_
        rintro e v2 ⟨rfl, hb2⟩
        go_wp2_with fail
        refine (penalty_some d bm bp clock born s HS.out K1 K1_wf _ _ _ (X1.out.1.below hb2)).mono ?_
        rintro e u2 ⟨rfl, hd2, hc2⟩
        have hle := (HF.out.2 (hh && decide (s.lo ≤ n))).1
        have H3 := Lib.hid ((HF.out.2 (hh && decide (s.lo ≤ n))).2 _ rfl)
        generalize Pen.at s (n, at0, hh && decide (s.lo ≤ n)) (near (at0 + later)) = q2 at *
        obtain ⟨m2, t2, h2⟩ := q2
        dsimp only at hle
        have hm0 := hd2.n0
        dsimp only at hm0
        obtain ⟨h, x, b, hB, ne1, ne2⟩ := X1.out
        have b1 := b.trans (hb2.mono hB)
        have X2 := Lib.hid (And.intro hd2 (And.intro ((hc2.block _ (Nat.lt_of_lt_of_le (lt_of_blk x) hb2.size) (by simpa using ne2)).trans ((hb2.block _ (lt_of_blk x)).trans x)) (And.intro (Below.step b1 b1.size hc2 HB2.out) (And.intro (Nat.le_trans b1.size hc2.size) (And.intro ne1 ne2)))))
        clear h x b hB hb2 hc2 hd2 ne1 ne2 b1
        go_wp2_with fail
        obtain ⟨hw1, hw2, hw3⟩ := HW.out
        have x4 : u2.cell? ⟨w.heap.size, 4, none⟩ = some (.int .i64 s.e) := cell_of X2.out.2.1 rfl
        go_region_held3 (fun w' => w'.cell? ⟨w.heap.size, 4, none⟩ = some (.int .i64 s.e)) (first | go_keep | exact (hb3.cell (p := ⟨w.heap.size, 4, none⟩) (lt_of_blk X2.out.2.1)).trans x4 | exact ((hc3.block _ (Nat.lt_of_lt_of_le (lt_of_blk X2.out.2.1) hb3.size) (by simpa using X2.out.2.2.2.2.2)) |> cell_same).trans ((hb3.cell (p := ⟨w.heap.size, 4, none⟩) (lt_of_blk X2.out.2.1)).trans x4)) ((first | (go_at_call 9; refine (keyC _).mono ?_; rintro e v3 ⟨rfl, hb3'⟩; have hb3 := undrew hb3') | (go_at_call 10; refine (penalty_some d bm bp clock born s HS.out K1 K1_wf _ _ _ (X2.out.1.below hb3)).mono ?_; rintro e u3 ⟨rfl, hd3, hc3⟩)))
        obtain ⟨h, x, b, hB, ne1, ne2⟩ := X2.out
        have b1 := b.trans (hb3.mono hB)
        have hq3 : Pen.at s (m2, t2, h2) (near (at0 + later + 200 * s.e)) = (0, (Pen.at s (m2, t2, h2) (near (at0 + later + 200 * s.e))).2.1, false) := Prod.ext H3.out.1 (Prod.ext rfl H3.out.2)
        generalize (Pen.at s (m2, t2, h2) (near (at0 + later + 200 * s.e))).2.1 = t3 at hq3
        rw [hq3] at hd3 ⊢
        clear hq3
        have X3 := Lib.hid (And.intro hd3 (And.intro ((hc3.block _ (Nat.lt_of_lt_of_le (lt_of_blk x) hb3.size) (by simpa using ne2)).trans ((hb3.block _ (lt_of_blk x)).trans x)) (And.intro (Below.step b1 b1.size hc3 HB2.out) (And.intro (Nat.le_trans b1.size hc3.size) (And.intro ne1 ne2)))))
        clear h x b hB hb3 hc3 hd3 ne1 ne2 b1 x4 hw1 hw2 hw3
        go_wp2_with fail
        refine (keyC _).mono ?_
        rintro e v4 ⟨rfl, hb4⟩
        go_wp2_with fail
        refine (held_some d bm bp clock born s HS.out K1 K1_wf _ _ _ (X3.out.1.below hb4)).mono ?_
        rintro e u4 ⟨rfl, hd4, hc4⟩
        have hq4 : Pen.at s (0, t3, false) (near 9007199254740991) = (0, (Pen.at s (0, t3, false) (near 9007199254740991)).2.1, false) := Prod.ext (zero_stays s t3 (near 9007199254740991)).1 (Prod.ext rfl (zero_stays s t3 (near 9007199254740991)).2)
        generalize (Pen.at s (0, t3, false) (near 9007199254740991)).2.1 = t4 at hq4
        rw [hq4] at hd4 ⊢
        clear hq4
        obtain ⟨h, x, b, hB, ne1, ne2⟩ := X3.out
        have b1 := b.trans (hb4.mono hB)
        have X4 := Lib.hid (And.intro hd4 (And.intro ((hc4.block _ (Nat.lt_of_lt_of_le (lt_of_blk x) hb4.size) (by simpa using ne2)).trans ((hb4.block _ (lt_of_blk x)).trans x)) (And.intro (Below.step b1 b1.size hc4 HB2.out) (And.intro (Nat.le_trans b1.size hc4.size) (And.intro ne1 ne2)))))
        clear h x b hB hb4 hc4 hd4 ne1 ne2 b1
        go_wp2_with fail
        refine (keyC _).mono ?_
        rintro e v5 ⟨rfl, hb5⟩
        go_wp2_with fail
        refine (penalty_some d bm bp clock born s HS.out K1 K1_wf _ _ _ (X4.out.1.below hb5)).mono ?_
        rintro e u5 ⟨rfl, hd5, hc5⟩
        rw [(zero_stays s t4 (near 9007199254740991)).1]
        obtain ⟨h, x, b, hB, ne1, ne2⟩ := X4.out
        have b1 := b.trans (hb5.mono hB)
        have X5 := Lib.hid (And.intro hd5 (And.intro ((hc5.block _ (Nat.lt_of_lt_of_le (lt_of_blk x) hb5.size) (by simpa using ne2)).trans ((hb5.block _ (lt_of_blk x)).trans x)) (And.intro (Below.step b1 b1.size hc5 HB2.out) (And.intro (Nat.le_trans b1.size hc5.size) (And.intro ne1 ne2)))))
        clear h x b hB hb5 hc5 hd5 ne1 ne2 b1
        go_wp2_with fail
        go_ret
        exact ⟨rfl, X5.out.2.2.1⟩
end Go.Proofs.Ytopdohmpaapiiaa
