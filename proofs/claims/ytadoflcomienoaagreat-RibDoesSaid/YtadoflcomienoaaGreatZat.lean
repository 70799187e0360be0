/- Apply. -/
import Derived.Test.YtadoflcomienoaaGreatZao
import Derived.Test.YtadoflcomienoaaGreatZas
import Derived.Test.YtadoflcomienoaaGreatZan
import Derived.Test.YtadoflcomienoaaGreatZaq
namespace Go.Proofs.YtadoflcomienoaaGreat
open Go.RowKit
open Go.ChangeMaps (setBlock)

theorem RibAt.more {w w' : World} {R : Rb} {X X' : Nat → Prop} {n : Nat} {asn room ref : Int} {G : List RtV} (H : RibAt w R X n asn room ref G) (hb : Below w.heap.size w w') (hX : ∀ k, X' k → X k ∨ w.heap.size ≤ k) : RibAt w' R X' n asn room ref G := by
  have h := H.below hb
  refine ⟨h.blk, h.tr, h.rf, h.mp, h.all, h.inj, h.of, h.ofne, h.okx, h.nd, fun x hx => ?_, h.sm⟩
  exact (H.far x hx).turn hb.size (fun k hk _ => hb.block k hk) fun k hk => hk.elim (fun h1 => .inl (.inl h1)) (fun h1 => (hX k h1).imp_left .inr)
theorem RibAt.lessX {w : World} {R : Rb} {X X' : Nat → Prop} {n : Nat} {asn room ref : Int} {G : List RtV} (H : RibAt w R X n asn room ref G) (hX : ∀ k, X' k → X k) : RibAt w R X' n asn room ref G :=
  ⟨H.blk, H.tr, H.rf, H.mp, H.all, H.inj, H.of, H.ofne, H.okx, H.nd, fun x hx => (H.far x hx).less fun k hk => hk.imp_right (hX k), H.sm⟩
/-- a table under way in an update: what was touched, and where the call's own blocks lie -/
structure ApQ (w : World) (R : Rb) (X : Nat → Prop) (B1 bm q5 : Nat) (asn room : Int) (S0 : List Rt) (x : UpV) (s : List Rt × Int) (Ri : Rb) (ni : Nat) (Gi : List RtV) (refi : Int) (T : List TwV) (wr : World) : Prop where
  rib : RibAt wr Ri (fun k => X k ∨ k = bm) ni asn room refi Gi
  b : Ri.b = R.b
  mv : Moved w wr R.F Ri.F
  tw : TwOk wr Ri (fun k => X k ∨ k = bm) bm S0 (Gi.map RtV.rt) T
  st : (Gi.map RtV.rt, refi) = s
  out : ∀ k, w.heap.size ≤ k → k < B1 → ¬ Ri.F k
  sz : B1 ≤ wr.heap.size
  box : BxU q5 x wr
section
variable {w w' wr : World} {R Ri R' : Rb} {X : Nat → Prop} {B1 bm q5 : Nat} {asn room refi ref' : Int} {S0 : List Rt} {x : UpV} {s s' : List Rt × Int} {ni n' : Nat} {Gi G' : List RtV} {T T' : List TwV}
theorem ApQ.keep (h : ApQ w R X B1 bm q5 asn room S0 x s Ri ni Gi refi T wr) (hb : Below wr.heap.size wr w') : ApQ w R X B1 bm q5 asn room S0 x s Ri ni Gi refi T w' :=
  ⟨h.rib.below hb, h.b, h.mv.trans (Moved.of_below hb _), ⟨h.tw.at'.keep hb, fun t ht => (h.tw.hold t ht).below hb, h.tw.was, h.tw.key, h.tw.rest⟩, h.st, h.out, Nat.le_trans h.sz hb.size, h.box.keep hb⟩
theorem ApQ.touch (h : ApQ w R X B1 bm q5 asn room S0 x s Ri ni Gi refi T wr) (ht : TwOk w' Ri (fun k => X k ∨ k = bm) bm S0 (Gi.map RtV.rt) T') (hr : RibAt w' Ri (fun k => X k ∨ k = bm) ni asn room refi Gi) (hb : But wr w' [bm]) (hbm : w.heap.size ≤ bm) (hq : q5 ≠ bm) : ApQ w R X B1 bm q5 asn room S0 x s Ri ni Gi refi T' w' :=
  ⟨hr, h.b, ⟨hb.os.trans h.mv.os, hb.tape.trans h.mv.tape, hb.output.trans h.mv.output, Nat.le_trans h.mv.size hb.size, fun k hk hn => (hb.block k (Nat.lt_of_lt_of_le hk h.mv.size) (by rw [List.mem_singleton]; omega)).trans (h.mv.same k hk hn), h.mv.foot⟩, ht, h.st, h.out, Nat.le_trans h.sz hb.size, (hb.block _ (lt_of_blk h.box) (by rw [List.mem_singleton]; exact hq)).trans h.box⟩
theorem ApQ.step (h : ApQ w R X B1 bm q5 asn room S0 x s Ri ni Gi refi T wr) (hr : RibAt w' R' (fun k => X k ∨ k = bm) n' asn room ref' G') (hb : R'.b = Ri.b) (hm : Moved wr w' Ri.F R'.F) (hs : (G'.map RtV.rt, ref') = s') (hw : w.heap.size ≤ bm ∧ bm < B1 ∧ w.heap.size ≤ q5 ∧ q5 < B1) {k : PK} (hk : ∃ t ∈ T, t.k = k) (ho : ∀ y : Rt, y.k ≠ k → (y ∈ G'.map RtV.rt ↔ y ∈ Gi.map RtV.rt)) : ApQ w R X B1 bm q5 asn room S0 x s' R' n' G' ref' T w' :=
  ⟨hr, hb.trans h.b, h.mv.trans hm, h.tw.moved hm (h.out bm hw.1 hw.2.1) hk (fun k' hk' => routes_eq hr.rok h.rib.rok fun y hy => ho y (by rw [hy]; exact hk')), hs, fun k hk1 hk2 hf => (hm.foot k hf).elim (h.out k hk1 hk2) (fun h1 => by have := h.sz; omega), Nat.le_trans h.sz hm.size, (hm.same _ (lt_of_blk h.box) (h.out q5 hw.2.2.1 hw.2.2.2)).trans h.box⟩
end
/-- may a router tell this? -/
def mayR (r : Int) (u : Up) : Bool := (decide (0 ≤ r) && decide (r < 16)) && !oddR u
set_option maxRecDepth 100000 in
set_option maxHeartbeats 4000000 in
theorem apply_bad {w : World} {R : Rb} {X : Nat → Prop} {n : Nat} {asn room ref : Int} {G : List RtV} (H : RibAt w R X n asn room ref G) {x : UpV} (hx : UpOk w x) {r : Int} (hr : mayR r x.up = false) : Calls Tryz.prog 30 #[.pointer (some ⟨R.b, 0, none⟩), .int .i64 r, x.v] w fun e w' => e = .returned (.tuple #[.slice none 0 0, .int .i64 1]) ∧ Below w.heap.size w w' := by
  have hal := (Below.refl w.heap.size w).alloc (Nat.le_refl _) (.cells #[.slice x.g.a x.g.n x.g.c, .slice x.r.a x.r.n x.r.c, .int .i64 x.a.o, .slice x.a.p.a x.a.p.n x.a.p.c, .int .u32 x.a.nx, .int .i64 x.a.md, .int .i64 x.a.pf, .slice x.a.c.a x.a.c.n x.a.c.c, .bool x.soft] 42)
  have hX : BxU w.heap.size x (w.alloc (.cells #[.slice x.g.a x.g.n x.g.c, .slice x.r.a x.r.n x.r.c, .int .i64 x.a.o, .slice x.a.p.a x.a.p.n x.a.p.c, .int .u32 x.a.nx, .int .i64 x.a.md, .int .i64 x.a.pf, .slice x.a.c.a x.a.c.n x.a.c.c, .bool x.soft] 42)) := hnew _ _
  have HM := Lib.hid (made_any14 (H.below hal))
  have HO := rodd_any (hx.keep hal)
  obtain ⟨ob, hob⟩ : ∃ b, oddR x.up = b := ⟨_, rfl⟩
  rw [hob] at HO
  unfold mayR at hr
  rw [hob] at hr
  unfold UpV.v at HO ⊢
  have HO := Lib.hid HO
  obtain ⟨c0, c1, c2, c3, c4, c5, c6, c7, c8⟩ := hX.cells
  have F := Lib.hid hal
  clear hal hX hob H hx
  by_cases h1 : r < 0
  · have e1 : (r < 0) = True := eq_true h1
    clear h1 hr
    go_enter Tryz.func30, Tryz.ntmps30
    go_wp2_with fail
    refine (HM.out).mono ?_
    rintro e W9 ⟨rfl, hw⟩
    have hw := hw.symm
    subst hw
    go_wp2_with fail
    go_ret2
    exact ⟨rfl, F.out⟩
  · have e1 : (r < 0) = False := eq_false h1
    by_cases h2 : 16 ≤ r
    · have e2 : (16 ≤ r) = True := eq_true h2
      clear h1 h2 hr
      go_enter Tryz.func30, Tryz.ntmps30
      go_wp2_with fail
      refine (HM.out).mono ?_
      rintro e W9 ⟨rfl, hw⟩
      have hw := hw.symm
      subst hw
      go_wp2_with fail
      go_ret2
      exact ⟨rfl, F.out⟩
    · have e2 : (16 ≤ r) = False := eq_false h2
      have hb : ob = true := by
        rw [show decide (0 ≤ r) = true from decide_eq_true (by omega), show decide (r < 16) = true from decide_eq_true (by omega)] at hr
        simpa using hr
      subst hb
      clear h1 h2 hr
      go_enter Tryz.func30, Tryz.ntmps30
      go_wp2_with fail
      refine (HM.out).mono ?_
      rintro e W9 ⟨rfl, hw⟩
      have hw := hw.symm
      subst hw
      go_wp2_with fail
      refine (HO.out).mono ?_
      rintro e w1 ⟨rfl, hb⟩
      have F1 := Lib.hid (bcall F.out (Nat.le_refl _) hb)
      clear hb
      go_wp2_with fail
      go_ret2
      exact ⟨rfl, F1.out⟩
structure HaS (q5 b : Nat) (bk : Value) (asn room nn ref : Int) (bv : Value) (x : UpV) (W : World) : Prop where
  u : BxU q5 x W
  blk : W.heap[b]? = some (.cells #[bk, .int .i64 asn, .int .i64 room, .int .i64 nn, .int .i64 ref, bv] 120)
theorem HaS.keep {q5 b : Nat} {bk : Value} {asn room nn ref : Int} {bv : Value} {x : UpV} {W W' : World} (h : HaS q5 b bk asn room nn ref bv x W) (hb : Below W.heap.size W W') : HaS q5 b bk asn room nn ref bv x W' := ⟨h.u.keep hb, (hb.block _ (lt_of_blk h.blk)).trans h.blk⟩
theorem okN_k {r : Int} {n : Nl} (hr : 0 ≤ r ∧ r < 16) (ha : n.a < 4294967296) (h : okN true n = true) : ∃ d : Nat, n.ln = (d : Int) ∧ n.key = pkN n.a d ∧ KOk r (pkN n.a d) n.id := by
  obtain ⟨h1, h2⟩ := okN_iff.1 h
  have h3 := okP_iff.1 h2
  obtain ⟨d, hd⟩ := Int.eq_ofNat_of_zero_le h3.1
  refine ⟨d, hd, ?_, ⟨hr, ha, ?_, ⟨h1.1, h1.2.1⟩⟩⟩
  · unfold Nl.key pkN
    rw [hd]
  · show okP n.a (d : Int) = true
    rw [← hd]
    exact h2
set_option maxRecDepth 100000 in
set_option maxHeartbeats 16000000 in
theorem apply_anyB {w : World} {R : Rb} {X : Nat → Prop} {n : Nat} {asn room ref : Int} {G : List RtV} (H : RibAt w R X n asn room ref G) (hX : ∀ k, X k → k < w.heap.size) {x : UpV} (hx : HoldF (R.FX X) w fun W => UpOk W x) {r : Int} (hr : mayR r x.up = true) (hg : x.g.n ≤ 3000 ∧ x.r.n ≤ 3000) (hG : G.length + x.r.n ≤ 3000000) (href : 0 ≤ ref ∧ ref + x.r.n ≤ 900000000) :
    Calls Tryz.prog 30 #[.pointer (some ⟨R.b, 0, none⟩), .int .i64 r, x.v] w fun e w' => ∃ v L R' n' G' ref', e = .returned (.tuple #[v, .int .i64 0]) ∧ RPk.Own w' w.heap.size v L ∧ Chg (G.map RtV.rt) (G'.map RtV.rt) L ∧ RibAt w' R' X n' asn room ref' G' ∧ (G'.map RtV.rt, ref') = applyR asn room r x.up (G.map RtV.rt, ref) ∧ R'.b = R.b ∧ Moved w w' R.F R'.F ∧ ∃ B, RPk.Own w' B v L ∧ ∀ k, R'.F k → k < B := by
  have hal := (Below.refl w.heap.size w).alloc (Nat.le_refl _) (.cells #[.slice x.g.a x.g.n x.g.c, .slice x.r.a x.r.n x.r.c, .int .i64 x.a.o, .slice x.a.p.a x.a.p.n x.a.p.c, .int .u32 x.a.nx, .int .i64 x.a.md, .int .i64 x.a.pf, .slice x.a.c.a x.a.c.n x.a.c.c, .bool x.soft] 42)
  have hXb : BxU w.heap.size x (w.alloc (.cells #[.slice x.g.a x.g.n x.g.c, .slice x.r.a x.r.n x.r.c, .int .i64 x.a.o, .slice x.a.p.a x.a.p.n x.a.p.c, .int .u32 x.a.nx, .int .i64 x.a.md, .int .i64 x.a.pf, .slice x.a.c.a x.a.c.n x.a.c.c, .bool x.soft] 42)) := hnew _ _
  have HM := Lib.hid (made_any14 (H.below hal))
  have HO := rodd_any (hx.now.keep hal)
  have hrr : (0 ≤ r ∧ r < 16) ∧ oddR x.up = false := by
    unfold mayR at hr
    simpa using hr
  rw [hrr.2] at HO
  have hok : (∀ y ∈ x.g.l, okN true y = true) ∧ (∀ y ∈ x.r.l, okN true y = true) ∧ (x.r.n ≠ 0 → okA true x.a.at = true) := by
    have h1 := hrr.2
    unfold oddR UpV.up at h1
    dsimp only at h1
    have h3 : x.r.n = x.r.l.length := hx.now.r.sl.len
    simp only [Bool.not_eq_false', Bool.and_eq_true, Bool.or_eq_true, decide_eq_true_eq, List.all_eq_true] at h1
    refine ⟨h1.1.1, h1.1.2, fun h2 => ?_⟩
    rcases h1.2 with h4 | h4
    · omega
    · exact h4.2
  have HX := Lib.hid (And.intro H (And.intro hX (And.intro hx (And.intro hrr.1 (And.intro hok (And.intro hg (And.intro hG href)))))))
  have HL := Lib.hid (And.intro (show x.g.n = x.g.l.length from hx.now.g.sl.len) (show x.r.n = x.r.l.length from hx.now.r.sl.len))
  have e1 : (r < 0) = False := eq_false (by omega)
  have e2 : (16 ≤ r) = False := eq_false (by omega)
  have hgm : x.g.n ≤ maxLen := hx.now.g.sl.max
  have hrm : x.r.n ≤ maxLen := hx.now.r.sl.max
  unfold UpV.v at HO ⊢
  have HO := Lib.hid HO
  obtain ⟨c0, c1, c2, c3, c4, c5, c6, c7, c8⟩ := hXb.cells
  have F0 := Lib.hid (And.intro hal hXb)
  clear hal hXb hrr hok H hX hx hr hg hG href
  go_enter Tryz.func30, Tryz.ntmps30
  go_wp2_with fail
  refine (HM.out).mono ?_
  rintro e W9 ⟨rfl, hw⟩
  have hw := hw.symm
  subst hw
  clear HM
  go_wp2_with fail
  refine (HO.out).mono ?_
  rintro e w1 ⟨rfl, hb⟩
  have F1 := Lib.hid (And.intro (bcall F0.out.1 (Nat.le_refl _) hb) (F0.out.2.keep hb))
  clear hb HO F0 c0 c1 c2 c3 c4 c5 c6 c7 c8
  have hal := (Below.refl w1.heap.size w1).alloc (Nat.le_refl _) (.map #[] 0)
  have hmm := @run_makeMap Tryz.prog
  have hbx := F1.out.2.keep hal
  obtain ⟨S0, hS0⟩ : ∃ S0, G.map RtV.rt = S0 := ⟨_, rfl⟩
  have hs1 : w.heap.size < w1.heap.size := Nat.lt_of_lt_of_le (lt_of_blk F1.out.2) (Nat.le_refl _)
  have hA0 : ApQ w R X (w1.heap.size + 1) w1.heap.size w.heap.size asn room S0 x (S0, ref) R n G ref [] (w1.alloc (.map #[] 0)) := by
    have hb := bcall F1.out.1 (Nat.le_refl _) hal
    refine ⟨HX.out.1.more hb fun k hk => hk.imp_right fun e => by rw [e]; exact Nat.le_of_lt hs1, rfl, Moved.of_below hb _, ⟨⟨_, _, MR.mapAt_made PN (hnew _ _), Kl.Lay.nil⟩, (fun t ht => by cases ht), (fun t ht => by cases ht), (fun t ht => by cases ht), fun k _ => by rw [hS0]⟩, by rw [hS0], fun k hk _ hf => ?_, by simp, hbx⟩
    have := HX.out.1.lt hf
    omega
  have HA0 := Lib.hid hA0
  have HS0 := Lib.hid (And.intro hS0 hs1)
  obtain ⟨c0, c1, c2, c3, c4, c5, c6, c7, c8⟩ := hbx.cells
  clear hal hbx hA0 hS0 hs1 F1 e1 e2
  go_wp2_with fail
  clear hmm c0 c1 c2 c3 c4 c5 c6 c7 c8
  generalize w1.alloc (.map #[] 0) = w2 at *
  obtain ⟨bm, hbm⟩ : ∃ bm, w1.heap.size = bm := ⟨_, rfl⟩
  rw [hbm] at HA0 HS0
  try rw [hbm]
  clear hbm
  obtain ⟨B1, hB1⟩ : ∃ B1, bm + 1 = B1 := ⟨_, rfl⟩
  rw [hB1] at HA0
  have HW := Lib.hid (show w.heap.size ≤ bm ∧ bm < B1 ∧ w.heap.size ≤ w.heap.size ∧ w.heap.size < B1 by have := HS0.out.2; omega)
  clear hB1
  go_loopw [33] (fun iv wr => ∃ (i : Nat) (Ri : Rb) (ni : Nat) (Gi : List RtV) (T : List TwV), i ≤ x.g.n ∧ iv = .int .i64 i ∧ ApQ w R X B1 bm w.heap.size asn room S0 x (goneR r (x.g.l.take i) S0, ref) Ri ni Gi ref T wr ∧ T.length ≤ i) (fun iv _ => x.g.n - (intOf iv).toNat)
  case atStart => exact ⟨0, R, n, G, [], Nat.zero_le _, rfl, HA0.out, Nat.le_refl _⟩
  case round =>
    obtain ⟨i, Ri, ni, Gi, T, hi, rfl, hA, hT⟩ := hrel
    obtain ⟨w3, rfl⟩ : ∃ w3 : World, w3 = wr := ⟨_, rfl⟩
    by_cases hlt : i < x.g.n
    · have hil : ((i : Int) < (x.g.n : Int)) = True := by simp; omega
      have hi0 : ((0 : Int) ≤ (i : Int)) = True := by simp
      have hw3 := wrapS hlt hgm
      have hup : UpOk w3 x := (HX.out.2.2.1.turn (F' := fun _ => False) hA.mv.size (fun k hk hn => hA.mv.same k hk fun h => hn (.inl h)) (fun k hk => hk.elim)).now
      obtain ⟨b, o, ea, hbb, hat⟩ := hup.g.sl.at hlt
      try dsimp only at hat
      obtain ⟨nn, hnn⟩ : ∃ nn, x.g.l.getD i default = nn := ⟨_, rfl⟩
      rw [hnn] at hat
      have hmem : nn ∈ x.g.l := by rw [← hnn]; exact getD_mem (by have h1 := HL.out.1; omega)
      have hnk := okN_k HX.out.2.2.2.1 (hup.g.all nn hmem).1 (HX.out.2.2.2.2.1.1 nn hmem)
      obtain ⟨d, hd, hkey, hkk⟩ := hnk
      have c0 := hat 0 (by decide)
      have c1 := hat 1 (by decide)
      have c2 := hat 2 (by decide)
      simp only [RNl, Nat.add_zero, List.getElem?_cons_zero, List.getElem?_cons_succ] at c0 c1 c2
      rw [hd] at c2
      have HN := Lib.hid (And.intro hnn (And.intro hkey (And.intro hkk (show I64 (d : Int) by have h1 := okP_iff.1 hkk.p; unfold pkN at h1; dsimp only at h1; unfold I64; omega))))
      have hlen : Gi.length ≤ 3000000 := by
        have h1 := congrArg List.length (congrArg (·.1) hA.st)
        dsimp only at h1
        rw [List.length_map] at h1
        rw [h1]
        refine Nat.le_trans gone_len ?_
        rw [← HS0.out.1, List.length_map]
        have h2 := HX.out.2.2.2.2.2.2.1
        omega
      have HA := Lib.hid (And.intro hA (And.intro (show Gi.length ≤ 100000000 by omega) (show Gi.length ≤ 4000000 by omega)))
      have HT0 := Lib.hid hT
      rw [ea]
      clear hup hbb hat hmem hnn hd hkey hkk hA hT hlen ea
      go_wp2_with (with_reducible refine halt_store 60 (x := .tmp 10) rfl ?_)
      refine Halted.go ?_
      clear c0 c1 c2
      have hal := (Below.refl w3.heap.size w3).alloc (Nat.le_refl _) (.cells #[.int .i64 0, .int .u32 0, .int .i64 0] 60)
      refine store_whole rfl 60 _ _ rfl w3.heap.size #[.int .i64 nn.id, .int .u32 (nn.a : Int), .int .i64 (d : Int)] rfl rfl (hnew _ _) rfl (by kernel_rfl) (by simp [Value.oneCell']) ?_
      intro w4 hwz hsz
      have hzb : Below w3.heap.size w3 w4 := Below.trans hal (hsz.below (Nat.le_refl _))
      have hA4 := HA.out.1.keep hzb
      have hXlt : ∀ k, (X k ∨ k = bm) → k < w4.heap.size := fun k hk => by
        have h1 := hA4.sz
        have h2 := HW.out
        have h3 := hA4.mv.size
        rcases hk with hk | hk
        · exact Nat.lt_of_lt_of_le (HX.out.2.1 k hk) h3
        · omega
      have HT := touch_any hA4.rib hA4.tw (.inr rfl) (hA4.out bm HW.out.1 HW.out.2.1) hXlt (k := pkN nn.a d) ⟨HN.out.2.2.1.a, HN.out.2.2.2⟩ HA.out.2.2
      rw [hA4.b] at HT
      unfold pfx pkN at HT
      dsimp only at HT
      have HT := Lib.hid HT
      have G4 := Lib.hid (And.intro hA4 (And.intro hwz hXlt))
      have z0 := cell_of (o := 0) hwz rfl
      have z1 := cell_of (o := 1) hwz rfl
      have z2 := cell_of (o := 2) hwz rfl
      clear hal hwz hsz hzb hA4 hXlt
      go_wp2_with fail
      refine (HT.out).mono ?_
      rintro e w5 ⟨rfl, T5, ht5, hk5, hsub5, hl5, hr5, hb5⟩
      have hA5 := G4.out.1.touch ht5 hr5 hb5 HW.out.1 (by have := HS0.out.2; omega)
      have hqz : w3.heap.size ≠ bm := by have h1 := HA.out.1.sz; have h2 := HW.out.2.1; omega
      have hwz := (hb5.block _ (lt_of_blk G4.out.2.1) (by rw [List.mem_singleton]; exact hqz)).trans G4.out.2.1
      have G5 := Lib.hid (And.intro hA5 (And.intro hwz (And.intro hk5 (And.intro (Nat.le_trans hl5 (Nat.succ_le_succ HT0.out)) (show ∀ k, (X k ∨ k = bm) → k < w5.heap.size from fun k hk => Nat.lt_of_lt_of_le (G4.out.2.2 k hk) hb5.size)))))
      clear z0 z1 z2
      have z0 := cell_of (o := 0) hwz rfl
      have z1 := cell_of (o := 1) hwz rfl
      have z2 := cell_of (o := 2) hwz rfl
      clear ht5 hk5 hsub5 hl5 hr5 hb5 hA5 hqz hwz HT G4
      have HD := drop_any G5.out.1.rib HN.out.2.2.1 HA.out.2.1
      rw [G5.out.1.b] at HD
      have HD := Lib.hid HD
      go_wp2_with fail
      refine (HD.out).mono ?_
      rintro e w6 ⟨rfl, R6, n6, hr6, hb6, hm6⟩
      have hst : ((dropV Gi (r, pkN nn.a d, nn.id)).map RtV.rt, ref) = (goneR r (x.g.l.take (i + 1)) S0, ref) := by
        rw [dropV_map, goneR_take (by have h1 := HL.out.1; omega), HN.out.1, HN.out.2.1, show Gi.map RtV.rt = goneR r (x.g.l.take i) S0 from congrArg (·.1) G5.out.1.st]
      have hA6 := G5.out.1.step hr6 (hb6.trans G5.out.1.b.symm) hm6 hst HW.out G5.out.2.2.1 (fun y hy => by rw [dropV_map]; exact drop_other (q := (r, pkN nn.a d, nn.id)) hy)
      have G6 := Lib.hid (And.intro hA6 G5.out.2.2.2.1)
      clear hr6 hb6 hm6 hst hA6 HD z0 z1 z2
      go_wp2_with fail
      exact ⟨⟨i + 1, R6, n6, _, T5, hlt, by first | rw [hw3] | rw [Int.natCast_succ], G6.out⟩, by first | (rw [hw3]; exact mSucc hlt) | (rw [← Int.natCast_succ]; exact mSucc hlt)⟩
    · skip
      obtain rfl : i = x.g.n := by omega
      have hil : ((x.g.n : Int) < (x.g.n : Int)) = False := by simp
      have htk : x.g.l.take x.g.n = x.g.l := List.take_of_length_le (by rw [HL.out.1]; exact Nat.le_refl _)
      rw [htk] at hA
      obtain ⟨s1, hs1⟩ : ∃ s, (goneR r x.g.l S0, ref) = s := ⟨_, rfl⟩
      rw [hs1] at hA
      have hd := (Below.refl w3.heap.size w3).drew
      have hA3 := hA.keep hd
      have hblk := hA3.rib.blk
      rw [hA3.b] at hblk
      obtain ⟨bkv, hbkv⟩ : ∃ v, Value.pointer (some ⟨Ri.bt, 0, none⟩) = v := ⟨_, rfl⟩
      obtain ⟨nnv, hnnv⟩ : ∃ v : Int, (Gi.length : Int) = v := ⟨_, rfl⟩
      obtain ⟨bov, hbov⟩ : ∃ v, Value.map (some Ri.bo) = v := ⟨_, rfl⟩
      rw [hbkv, hnnv, hbov] at hblk
      have hup : UpOk w3.drew x := (HX.out.2.2.1.turn (F' := fun _ => False) hA3.mv.size (fun k hk hn => hA3.mv.same k hk fun h => hn (.inl h)) (fun k hk => hk.elim)).now
      have HC := has_any hup.a asn
      obtain ⟨lp, hlp⟩ : ∃ b, hasAS x.a.at asn = b := ⟨_, rfl⟩
      rw [hlp] at HC
      unfold AtV.v at HC
      have HC := Lib.hid HC
      have G1 := Lib.hid (And.intro (show HaS w.heap.size R.b bkv asn room nnv ref bov x w3.drew from ⟨hA3.box, hblk⟩) (And.intro hA3 hT))
      have H1 := Lib.hid (And.intro hs1 hlp)
      obtain ⟨c0, c1, c2, c3, c4, c5, c6, c7, c8⟩ := hA.box.cells
      clear hA hA3 hd hblk hbkv hnnv hbov hup hs1 hlp htk hT hi
      go_wp2_with fail
      clear c0 c1 c2 c3 c4 c5 c6 c7 c8
      refine wp_region_heldP (HaS w.heap.size R.b bkv asn room nnv ref bov x) (by kernel_rfl) ?_
      generalize w3.drew = V3 at *
      refine held_reads [0, 1, 2, 3, 4, 5] (g := 2) rfl (by kernel_rfl) G1.out.1 (fun _ _ d _ _ h => by cases d <;> exact h) ?_
      simp only [pick, List.getD_cons_zero, List.getD_cons_succ]
      ((with_reducible refine wpRead_step (fun K hK => ?_)); go_simp; first | ((with_reducible refine hK _ ?_); clear hK K) | (apply Exists.intro; (with_reducible refine ⟨fun w' hw' => ?_, hK _ ?_⟩); (first | exact rfl | exact ⟨rfl, rfl⟩); clear hK K))
      with_reducible refine wpRead_yes ?_ ?_
      rotate_left
      rfl
      intro K hK
      refine read_load 40 _ rfl w.heap.size 2 #[.int .i64 x.a.o, .slice x.a.p.a x.a.p.n x.a.p.c, .int .u32 x.a.nx, .int .i64 x.a.md, .int .i64 x.a.pf, .slice x.a.c.a x.a.c.n x.a.c.c] rfl (fun w' hw' => rangeAt_block hw'.u 2 _ rfl) Tryz.underlying40 rfl (by kernel_rfl) (hK _ ?_)
      clear hK K
      iterate 3 ((with_reducible refine wpRead_step (fun K hK => ?_)); go_simp; first | ((with_reducible refine hK _ ?_); clear hK K) | (apply Exists.intro; (with_reducible refine ⟨fun w' hw' => ?_, hK _ ?_⟩); (first | exact rfl | exact ⟨rfl, rfl⟩); clear hK K))
      ((with_reducible refine wpRead_step (fun K hK => ?_)); go_simp; first | ((with_reducible refine hK _ ?_); clear hK K) | (apply Exists.intro; (with_reducible refine ⟨fun w' hw' => ?_, hK _ ?_⟩); ((have f0 : w'.cell? ⟨R.b, 1, none⟩ = _ := cell_of hw'.blk rfl; go_simp; first | exact rfl | exact ⟨rfl, rfl⟩)); clear hK K))
      with_reducible refine wpRead_nil ?_
      refine held_one 6 (by kernel_rfl) ?_
      simp only [pick, List.getD_cons_zero, List.getD_cons_succ]
      go_wp2_with fail
      refine (HC.out).mono ?_
      rintro e w5 ⟨rfl, hb5⟩
      have G2 := Lib.hid (And.intro (G1.out.1.keep hb5) (And.intro (G1.out.2.1.keep hb5) G1.out.2.2))
      clear hb5 HC G1
      go_wp2_with fail
      refine ⟨G2.out.1, ?_⟩
      refine held_reads [7] (g := 0) rfl (by kernel_rfl) G2.out.1 (fun _ _ d _ _ h => by cases d <;> exact h) ?_
      simp only [pick, List.getD_cons_zero, List.getD_cons_succ]
      ((with_reducible refine wpRead_step (fun K hK => ?_)); go_simp; first | ((with_reducible refine hK _ ?_); clear hK K) | (apply Exists.intro; (with_reducible refine ⟨fun w' hw' => ?_, hK _ ?_⟩); (first | exact rfl | exact ⟨rfl, rfl⟩); clear hK K))
      with_reducible refine wpRead_nil ?_
      refine wpAnyH_done (by kernel_rfl) ?_ _
      have hbx := G2.out.2.1.box
      obtain ⟨c0, c1, c2, c3, c4, c5, c6, c7, c8⟩ := hbx.cells
      clear hbx
      go_wp2_with fail
      clear c0 c1 c2 c3 c4 c5 c6 c7 c8
      go_loopw [61] (fun iv wr => ∃ (i : Nat) (Ri : Rb) (ni : Nat) (Gi : List RtV) (refi : Int) (T : List TwV), i ≤ x.r.n ∧ iv = .int .i64 i ∧ ApQ w R X B1 bm w.heap.size asn room S0 x (comeR room r lp x.a.at (x.r.l.take i) s1) Ri ni Gi refi T wr ∧ T.length ≤ 3000 + i ∧ (0 ≤ refi ∧ refi ≤ ref + i)) (fun iv _ => x.r.n - (intOf iv).toNat)
      case atStart => exact ⟨0, Ri, ni, Gi, ref, T, Nat.zero_le _, rfl, G2.out.2.1, Nat.le_trans G2.out.2.2 HX.out.2.2.2.2.2.1.1, HX.out.2.2.2.2.2.2.2.1, by omega⟩
      case round =>
        obtain ⟨i, Ri, ni, Gi, refi, T, hi, rfl, hA, hT, hre⟩ := hrel
        obtain ⟨w3, rfl⟩ : ∃ w3 : World, w3 = wr := ⟨_, rfl⟩
        have hlen : Gi.length ≤ 3000000 := by
          have h1 := congrArg List.length (congrArg (·.1) hA.st)
          dsimp only at h1
          rw [List.length_map] at h1
          rw [h1]
          have hROK : ROk s1.1 := by rw [← H1.out.1]; exact ROk.gone (by rw [← HS0.out.1]; exact HX.out.1.rok) _
          refine Nat.le_trans (come_len hROK HX.out.2.2.2.1.1 _) ?_
          have h2 := HX.out.2.2.2.2.2.2.1
          have h3 : s1.1.length ≤ G.length := by
            rw [← H1.out.1]
            refine Nat.le_trans gone_len ?_
            rw [← HS0.out.1, List.length_map]
            exact Nat.le_refl _
          have h4 : (x.r.l.take i).length ≤ x.r.n := by rw [List.length_take, HL.out.2]; exact Nat.min_le_right _ _
          omega
        by_cases hlt : i < x.r.n
        · have hil : ((i : Int) < (x.r.n : Int)) = True := by simp; omega
          have hi0 : ((0 : Int) ≤ (i : Int)) = True := by simp
          have hw3 := wrapS hlt hrm
          have hup : UpOk w3 x := (HX.out.2.2.1.turn (F' := fun _ => False) hA.mv.size (fun k hk hn => hA.mv.same k hk fun h => hn (.inl h)) (fun k hk => hk.elim)).now
          obtain ⟨b, o, ea, hbb, hat⟩ := hup.r.sl.at hlt
          try dsimp only at hat
          obtain ⟨nn, hnn⟩ : ∃ nn, x.r.l.getD i default = nn := ⟨_, rfl⟩
          rw [hnn] at hat
          have hmem : nn ∈ x.r.l := by rw [← hnn]; exact getD_mem (by have h1 := HL.out.2; omega)
          have hnk := okN_k HX.out.2.2.2.1 (hup.r.all nn hmem).1 (HX.out.2.2.2.2.1.2.1 nn hmem)
          obtain ⟨d, hd, hkey, hkk⟩ := hnk
          have c0 := hat 0 (by decide)
          have c1 := hat 1 (by decide)
          have c2 := hat 2 (by decide)
          simp only [RNl, Nat.add_zero, List.getElem?_cons_zero, List.getElem?_cons_succ] at c0 c1 c2
          rw [hd] at c2
          have HN := Lib.hid (And.intro hnn (And.intro hkey (And.intro hkk (show I64 (d : Int) by have h1 := okP_iff.1 hkk.p; unfold pkN at h1; dsimp only at h1; unfold I64; omega))))
          have HSM := Lib.hid (smA_of hup.a (HX.out.2.2.2.2.1.2.2 (by omega)))
          have HA := Lib.hid (And.intro hA (And.intro (show Gi.length ≤ 100000000 by omega) (show Gi.length ≤ 4000000 by omega)))
          have HT0 := Lib.hid hT
          have HRE := Lib.hid hre
          rw [ea]
          clear hup hbb hat hmem hnn hd hkey hkk hA hT hlen ea hre
          go_wp2_with (with_reducible refine halt_store 60 (x := .tmp 13) rfl ?_)
          refine Halted.go ?_
          clear c0 c1 c2
          have hal := (Below.refl w3.heap.size w3).alloc (Nat.le_refl _) (.cells #[.int .i64 0, .int .u32 0, .int .i64 0] 60)
          refine store_whole rfl 60 _ _ rfl w3.heap.size #[.int .i64 nn.id, .int .u32 (nn.a : Int), .int .i64 (d : Int)] rfl rfl (hnew _ _) rfl (by kernel_rfl) (by simp [Value.oneCell']) ?_
          intro w4 hwz hsz
          have hzb : Below w3.heap.size w3 w4 := Below.trans hal (hsz.below (Nat.le_refl _))
          have hA4 := HA.out.1.keep hzb
          have hXlt : ∀ k, (X k ∨ k = bm) → k < w4.heap.size := fun k hk => by
            have h1 := hA4.sz
            have h2 := HW.out
            have h3 := hA4.mv.size
            rcases hk with hk | hk
            · exact Nat.lt_of_lt_of_le (HX.out.2.1 k hk) h3
            · omega
          have HT := touch_any hA4.rib hA4.tw (.inr rfl) (hA4.out bm HW.out.1 HW.out.2.1) hXlt (k := pkN nn.a d) ⟨HN.out.2.2.1.a, HN.out.2.2.2⟩ HA.out.2.2
          rw [hA4.b] at HT
          unfold pfx pkN at HT
          dsimp only at HT
          have HT := Lib.hid HT
          have G4 := Lib.hid (And.intro hA4 (And.intro hwz hXlt))
          have z0 := cell_of (o := 0) hwz rfl
          have z1 := cell_of (o := 1) hwz rfl
          have z2 := cell_of (o := 2) hwz rfl
          clear hal hwz hsz hzb hA4 hXlt
          go_wp2_with fail
          refine (HT.out).mono ?_
          rintro e w5 ⟨rfl, T5, ht5, hk5, hsub5, hl5, hr5, hb5⟩
          have hA5 := G4.out.1.touch ht5 hr5 hb5 HW.out.1 (by have := HS0.out.2; omega)
          have hqz : w3.heap.size ≠ bm := by have h1 := HA.out.1.sz; have h2 := HW.out.2.1; omega
          have hwz := (hb5.block _ (lt_of_blk G4.out.2.1) (by rw [List.mem_singleton]; exact hqz)).trans G4.out.2.1
          have G5 := Lib.hid (And.intro hA5 (And.intro hwz (And.intro hk5 (And.intro (Nat.le_trans hl5 (Nat.succ_le_succ HT0.out)) (show ∀ k, (X k ∨ k = bm) → k < w5.heap.size from fun k hk => Nat.lt_of_lt_of_le (G4.out.2.2 k hk) hb5.size)))))
          clear z0 z1 z2
          have z0 := cell_of (o := 0) hwz rfl
          have z1 := cell_of (o := 1) hwz rfl
          have z2 := cell_of (o := 2) hwz rfl
          clear ht5 hk5 hsub5 hl5 hr5 hb5 hA5 hqz hwz HT G4
          have hnext : ∀ s', s' = oneR room r lp x.a.at (Gi.map RtV.rt, refi) nn → s' = comeR room r lp x.a.at (x.r.l.take (i + 1)) s1 := fun s' hs' => by
            rw [hs', G5.out.1.st, comeR_take (by have h1 := HL.out.2; omega), HN.out.1]
          have HNX := Lib.hid hnext
          have hother : ∀ y : Rt, y.k ≠ pkN nn.a d → (y ∈ (oneR room r lp x.a.at (Gi.map RtV.rt, refi) nn).1 ↔ y ∈ Gi.map RtV.rt) := fun y hy => one_other (s := (Gi.map RtV.rt, refi)) (by rw [HN.out.2.1]; exact hy)
          have HOT := Lib.hid hother
          clear hnext hother
          cases lp with
          | true =>
            have HD := drop_any G5.out.1.rib HN.out.2.2.1 HA.out.2.1
            rw [G5.out.1.b] at HD
            have HD := Lib.hid HD
            go_wp2_with fail
            refine (HD.out).mono ?_
            rintro e w6 ⟨rfl, R6, n6, hr6, hb6, hm6⟩
            have hst : ((dropV Gi (r, pkN nn.a d, nn.id)).map RtV.rt, refi) = oneR room r true x.a.at (Gi.map RtV.rt, refi) nn := by
              rw [dropV_map]
              unfold oneR
              rw [if_pos rfl, HN.out.2.1]
            have hA6 := G5.out.1.step hr6 (hb6.trans G5.out.1.b.symm) hm6 (HNX.out _ hst) HW.out G5.out.2.2.1 (fun y hy => by have h9 := HOT.out y hy; rw [← hst] at h9; exact h9)
            have G6 := Lib.hid (And.intro hA6 (And.intro G5.out.2.2.2.1 (show 0 ≤ refi ∧ refi ≤ ref + ((i + 1 : Nat) : Int) from ⟨HRE.out.1, by have := HRE.out.2; omega⟩)))
            clear hr6 hb6 hm6 hst hA6 HD z0 z1 z2
            go_wp2_with fail
            exact ⟨⟨i + 1, R6, n6, _, refi, T5, hlt, by first | rw [hw3] | rw [Int.natCast_succ], G6.out.1, by have h9 := G6.out.2.1; omega, G6.out.2.2⟩, by first | (rw [hw3]; exact mSucc hlt) | (rw [← Int.natCast_succ]; exact mSucc hlt)⟩
          | false =>
            have hxa : HoldF (Ri.FX fun k => X k ∨ k = bm) w5 fun W => AtOk W x.a := (HX.out.2.2.1.imp fun W h => h.a).turn G5.out.1.mv.size (fun k hk hn => G5.out.1.mv.same k hk fun h => hn (.inl h)) fun k hk => by
              rcases hk with h | h | h
              · exact (G5.out.1.mv.foot k h).imp_left .inl
              · exact .inl (.inr h)
              · exact .inr (by rw [h]; exact HW.out.1)
            have HD := set_any G5.out.1.rib HN.out.2.2.1 HA.out.2.2 (show 0 ≤ refi ∧ refi ≤ 1000000000 from ⟨HRE.out.1, by have h1 := HRE.out.2; have h2 := HX.out.2.2.2.2.2.2.2.2; omega⟩) hxa HSM.out G5.out.2.2.2.2
            rw [G5.out.1.b] at HD
            unfold AtV.v at HD
            have HD := Lib.hid HD
            have hbx := G5.out.1.box
            obtain ⟨c0, c1, c2, c3, c4, c5, c6, c7, c8⟩ := hbx.cells
            clear hxa hbx
            go_wp2_with fail
            refine (HD.out).mono ?_
            rintro e w6 ⟨rfl, R6, n6, G6', ref6, hr6, hst6, hb6, hm6⟩
            have hst : (G6'.map RtV.rt, ref6) = oneR room r false x.a.at (Gi.map RtV.rt, refi) nn := by
              rw [hst6]
              unfold oneR
              rw [if_neg (by simp), HN.out.2.1]
            have hrf : 0 ≤ ref6 ∧ ref6 ≤ refi + 1 := by
              have h1 : ref6 = (setR room (Gi.map RtV.rt, refi) ⟨r, pkN nn.a d, nn.id, x.a.at⟩).2 := congrArg (·.2) hst6
              have h2 := HRE.out.1
              unfold setR at h1
              split at h1
              · have h3 : ref6 = refi := h1
                omega
              · have h3 : ref6 = refi + 1 := h1
                omega
            have hA6 := G5.out.1.step hr6 (hb6.trans G5.out.1.b.symm) hm6 (HNX.out _ hst) HW.out G5.out.2.2.1 (fun y hy => by have h9 := HOT.out y hy; rw [← hst] at h9; exact h9)
            have G6 := Lib.hid (And.intro hA6 (And.intro G5.out.2.2.2.1 (show 0 ≤ ref6 ∧ ref6 ≤ ref + ((i + 1 : Nat) : Int) from ⟨hrf.1, by have := HRE.out.2; omega⟩)))
            clear hr6 hb6 hm6 hst hst6 hrf hA6 HD z0 z1 z2 c0 c1 c2 c3 c4 c5 c6 c7 c8
            go_wp2_with fail
            exact ⟨⟨i + 1, R6, n6, G6', ref6, T5, hlt, by first | rw [hw3] | rw [Int.natCast_succ], G6.out.1, by have h9 := G6.out.2.1; omega, G6.out.2.2⟩, by first | (rw [hw3]; exact mSucc hlt) | (rw [← Int.natCast_succ]; exact mSucc hlt)⟩
        · obtain rfl : i = x.r.n := by omega
          have hil : ((x.r.n : Int) < (x.r.n : Int)) = False := by simp
          have HCH := Lib.hid (changed_any hA.rib hA.tw (by have h1 := HX.out.2.2.2.2.2.1.2; omega) (by omega))
          rw [hA.b] at HCH
          have G3 := Lib.hid hA
          clear hA hT hre hlen hi
          go_wp2_with fail
          refine (HCH.out).mono ?_
          rintro e w6 ⟨v, L, rfl, ho, hch, hb6⟩
          have htk : x.r.l.take x.r.n = x.r.l := List.take_of_length_le (by rw [HL.out.2]; exact Nat.le_refl _)
          have hA6 := G3.out.keep hb6
          rw [htk, ← H1.out.1, ← H1.out.2] at hA6
          have HF := Lib.hid (And.intro (ho.mono G3.out.mv.size) (And.intro hch hA6))
          have HOB := Lib.hid (show ∃ B, RPk.Own w6 B v L ∧ ∀ k, Ri.F k → k < B from ⟨_, ho, fun k hk => G3.out.rib.lt hk⟩)
          clear ho hch hb6 htk hA6 HCH G3
          go_wp2_with fail
          go_ret2
          refine ⟨v, L, Ri, ni, Gi, refi, rfl, HF.out.1, by rw [HS0.out.1]; exact HF.out.2.1, HF.out.2.2.rib.lessX (fun k hk => .inl hk), ?_, HF.out.2.2.b, HF.out.2.2.mv, HOB.out⟩
          rw [HF.out.2.2.st, HS0.out.1]
          rfl
theorem apply_any {w : World} {R : Rb} {X : Nat → Prop} {n : Nat} {asn room ref : Int} {G : List RtV} (H : RibAt w R X n asn room ref G) (hX : ∀ k, X k → k < w.heap.size) {x : UpV} (hx : HoldF (R.FX X) w fun W => UpOk W x) {r : Int} (hr : mayR r x.up = true) (hg : x.g.n ≤ 3000 ∧ x.r.n ≤ 3000) (hG : G.length + x.r.n ≤ 3000000) (href : 0 ≤ ref ∧ ref + x.r.n ≤ 900000000) :
    Calls Tryz.prog 30 #[.pointer (some ⟨R.b, 0, none⟩), .int .i64 r, x.v] w fun e w' => ∃ v L R' n' G' ref', e = .returned (.tuple #[v, .int .i64 0]) ∧ RPk.Own w' w.heap.size v L ∧ Chg (G.map RtV.rt) (G'.map RtV.rt) L ∧ RibAt w' R' X n' asn room ref' G' ∧ (G'.map RtV.rt, ref') = applyR asn room r x.up (G.map RtV.rt, ref) ∧ R'.b = R.b ∧ Moved w w' R.F R'.F :=
  (apply_anyB H hX hx hr hg hG href).mono fun _e _w' ⟨v, L, R', n', G', ref', h1, h2, h3, h4, h5, h6, h7, _⟩ => ⟨v, L, R', n', G', ref', h1, h2, h3, h4, h5, h6, h7⟩
end Go.Proofs.YtadoflcomienoaaGreat
/- A trie and the list of its things in order. -/
namespace Go.Proofs.YtadoflcomienoaaGreat.Tm
open Go.RowKit

def TrieEM (w : World) (b : Nat) (N : Nat → Nat → Option Nat) (E : List ((Nat × Nat) × (Option Nat))) : Prop := ∃ M, TrieM w b N E.length M ∧ RefOk E M
theorem TrieEM.keep {w w' : World} {b : Nat} {N : Nat → Nat → Option Nat} {E : List ((Nat × Nat) × (Option Nat))} (h : TrieEM w b N E) (e : ∀ k, foot b N k → w'.heap[k]? = w.heap[k]?) : TrieEM w' b N E := by
  obtain ⟨M, h1, h2⟩ := h; exact ⟨M, h1.keep e, h2⟩
theorem TrieEM.below {w w' : World} {b : Nat} {N : Nat → Nat → Option Nat} {E : List ((Nat × Nat) × (Option Nat))} (h : TrieEM w b N E) (hb : Below w.heap.size w w') : TrieEM w' b N E := by
  obtain ⟨M, h1, h2⟩ := h; exact ⟨M, h1.below hb, h2⟩
theorem TrieEM.lt {w : World} {b : Nat} {N : Nat → Nat → Option Nat} {E : List ((Nat × Nat) × (Option Nat))} (h : TrieEM w b N E) {k : Nat} (hk : foot b N k) : k < w.heap.size := by
  obtain ⟨M, h1, h2⟩ := h; exact h1.lt hk
theorem TrieEM.sorted {w : World} {b : Nat} {N : Nat → Nat → Option Nat} {E : List ((Nat × Nat) × (Option Nat))} (h : TrieEM w b N E) : (E.map (·.1)).Pairwise ltK := by
  obtain ⟨M, h1, h2⟩ := h; exact h2.sorted
theorem prefixesEM {w : World} {b : Nat} {N : Nat → Nat → Option Nat} {E : List ((Nat × Nat) × (Option Nat))} (h : TrieEM w b N E) (hE : E.length ≤ 4294967296) :
    Calls Tryz.prog 85 #[.pointer (some ⟨b, 0, none⟩)] w fun e w' => ∃ v, e = .returned v ∧ RP.Own w' w.heap.size v (E.map (·.1)) ∧ Below w.heap.size w w' := by
  obtain ⟨M, h1, h2⟩ := h
  have e : heldM M 0 0 = E.map (·.1) := (held_filter h2 0 0 (by decide)).trans h2.in00
  have := prefixesM_any h1 (by rw [e]; simpa using hE)
  rw [e] at this
  exact this
end Go.Proofs.YtadoflcomienoaaGreat.Tm
