/- Packets that are taken: those that lives shows. -/
import Derived.Test.YtcbpdjenncbbeaaQas
namespace Go.Proofs.Ytcbpdjenncbbeaa.Ip
open Go.RowKit

def dB : List Nat := [10, 1, 0, 5, 0, 0, 0, 70, 10, 0, 0, 5, 0, 0, 0, 8, 11, 0, 0, 0, 0, 0, 0, 1]
def P1 : List Nat := [0, 10, 0, 60, 0, 0, 0, 0, 0, 0, 0, 0, 0, 0, 0, 3, 0, 2, 0, 16, 1, 44, 0, 2, 0, 12, 0, 4, 0, 1, 0, 4, 1, 44, 0, 28] ++ dB
def P2 : List Nat := [0, 10, 0, 32, 0, 0, 0, 0, 0, 0, 0, 5, 0, 0, 0, 3, 0, 2, 0, 16, 1, 44, 0, 2, 0, 12, 0, 4, 0, 1, 0, 4]
theorem getP1 : getP P1 = some ⟨0, 0, 3, [(2, usB), (300, dB)]⟩ := by rfl
theorem getP2 : getP P2 = some ⟨0, 5, 3, [(2, usB)]⟩ := by rfl
theorem getPx : getP [1] = none := by rfl
theorem dB_by : Bytes dB := by intro x hx; simp [dB] at hx; omega
theorem usB_by : Bytes usB := by intro x hx; simp [usB] at hx; omega
theorem P1_by : Bytes P1 := by intro x hx; simp [P1, dB] at hx; omega
theorem P2_by : Bytes P2 := by intro x hx; simp [P2] at hx; omega
theorem fl1 : flowsOf 3 dB 3 = [⟨3, 167837701, 70⟩, ⟨3, 167772165, 8⟩, ⟨3, 184549376, 1⟩] := by decide
theorem sl_but {α : Type} [Inhabited α] {R : Rep α} {W W' : World} {kb : Nat} {cs : Array MapEntry} {k : Nat} (hm : W.heap[kb]? = some (.map cs k)) {a : Option Addr} {n c : Nat} {L : List α} (h : R.Sl W a n c L) (hb : But W W' [kb]) : R.Sl W' a n c L := ⟨h.len, h.max, fun h0 => by
  obtain ⟨b, o, e, hr⟩ := h.row h0
  have hne : b ≠ kb := fun e2 => by
    have h1 := hr.get 0 (by rw [← h.len]; exact h0) 0 R.pos
    rw [e2] at h1
    have h2 : (R.cells (L.getD 0 default)).length = R.k := R.len _
    have hp := R.pos
    rw [List.getElem?_eq_getElem (by omega)] at h1
    unfold World.cell? at h1
    simp [hm] at h1
  exact ⟨b, o, e, hr.keep (hb.block b hr.lt (by simpa using hne))⟩⟩
theorem dok_ba {w : World} {s : SlV Nat} (h : DOk w s) : BA w s.a s.n s.c s.l := ⟨h.sl, h.nil, h.nc, h.cm⟩
theorem take_bad {w : World} {cb kb nb : Nat} {es : List (MR.Ent TK)} {k1 : Nat} {ns : List (MR.Ent Int)} {k2 : Nat} {lost bad : Int} (h : ColAt w cb kb nb es k1 ns k2 lost bad) {oa : Option Addr} {n c : Nat} (hb : RB.Sl w oa n c [1]) (hnil : oa = none → c = 0) : Calls Try.prog 14 #[.pointer (some ⟨cb, 0, none⟩), .slice oa n c] w fun e w' => e = .returned (.tuple #[.slice none 0 0, .int .i64 310]) ∧ Below w.heap.size w w' := by
  have hn := hb.len
  have HG := Lib.hid (get_pk hb hnil (by intro x hx; simp at hx; omega) (by rw [hn]; decide))
  have HM := Lib.hid (cmade_any h)
  clear h hb hnil hn
  go_enter Try.func14, Try.ntmps14
  go_wp2_with fail
  refine HM.out.mono ?_
  rintro e W0 ⟨rfl, hw⟩
  have hw := hw.symm
  subst hw
  go_wp2_with fail
  refine HG.out.mono ?_
  rintro e W1 ⟨⟨p, -, hor⟩, hb1⟩
  rw [getPx] at hor
  rcases hor with ⟨-, rfl, rfl⟩ | ⟨Q, hQ, -⟩
  · have HB := Lib.hid hb1
    clear hb1 HG HM
    unfold Pk.v
    dsimp only
    go_wp2_with (with_reducible refine halt_store 76 rfl ?_)
    refine Halted.go ?_
    have hal := (Below.refl W1.heap.size W1).alloc (Nat.le_refl _) (.cells #[.int .i64 0, .int .i64 0, .int .i64 0, .slice none 0 0] 76)
    refine store_whole rfl 76 _ _ rfl W1.heap.size #[.int .i64 0, .int .i64 0, .int .i64 0, .slice none 0 0] rfl rfl (hnew _ _) rfl (by kernel_rfl) (by simp [Value.oneCell']) ?_
    intro W2 hz hsz
    have HZ := Lib.hid (HB.out.trans ((hal.trans (hsz.below (Nat.le_refl _))).mono HB.out.size))
    clear hal hz hsz
    go_wp2_with fail
    go_ret2
    exact ⟨rfl, HZ.out⟩
  · cases hQ
structure TaS (cb tk q6 q10 : Nat) (sq : Int) (s1 : Option Addr) (s2 s3 : Nat) (v : Value) (r sid : Int) (da : Option Addr) (dn dc : Nat) (W : World) : Prop where
  tk' : W.heap[tk]? = some (.cells #[.pointer (some ⟨cb, 0, none⟩), .int .i64 0, .int .i64 sq, .int .i64 3, .slice s1 s2 s3, v, .int .i64 r] 81)
  pk : W.heap[q6]? = some (.cells #[.int .i64 0, .int .i64 sq, .int .i64 3, .slice s1 s2 s3] 76)
  st : W.heap[q10]? = some (.cells #[.int .i64 sid, .slice da dn dc] 83)
theorem TaS.keep {cb tk q6 q10 : Nat} {sq : Int} {s1 : Option Addr} {s2 s3 : Nat} {v : Value} {r sid : Int} {da : Option Addr} {dn dc : Nat} {W W' : World} (h : TaS cb tk q6 q10 sq s1 s2 s3 v r sid da dn dc W) (hb : Below W.heap.size W W') : TaS cb tk q6 q10 sq s1 s2 s3 v r sid da dn dc W' :=
  ⟨(hb.block _ (lt_of_blk h.tk')).trans h.tk', (hb.block _ (lt_of_blk h.pk)).trans h.pk, (hb.block _ (lt_of_blk h.st)).trans h.st⟩
set_option maxRecDepth 100000 in
set_option maxHeartbeats 16000000 in
theorem take1 {w : World} {cb kb nb : Nat} {es : List (MR.Ent TK)} {k1 : Nat} {ns : List (MR.Ent Int)} {k2 : Nat} (h : ColAt w cb kb nb es k1 ns k2 0 0) (hes : es.length < 1024) {x1 : Int} {x2 : Option Addr} {x3 x4 : Nat} (hl : (MR.get? es ((3 : Int), (300 : Int))).getD (.agg #[.int .i64 0, .slice none 0 0]) = .agg #[.int .i64 x1, .slice x2 x3 x4]) (hw : (MR.get? ns (3 : Int)).getD (.int .i64 0) = .int .i64 0) (hi : (MR.get? ns (3 : Int)).isSome = false) {oa : Option Addr} {n c : Nat} (hb : RB.Sl w oa n c P1) (hnil : oa = none → c = 0) : Calls Try.prog 14 #[.pointer (some ⟨cb, 0, none⟩), .slice oa n c] w fun e w' => ∃ v fa fc, e = .returned (.tuple #[v, .int .i64 0]) ∧ RFl.Own w' w.heap.size v (flowsOf 3 dB 3) ∧ ColAt w' cb kb nb (MR.put es ((3 : Int), (300 : Int)) (.agg #[.int .i64 300, .slice fa 2 fc]) k1) (MR.clock' es ((3 : Int), (300 : Int)) k1) (MR.put ns (3 : Int) (.int .i64 3) k2) (MR.clock' ns (3 : Int) k2) 0 0 ∧ But w w' [cb, kb, nb] := by
  have hn := hb.len
  have HG := Lib.hid (get_pk hb hnil P1_by (by rw [hn]; decide))
  have HM := Lib.hid (cmade_any h)
  have HH := Lib.hid (And.intro h (And.intro hes (And.intro hl (And.intro hw hi))))
  clear h hb hnil hn hes hl hw hi
  go_enter Try.func14, Try.ntmps14
  go_wp2_with fail
  refine HM.out.mono ?_
  rintro e W0 ⟨rfl, hw⟩
  have hw := hw.symm
  subst hw
  go_wp2_with fail
  refine HG.out.mono ?_
  rintro e W1 ⟨⟨p, hsts, hor⟩, hb1⟩
  rw [getP1] at hor
  rcases hor with ⟨h, -⟩ | ⟨Q, hQ, his, rfl⟩
  · cases h
  injection hQ with hQ
  subst hQ
  obtain ⟨tm, sq, dm, ⟨s1, s2, s3, sl⟩⟩ := p
  obtain ⟨h1, h2, h3, h4⟩ := his
  dsimp only at h1 h2 h3 h4
  subst h1 h2 h3
  have hsl : SlOk RSt StOk W1 ⟨s1, s2, s3, sl⟩ := hsts
  have hs2 : s2 = 2 := by
    have h5 := congrArg List.length h4
    simp only [List.length_map] at h5
    exact hsl.sl.len.trans h5
  subst hs2
  obtain ⟨⟨i1, ⟨a1, n1, c1, l1⟩⟩, ⟨i2, ⟨a2, n2, c2, l2⟩⟩, rfl⟩ : ∃ x y, sl = [x, y] := by
    have h5 : sl.length = 2 := hsl.sl.len.symm
    match sl, h5 with
    | [x, y], _ => exact ⟨x, y, rfl⟩
  simp only [List.map_cons, List.map_nil, pj, toS, List.cons.injEq, Prod.mk.injEq, and_true] at h4
  obtain ⟨⟨rfl, rfl, rfl⟩, rfl, rfl, rfl⟩ := h4
  have hd1 := (hsl.all _ List.mem_cons_self).2
  have hd2 := (hsl.all _ (List.mem_cons_of_mem _ List.mem_cons_self)).2
  have hk1 := dok_ba hd1
  have e2 : ((2 : Nat) : Int) = 2 := rfl
  simp only [e2] at hsl hk1
  have hk2 := dok_ba hd2
  have e3 : ((300 : Nat) : Int) = 300 := rfl
  simp only [e3] at hsl hk2
  have hcw := HH.out.1.keep hb1
  clear hsts hd1 e2 hd2 e3 HG HM
  clear hw
  unfold Pk.v
  dsimp only
  have HU := Lib.hid (And.intro hcw (And.intro hsl (And.intro hk1 (And.intro hb1 hk2))))
  clear hcw hk1 hb1 hk2 hsl
  go_wp2_with (with_reducible refine halt_store 76 rfl ?_)
  refine Halted.go ?_
  have hal := (Below.refl W1.heap.size W1).alloc (Nat.le_refl _) (.cells #[.int .i64 0, .int .i64 0, .int .i64 0, .slice none 0 0] 76)
  refine store_whole rfl 76 _ _ rfl W1.heap.size #[.int .i64 0, .int .i64 0, .int .i64 3, .slice s1 2 s3] rfl rfl (hnew _ _) rfl (by kernel_rfl) (by simp [Value.oneCell']) ?_
  intro W2 hz hsz
  have hb2 : Below W1.heap.size W1 W2 := Below.trans hal (hsz.below (Nat.le_refl _))
  have z0 := cell_of (o := 0) hz rfl
  have z1 := cell_of (o := 1) hz rfl
  have z2 := cell_of (o := 2) hz rfl
  have z3 := cell_of (o := 3) hz rfl
  have hal3 := (Below.refl W2.heap.size W2).alloc (Nat.le_refl _) (.cells #[.pointer (some ⟨cb, 0, none⟩), .int .i64 0, .int .i64 0, .int .i64 3, .slice s1 2 s3, .slice none 0 0, .int .i64 0] 81)
  have hb3 := bcall hb2 (Nat.le_refl _) hal3
  have z4 : (W2.alloc (.cells #[.pointer (some ⟨cb, 0, none⟩), .int .i64 0, .int .i64 0, .int .i64 3, .slice s1 2 s3, .slice none 0 0, .int .i64 0] 81)).cell? ⟨W1.heap.size, 3, none⟩ = some (.slice s1 2 s3) := cell_of ((hal3.block _ (lt_of_blk hz)).trans hz) rfl
  have F2 := Lib.hid (And.intro (HU.out.1.keep hb3) (And.intro (show RSt.Sl (W2.alloc (.cells #[.pointer (some ⟨cb, 0, none⟩), .int .i64 0, .int .i64 0, .int .i64 3, .slice s1 2 s3, .slice none 0 0, .int .i64 0] 81)) s1 2 s3 _ from HU.out.2.1.sl.keep hb3) (And.intro (HU.out.2.2.1.below hb3) (And.intro ((hal3.block _ (lt_of_blk hz)).trans hz) (And.intro (hnew W2 (.cells #[.pointer (some ⟨cb, 0, none⟩), .int .i64 0, .int .i64 0, .int .i64 3, .slice s1 2 s3, .slice none 0 0, .int .i64 0] 81)) (And.intro (bcall HU.out.2.2.2.1 (Nat.le_refl _) hb3) (HU.out.2.2.2.2.below hb3)))))))
  have HT := Lib.hid (show w.heap.size ≤ W2.heap.size from Nat.le_trans HU.out.2.2.2.1.size hb2.size)
  clear hal hsz hz hb2 hal3 hb3
  go_wp2_with fail
  clear z0 z1 z2 z3 z4
  obtain ⟨q6, hq6⟩ : ∃ q, W1.heap.size = q := ⟨_, rfl⟩
  obtain ⟨tk, htk⟩ : ∃ q, W2.heap.size = q := ⟨_, rfl⟩
  generalize W2.alloc (.cells #[.pointer (some ⟨cb, 0, none⟩), .int .i64 0, .int .i64 0, .int .i64 3, .slice s1 2 s3, .slice none 0 0, .int .i64 0] 81) = W5 at *
  rw [hq6, htk] at F2
  rw [htk] at HT
  try rw [hq6]
  try rw [htk]
  clear hq6 htk
  have hzp : ((0 : Int) < 2) = True := by simp
  go_loopw [29] (fun iv wr => (iv = .int .i64 0 ∧ wr = W5) ∨ (iv = .int .i64 1 ∧ ∃ fa fc, ColAt wr cb kb nb (MR.put es ((3 : Int), (300 : Int)) (.agg #[.int .i64 300, .slice fa 2 fc]) k1) (MR.clock' es ((3 : Int), (300 : Int)) k1) ns k2 0 0 ∧ FdsOk wr ⟨fa, 2, fc, [(12, 4), (1, 4)]⟩ ∧ But W5 wr [kb]) ∨ (iv = .int .i64 2 ∧ ∃ fa fc v, ColAt wr cb kb nb (MR.put es ((3 : Int), (300 : Int)) (.agg #[.int .i64 300, .slice fa 2 fc]) k1) (MR.clock' es ((3 : Int), (300 : Int)) k1) ns k2 0 0 ∧ wr.heap[tk]? = some (.cells #[.pointer (some ⟨cb, 0, none⟩), .int .i64 0, .int .i64 0, .int .i64 3, .slice s1 2 s3, v, .int .i64 3] 81) ∧ RFl.Own wr W5.heap.size v (flowsOf 3 dB 3) ∧ But W5 wr [kb, tk])) (fun iv _ => 2 - (intOf iv).toNat)
  case atStart => exact .inl ⟨rfl, rfl⟩
  case round =>
    rcases hrel with ⟨rfl, hwr⟩ | ⟨rfl, fa, fc, hc1, hfd, hbut⟩ | ⟨rfl, fa, fc, v, hc1, htk, hown, hbut⟩
    · have hwr := hwr.symm
      subst hwr
      obtain ⟨rb, ro, rfl, hrw⟩ := F2.out.2.1.row (by decide)
      have c0 := hrw.get 0 (by simp) 0 (by decide)
      have c1 := hrw.get 0 (by simp) 1 (by decide)
      rw [Nat.zero_mul, Nat.add_zero] at c0 c1
      simp only [RSt, List.getD_cons_zero, List.getElem?_cons_zero, List.getElem?_cons_succ] at c0 c1
      clear hrw
      go_wp2_with (with_reducible refine halt_store 83 rfl ?_)
      refine Halted.go ?_
      clear c0 c1
      have hal := (Below.refl W5.heap.size W5).alloc (Nat.le_refl _) (.cells #[.int .i64 0, .slice none 0 0] 83)
      refine store_whole rfl 83 _ _ rfl W5.heap.size #[.int .i64 2, .slice a1 12 c1] rfl rfl (hnew _ _) rfl (by kernel_rfl) (by simp [Value.oneCell']) ?_
      intro W6 hz hsz
      have hb6 : Below W5.heap.size W5 W6 := Below.trans hal (hsz.below (Nat.le_refl _))
      have z0 := cell_of (o := 0) hz rfl
      have hS : TaS cb tk q6 W5.heap.size 0 (some ⟨rb, ro, none⟩) 2 s3 (.slice none 0 0) 0 2 a1 12 c1 W6 := ⟨(hb6.block _ (lt_of_blk F2.out.2.2.2.2.1)).trans F2.out.2.2.2.2.1, (hb6.block _ (lt_of_blk F2.out.2.2.2.1)).trans F2.out.2.2.2.1, hz⟩
      have hdr := (Below.refl W6.heap.size W6).drew
      have FX := Lib.hid (And.intro (bcall hb6 (Nat.le_refl _) hdr) (hS.keep hdr))
      clear hal hsz hz hb6 hS hdr
      go_wp2_with fail
      refine wp_region_heldP (TaS cb tk q6 W5.heap.size 0 (some ⟨rb, ro, none⟩) 2 s3 (.slice none 0 0) 0 2 a1 12 c1) (by kernel_rfl) ?_
      clear z0
      generalize W6.drew = V at *
      refine held_reads [0, 1, 2, 3, 4, 5, 6, 7] (g := 1) rfl (by kernel_rfl) FX.out.2 (fun _ _ d _ _ h => by cases d <;> exact h) ?_
      simp only [pick, List.getD_cons_zero, List.getD_cons_succ]
      ((with_reducible refine wpRead_step (fun K hK => ?_)); go_simp; first | ((with_reducible refine hK _ ?_); clear hK K) | (apply Exists.intro; (with_reducible refine ⟨fun w' hw' => ?_, hK _ ?_⟩); ((have f0 : w'.cell? ⟨tk, 0, none⟩ = _ := cell_of hw'.tk' rfl; have f1 : w'.cell? ⟨q6, 2, none⟩ = _ := cell_of hw'.pk rfl; have f2 : w'.cell? ⟨W5.heap.size, 1, none⟩ = _ := cell_of hw'.st rfl; go_simp; first | exact rfl | exact ⟨rfl, rfl⟩)); clear hK K))
      ((with_reducible refine wpRead_step (fun K hK => ?_)); go_simp; first | ((with_reducible refine hK _ ?_); clear hK K) | (apply Exists.intro; (with_reducible refine ⟨fun w' hw' => ?_, hK _ ?_⟩); ((have f0 : w'.cell? ⟨tk, 0, none⟩ = _ := cell_of hw'.tk' rfl; have f1 : w'.cell? ⟨q6, 2, none⟩ = _ := cell_of hw'.pk rfl; have f2 : w'.cell? ⟨W5.heap.size, 1, none⟩ = _ := cell_of hw'.st rfl; go_simp; first | exact rfl | exact ⟨rfl, rfl⟩)); clear hK K))
      ((with_reducible refine wpRead_step (fun K hK => ?_)); go_simp; first | ((with_reducible refine hK _ ?_); clear hK K) | (apply Exists.intro; (with_reducible refine ⟨fun w' hw' => ?_, hK _ ?_⟩); ((have f0 : w'.cell? ⟨tk, 0, none⟩ = _ := cell_of hw'.tk' rfl; have f1 : w'.cell? ⟨q6, 2, none⟩ = _ := cell_of hw'.pk rfl; have f2 : w'.cell? ⟨W5.heap.size, 1, none⟩ = _ := cell_of hw'.st rfl; go_simp; first | exact rfl | exact ⟨rfl, rfl⟩)); clear hK K))
      ((with_reducible refine wpRead_step (fun K hK => ?_)); go_simp; first | ((with_reducible refine hK _ ?_); clear hK K) | (apply Exists.intro; (with_reducible refine ⟨fun w' hw' => ?_, hK _ ?_⟩); ((have f0 : w'.cell? ⟨tk, 0, none⟩ = _ := cell_of hw'.tk' rfl; have f1 : w'.cell? ⟨q6, 2, none⟩ = _ := cell_of hw'.pk rfl; have f2 : w'.cell? ⟨W5.heap.size, 1, none⟩ = _ := cell_of hw'.st rfl; go_simp; first | exact rfl | exact ⟨rfl, rfl⟩)); clear hK K))
      ((with_reducible refine wpRead_step (fun K hK => ?_)); go_simp; first | ((with_reducible refine hK _ ?_); clear hK K) | (apply Exists.intro; (with_reducible refine ⟨fun w' hw' => ?_, hK _ ?_⟩); ((have f0 : w'.cell? ⟨tk, 0, none⟩ = _ := cell_of hw'.tk' rfl; have f1 : w'.cell? ⟨q6, 2, none⟩ = _ := cell_of hw'.pk rfl; have f2 : w'.cell? ⟨W5.heap.size, 1, none⟩ = _ := cell_of hw'.st rfl; go_simp; first | exact rfl | exact ⟨rfl, rfl⟩)); clear hK K))
      ((with_reducible refine wpRead_step (fun K hK => ?_)); go_simp; first | ((with_reducible refine hK _ ?_); clear hK K) | (apply Exists.intro; (with_reducible refine ⟨fun w' hw' => ?_, hK _ ?_⟩); ((have f0 : w'.cell? ⟨tk, 0, none⟩ = _ := cell_of hw'.tk' rfl; have f1 : w'.cell? ⟨q6, 2, none⟩ = _ := cell_of hw'.pk rfl; have f2 : w'.cell? ⟨W5.heap.size, 1, none⟩ = _ := cell_of hw'.st rfl; go_simp; first | exact rfl | exact ⟨rfl, rfl⟩)); clear hK K))
      ((with_reducible refine wpRead_step (fun K hK => ?_)); go_simp; first | ((with_reducible refine hK _ ?_); clear hK K) | (apply Exists.intro; (with_reducible refine ⟨fun w' hw' => ?_, hK _ ?_⟩); ((have f0 : w'.cell? ⟨tk, 0, none⟩ = _ := cell_of hw'.tk' rfl; have f1 : w'.cell? ⟨q6, 2, none⟩ = _ := cell_of hw'.pk rfl; have f2 : w'.cell? ⟨W5.heap.size, 1, none⟩ = _ := cell_of hw'.st rfl; go_simp; first | exact rfl | exact ⟨rfl, rfl⟩)); clear hK K))
      ((with_reducible refine wpRead_step (fun K hK => ?_)); go_simp; first | ((with_reducible refine hK _ ?_); clear hK K) | (apply Exists.intro; (with_reducible refine ⟨fun w' hw' => ?_, hK _ ?_⟩); ((have f0 : w'.cell? ⟨tk, 0, none⟩ = _ := cell_of hw'.tk' rfl; have f1 : w'.cell? ⟨q6, 2, none⟩ = _ := cell_of hw'.pk rfl; have f2 : w'.cell? ⟨W5.heap.size, 1, none⟩ = _ := cell_of hw'.st rfl; go_simp; first | exact rfl | exact ⟨rfl, rfl⟩)); clear hK K))
      with_reducible refine wpRead_nil ?_
      refine held_one 8 (by kernel_rfl) ?_
      simp only [pick, List.getD_cons_zero, List.getD_cons_succ]
      go_wp2_with fail
      refine (learn_us (F2.out.1.keep FX.out.1) HH.out.2.1 wf3 HH.out.2.2.1 (F2.out.2.2.1.sl.keep FX.out.1) F2.out.2.2.1.nil).mono ?_
      rintro e V1 ⟨rfl, fa, fc, hc1, hfd, hbt⟩
      have hS1 : TaS cb tk q6 W5.heap.size 0 (some ⟨rb, ro, none⟩) 2 s3 (.slice none 0 0) 0 2 a1 12 c1 V1 := by
        have hkm := (F2.out.1.keep FX.out.1).kn.blk
        have hn : ∀ (b : Nat) (cs : Array Value) (T : TypeId), V.heap[b]? = some (.cells cs T) → V1.heap[b]? = some (.cells cs T) := fun b cs T h => (hbt.block b (lt_of_blk h) (by
          rw [List.mem_singleton]
          rintro rfl
          rw [hkm] at h; cases h)).trans h
        exact ⟨hn _ _ _ FX.out.2.tk', hn _ _ _ FX.out.2.pk, hn _ _ _ FX.out.2.st⟩
      have HD := Lib.hid (And.intro hS1 (And.intro hc1 (And.intro hfd ((But.of_below FX.out.1 _).trans hbt))))
      clear hc1 hfd hbt hS1
      go_wp2_with fail
      refine ⟨HD.out.1, ?_⟩
      refine wpAnyH_done (by kernel_rfl) ?_ _
      go_wp2_with fail
      exact ⟨.inr (.inl ⟨rfl, fa, fc, HD.out.2⟩), by decide⟩
    · obtain ⟨w2, rfl⟩ : ∃ w2 : World, w2 = wr := ⟨_, rfl⟩
      have hkm := F2.out.1.kn.blk
      obtain ⟨rb, ro, rfl, hrw⟩ := (sl_but hkm F2.out.2.1 hbut).row (by decide)
      have c0 := hrw.get 1 (by simp) 0 (by decide)
      have c1 := hrw.get 1 (by simp) 1 (by decide)
      simp only [RSt, List.getD_cons_zero, List.getD_cons_succ, List.getElem?_cons_zero, List.getElem?_cons_succ, Nat.add_zero] at c0 c1
      have hbk : BA w2 a2 24 c2 dB := ⟨sl_but hkm F2.out.2.2.2.2.2.2.sl hbut, F2.out.2.2.2.2.2.2.nil, F2.out.2.2.2.2.2.2.le, F2.out.2.2.2.2.2.2.cap⟩
      have htk : w2.heap[tk]? = some (.cells #[.pointer (some ⟨cb, 0, none⟩), .int .i64 0, .int .i64 0, .int .i64 3, .slice (some ⟨rb, ro, none⟩) 2 s3, .slice none 0 0, .int .i64 0] 81) := (hbut.block _ (lt_of_blk F2.out.2.2.2.2.1) (by
        rw [List.mem_singleton]
        rintro rfl
        have h1 := F2.out.2.2.2.2.1
        rw [F2.out.1.kn.blk] at h1; cases h1)).trans F2.out.2.2.2.2.1
      have HE := Lib.hid (And.intro hc1 (And.intro hfd (And.intro hbut (And.intro hbk htk))))
      have hil : ((1 : Int) < 2) = True := by simp
      clear hc1 hfd hbut hbk htk hrw hkm
      go_wp2_with (with_reducible refine halt_store 83 rfl ?_)
      refine Halted.go ?_
      clear c0 c1
      have hal := (Below.refl w2.heap.size w2).alloc (Nat.le_refl _) (.cells #[.int .i64 0, .slice none 0 0] 83)
      refine store_whole rfl 83 _ _ rfl w2.heap.size #[.int .i64 300, .slice a2 24 c2] rfl rfl (hnew _ _) rfl (by kernel_rfl) (by simp [Value.oneCell']) ?_
      intro W6 hz hsz
      have hb6 : Below w2.heap.size w2 W6 := Below.trans hal (hsz.below (Nat.le_refl _))
      have z0 := cell_of (o := 0) hz rfl
      have z1 := cell_of (o := 1) hz rfl
      have FX := Lib.hid hb6
      clear hal hsz hz hb6
      go_wp2_with fail
      clear z0 z1
      refine (data_us (k := 3) (HE.out.1.keep FX.out) ((FX.out.block _ (lt_of_blk HE.out.2.2.2.2)).trans HE.out.2.2.2.2) wf3 (by rw [MR.get?_put]; simp) (HE.out.2.1.keep FX.out) (HE.out.2.2.2.1.below FX.out) dB_by rfl (by decide)).mono ?_
      rintro e V1 ⟨rfl, ⟨v, htk1, hown1⟩, hbt⟩
      have hc0 := HE.out.1.keep FX.out
      have hT0 := (FX.out.block _ (lt_of_blk HE.out.2.2.2.2)).trans HE.out.2.2.2.2
      have hc1 : ColAt V1 cb kb nb (MR.put es ((3 : Int), (300 : Int)) (.agg #[.int .i64 300, .slice fa 2 fc]) k1) (MR.clock' es ((3 : Int), (300 : Int)) k1) ns k2 0 0 := ⟨(hbt.block _ (lt_of_blk hc0.col) (by
          rw [List.mem_singleton]; rintro rfl; have h1 := hc0.col; rw [hT0] at h1; injection h1 with h1; injection h1 with _ h1; exact absurd h1 (by decide))).trans hc0.col,
        hc0.kn.blk_iff TN (hbt.block _ (lt_of_blk hc0.kn.blk) (by rw [List.mem_singleton]; rintro rfl; have h1 := hc0.kn.blk; rw [hT0] at h1; cases h1)),
        hc0.nx.blk_iff IN (hbt.block _ (lt_of_blk hc0.nx.blk) (by rw [List.mem_singleton]; rintro rfl; have h1 := hc0.nx.blk; rw [hT0] at h1; cases h1)), hc0.ne⟩
      have HD := Lib.hid (And.intro hc1 (And.intro htk1 (And.intro (hown1.mono (Nat.le_trans HE.out.2.2.1.size FX.out.size)) (show But W5 V1 [kb, tk] from (HE.out.2.2.1.mono (cs := [kb, tk]) (fun b9 h9 => by simp at h9 ⊢; exact .inl h9)).trans ((But.of_below FX.out _).trans (hbt.mono (cs := [kb, tk]) (fun b9 h9 => by simp at h9 ⊢; exact .inr h9)))))))
      clear hc0 hT0 hc1 htk1 hown1 hbt
      go_wp2_with fail
      exact ⟨.inr (.inr ⟨rfl, fa, fc, v, HD.out⟩), by decide⟩
    · obtain ⟨w2, rfl⟩ : ∃ w2 : World, w2 = wr := ⟨_, rfl⟩
      have hbw : But w w2 [cb, kb, nb] := by
        refine ⟨hbut.os.trans F2.out.2.2.2.2.2.1.os, hbut.tape.trans F2.out.2.2.2.2.2.1.tape, hbut.output.trans F2.out.2.2.2.2.2.1.output, Nat.le_trans F2.out.2.2.2.2.2.1.size hbut.size, fun k9 h9 hn9 => ?_⟩
        refine (hbut.block k9 (Nat.lt_of_lt_of_le h9 F2.out.2.2.2.2.2.1.size) ?_).trans (F2.out.2.2.2.2.2.1.block k9 h9)
        have hto := HT.out
        simp only [List.mem_cons, List.not_mem_nil, or_false, not_or] at hn9 ⊢
        exact ⟨hn9.2.1, by omega⟩
      obtain ⟨oe, ce, rfl, -, -⟩ := hown.sl0
      have HE := Lib.hid (And.intro hc1 (And.intro htk (And.intro hown hbw)))
      clear hc1 htk hown hbut hbw
      go_wp2_with fail
      refine (follow1 HE.out.1 HE.out.2.1 HH.out.2.2.2.1 HH.out.2.2.2.2).mono ?_
      rintro e W9 ⟨rfl, hc9, hbt9⟩
      have htk9 := (hbt9.block _ (lt_of_blk HE.out.2.1) (by
        rw [List.mem_cons, List.mem_singleton, not_or]
        refine ⟨fun e => ?_, fun e => ?_⟩
        · have h1 := HE.out.2.1; rw [e, HE.out.1.col] at h1; injection h1 with h1; injection h1 with _ h1; exact absurd h1 (by decide)
        · have h1 := HE.out.2.1; rw [e, HE.out.1.nx.blk] at h1; cases h1)).trans HE.out.2.1
      have hown9 := HE.out.2.2.1.keep (fun b9 h9 => hbt9.block b9 (by obtain ⟨cur, hcur⟩ := own_cellsG HE.out.2.2.1 h9; exact lt_of_blk hcur) (by
        obtain ⟨cur, hcur⟩ := own_cellsG HE.out.2.2.1 h9
        rw [List.mem_cons, List.mem_singleton, not_or]
        refine ⟨fun e => ?_, fun e => ?_⟩
        · rw [e, HE.out.1.col] at hcur; injection hcur with hcur; injection hcur with _ h1; exact absurd h1 (by decide)
        · rw [e, HE.out.1.nx.blk] at hcur; cases hcur))
      have e5 := cell_of (o := 5) htk9 rfl
      have HR := Lib.hid (And.intro (hown9.mono (Nat.le_trans F2.out.2.2.2.2.2.1.size (Nat.le_refl _))) (And.intro hc9 (HE.out.2.2.2.trans (hbt9.mono (by simp)))))
      clear hc9 hbt9 htk9 hown9
      go_wp2_with fail
      go_ret2
      exact ⟨_, fa, fc, rfl, HR.out⟩
set_option maxRecDepth 100000 in
set_option maxHeartbeats 16000000 in
theorem take2 {w : World} {cb kb nb : Nat} {es : List (MR.Ent TK)} {k1 : Nat} {ns : List (MR.Ent Int)} {k2 : Nat} (h : ColAt w cb kb nb es k1 ns k2 0 0) (hes : es.length < 1024) {x1 : Int} {x2 : Option Addr} {x3 x4 : Nat} (hl : (MR.get? es ((3 : Int), (300 : Int))).getD (.agg #[.int .i64 0, .slice none 0 0]) = .agg #[.int .i64 x1, .slice x2 x3 x4]) (hw : (MR.get? ns (3 : Int)).getD (.int .i64 0) = .int .i64 3) (hi : (MR.get? ns (3 : Int)).isSome = true) {oa : Option Addr} {n c : Nat} (hb : RB.Sl w oa n c P2) (hnil : oa = none → c = 0) : Calls Try.prog 14 #[.pointer (some ⟨cb, 0, none⟩), .slice oa n c] w fun e w' => ∃ v fa fc, e = .returned (.tuple #[v, .int .i64 0]) ∧ RFl.Own w' w.heap.size v [] ∧ ColAt w' cb kb nb (MR.put es ((3 : Int), (300 : Int)) (.agg #[.int .i64 300, .slice fa 2 fc]) k1) (MR.clock' es ((3 : Int), (300 : Int)) k1) (MR.put ns (3 : Int) (.int .i64 5) k2) (MR.clock' ns (3 : Int) k2) 2 0 ∧ But w w' [cb, kb, nb] := by
  have hn := hb.len
  have HG := Lib.hid (get_pk hb hnil P2_by (by rw [hn]; decide))
  have HM := Lib.hid (cmade_any h)
  have HH := Lib.hid (And.intro h (And.intro hes (And.intro hl (And.intro hw hi))))
  clear h hb hnil hn hes hl hw hi
  go_enter Try.func14, Try.ntmps14
  go_wp2_with fail
  refine HM.out.mono ?_
  rintro e W0 ⟨rfl, hw⟩
  have hw := hw.symm
  subst hw
  go_wp2_with fail
  refine HG.out.mono ?_
  rintro e W1 ⟨⟨p, hsts, hor⟩, hb1⟩
  rw [getP2] at hor
  rcases hor with ⟨h, -⟩ | ⟨Q, hQ, his, rfl⟩
  · cases h
  injection hQ with hQ
  subst hQ
  obtain ⟨tm, sq, dm, ⟨s1, s2, s3, sl⟩⟩ := p
  obtain ⟨h1, h2, h3, h4⟩ := his
  dsimp only at h1 h2 h3 h4
  subst h1 h2 h3
  have hsl : SlOk RSt StOk W1 ⟨s1, s2, s3, sl⟩ := hsts
  have hs2 : s2 = 1 := by
    have h5 := congrArg List.length h4
    simp only [List.length_map] at h5
    exact hsl.sl.len.trans h5
  subst hs2
  obtain ⟨⟨i1, ⟨a1, n1, c1, l1⟩⟩, rfl⟩ : ∃ x, sl = [x] := by
    have h5 : sl.length = 1 := hsl.sl.len.symm
    match sl, h5 with
    | [x], _ => exact ⟨x, rfl⟩
  simp only [List.map_cons, List.map_nil, pj, toS, List.cons.injEq, Prod.mk.injEq, and_true] at h4
  obtain ⟨rfl, rfl, rfl⟩ := h4
  have hd1 := (hsl.all _ List.mem_cons_self).2
  have hk1 := dok_ba hd1
  have e2 : ((2 : Nat) : Int) = 2 := rfl
  simp only [e2] at hsl hk1
  have hcw := HH.out.1.keep hb1
  clear hsts hd1 e2 HG HM
  clear hw
  unfold Pk.v
  dsimp only
  have HU := Lib.hid (And.intro hcw (And.intro hsl (And.intro hk1 (And.intro hb1 trivial))))
  clear hcw hk1 hb1 hsl
  go_wp2_with (with_reducible refine halt_store 76 rfl ?_)
  refine Halted.go ?_
  have hal := (Below.refl W1.heap.size W1).alloc (Nat.le_refl _) (.cells #[.int .i64 0, .int .i64 0, .int .i64 0, .slice none 0 0] 76)
  refine store_whole rfl 76 _ _ rfl W1.heap.size #[.int .i64 0, .int .i64 5, .int .i64 3, .slice s1 1 s3] rfl rfl (hnew _ _) rfl (by kernel_rfl) (by simp [Value.oneCell']) ?_
  intro W2 hz hsz
  have hb2 : Below W1.heap.size W1 W2 := Below.trans hal (hsz.below (Nat.le_refl _))
  have z0 := cell_of (o := 0) hz rfl
  have z1 := cell_of (o := 1) hz rfl
  have z2 := cell_of (o := 2) hz rfl
  have z3 := cell_of (o := 3) hz rfl
  have hal3 := (Below.refl W2.heap.size W2).alloc (Nat.le_refl _) (.cells #[.pointer (some ⟨cb, 0, none⟩), .int .i64 0, .int .i64 5, .int .i64 3, .slice s1 1 s3, .slice none 0 0, .int .i64 0] 81)
  have hb3 := bcall hb2 (Nat.le_refl _) hal3
  have z4 : (W2.alloc (.cells #[.pointer (some ⟨cb, 0, none⟩), .int .i64 0, .int .i64 5, .int .i64 3, .slice s1 1 s3, .slice none 0 0, .int .i64 0] 81)).cell? ⟨W1.heap.size, 3, none⟩ = some (.slice s1 1 s3) := cell_of ((hal3.block _ (lt_of_blk hz)).trans hz) rfl
  have F2 := Lib.hid (And.intro (HU.out.1.keep hb3) (And.intro (show RSt.Sl (W2.alloc (.cells #[.pointer (some ⟨cb, 0, none⟩), .int .i64 0, .int .i64 5, .int .i64 3, .slice s1 1 s3, .slice none 0 0, .int .i64 0] 81)) s1 1 s3 _ from HU.out.2.1.sl.keep hb3) (And.intro (HU.out.2.2.1.below hb3) (And.intro ((hal3.block _ (lt_of_blk hz)).trans hz) (And.intro (hnew W2 (.cells #[.pointer (some ⟨cb, 0, none⟩), .int .i64 0, .int .i64 5, .int .i64 3, .slice s1 1 s3, .slice none 0 0, .int .i64 0] 81)) (And.intro (bcall HU.out.2.2.2.1 (Nat.le_refl _) hb3) trivial))))))
  have HT := Lib.hid (show w.heap.size ≤ W2.heap.size from Nat.le_trans HU.out.2.2.2.1.size hb2.size)
  clear hal hsz hz hb2 hal3 hb3
  go_wp2_with fail
  clear z0 z1 z2 z3 z4
  obtain ⟨q6, hq6⟩ : ∃ q, W1.heap.size = q := ⟨_, rfl⟩
  obtain ⟨tk, htk⟩ : ∃ q, W2.heap.size = q := ⟨_, rfl⟩
  generalize W2.alloc (.cells #[.pointer (some ⟨cb, 0, none⟩), .int .i64 0, .int .i64 5, .int .i64 3, .slice s1 1 s3, .slice none 0 0, .int .i64 0] 81) = W5 at *
  rw [hq6, htk] at F2
  rw [htk] at HT
  try rw [hq6]
  try rw [htk]
  clear hq6 htk
  have hzp : ((0 : Int) < 1) = True := by simp
  go_loopw [29] (fun iv wr => (iv = .int .i64 0 ∧ wr = W5) ∨ (iv = .int .i64 1 ∧ ∃ fa fc, ColAt wr cb kb nb (MR.put es ((3 : Int), (300 : Int)) (.agg #[.int .i64 300, .slice fa 2 fc]) k1) (MR.clock' es ((3 : Int), (300 : Int)) k1) ns k2 0 0 ∧ FdsOk wr ⟨fa, 2, fc, [(12, 4), (1, 4)]⟩ ∧ But W5 wr [kb])) (fun iv _ => 1 - (intOf iv).toNat)
  case atStart => exact .inl ⟨rfl, rfl⟩
  case round =>
    rcases hrel with ⟨rfl, hwr⟩ | ⟨rfl, fa, fc, hc1, hfd, hbut⟩
    · have hwr := hwr.symm
      subst hwr
      obtain ⟨rb, ro, rfl, hrw⟩ := F2.out.2.1.row (by decide)
      have c0 := hrw.get 0 (by simp) 0 (by decide)
      have c1 := hrw.get 0 (by simp) 1 (by decide)
      rw [Nat.zero_mul, Nat.add_zero] at c0 c1
      simp only [RSt, List.getD_cons_zero, List.getElem?_cons_zero, List.getElem?_cons_succ] at c0 c1
      clear hrw
      go_wp2_with (with_reducible refine halt_store 83 rfl ?_)
      refine Halted.go ?_
      clear c0 c1
      have hal := (Below.refl W5.heap.size W5).alloc (Nat.le_refl _) (.cells #[.int .i64 0, .slice none 0 0] 83)
      refine store_whole rfl 83 _ _ rfl W5.heap.size #[.int .i64 2, .slice a1 12 c1] rfl rfl (hnew _ _) rfl (by kernel_rfl) (by simp [Value.oneCell']) ?_
      intro W6 hz hsz
      have hb6 : Below W5.heap.size W5 W6 := Below.trans hal (hsz.below (Nat.le_refl _))
      have z0 := cell_of (o := 0) hz rfl
      have hS : TaS cb tk q6 W5.heap.size 5 (some ⟨rb, ro, none⟩) 1 s3 (.slice none 0 0) 0 2 a1 12 c1 W6 := ⟨(hb6.block _ (lt_of_blk F2.out.2.2.2.2.1)).trans F2.out.2.2.2.2.1, (hb6.block _ (lt_of_blk F2.out.2.2.2.1)).trans F2.out.2.2.2.1, hz⟩
      have hdr := (Below.refl W6.heap.size W6).drew
      have FX := Lib.hid (And.intro (bcall hb6 (Nat.le_refl _) hdr) (hS.keep hdr))
      clear hal hsz hz hb6 hS hdr
      go_wp2_with fail
      refine wp_region_heldP (TaS cb tk q6 W5.heap.size 5 (some ⟨rb, ro, none⟩) 1 s3 (.slice none 0 0) 0 2 a1 12 c1) (by kernel_rfl) ?_
      clear z0
      generalize W6.drew = V at *
      refine held_reads [0, 1, 2, 3, 4, 5, 6, 7] (g := 1) rfl (by kernel_rfl) FX.out.2 (fun _ _ d _ _ h => by cases d <;> exact h) ?_
      simp only [pick, List.getD_cons_zero, List.getD_cons_succ]
      ((with_reducible refine wpRead_step (fun K hK => ?_)); go_simp; first | ((with_reducible refine hK _ ?_); clear hK K) | (apply Exists.intro; (with_reducible refine ⟨fun w' hw' => ?_, hK _ ?_⟩); ((have f0 : w'.cell? ⟨tk, 0, none⟩ = _ := cell_of hw'.tk' rfl; have f1 : w'.cell? ⟨q6, 2, none⟩ = _ := cell_of hw'.pk rfl; have f2 : w'.cell? ⟨W5.heap.size, 1, none⟩ = _ := cell_of hw'.st rfl; go_simp; first | exact rfl | exact ⟨rfl, rfl⟩)); clear hK K))
      ((with_reducible refine wpRead_step (fun K hK => ?_)); go_simp; first | ((with_reducible refine hK _ ?_); clear hK K) | (apply Exists.intro; (with_reducible refine ⟨fun w' hw' => ?_, hK _ ?_⟩); ((have f0 : w'.cell? ⟨tk, 0, none⟩ = _ := cell_of hw'.tk' rfl; have f1 : w'.cell? ⟨q6, 2, none⟩ = _ := cell_of hw'.pk rfl; have f2 : w'.cell? ⟨W5.heap.size, 1, none⟩ = _ := cell_of hw'.st rfl; go_simp; first | exact rfl | exact ⟨rfl, rfl⟩)); clear hK K))
      ((with_reducible refine wpRead_step (fun K hK => ?_)); go_simp; first | ((with_reducible refine hK _ ?_); clear hK K) | (apply Exists.intro; (with_reducible refine ⟨fun w' hw' => ?_, hK _ ?_⟩); ((have f0 : w'.cell? ⟨tk, 0, none⟩ = _ := cell_of hw'.tk' rfl; have f1 : w'.cell? ⟨q6, 2, none⟩ = _ := cell_of hw'.pk rfl; have f2 : w'.cell? ⟨W5.heap.size, 1, none⟩ = _ := cell_of hw'.st rfl; go_simp; first | exact rfl | exact ⟨rfl, rfl⟩)); clear hK K))
      ((with_reducible refine wpRead_step (fun K hK => ?_)); go_simp; first | ((with_reducible refine hK _ ?_); clear hK K) | (apply Exists.intro; (with_reducible refine ⟨fun w' hw' => ?_, hK _ ?_⟩); ((have f0 : w'.cell? ⟨tk, 0, none⟩ = _ := cell_of hw'.tk' rfl; have f1 : w'.cell? ⟨q6, 2, none⟩ = _ := cell_of hw'.pk rfl; have f2 : w'.cell? ⟨W5.heap.size, 1, none⟩ = _ := cell_of hw'.st rfl; go_simp; first | exact rfl | exact ⟨rfl, rfl⟩)); clear hK K))
      ((with_reducible refine wpRead_step (fun K hK => ?_)); go_simp; first | ((with_reducible refine hK _ ?_); clear hK K) | (apply Exists.intro; (with_reducible refine ⟨fun w' hw' => ?_, hK _ ?_⟩); ((have f0 : w'.cell? ⟨tk, 0, none⟩ = _ := cell_of hw'.tk' rfl; have f1 : w'.cell? ⟨q6, 2, none⟩ = _ := cell_of hw'.pk rfl; have f2 : w'.cell? ⟨W5.heap.size, 1, none⟩ = _ := cell_of hw'.st rfl; go_simp; first | exact rfl | exact ⟨rfl, rfl⟩)); clear hK K))
      ((with_reducible refine wpRead_step (fun K hK => ?_)); go_simp; first | ((with_reducible refine hK _ ?_); clear hK K) | (apply Exists.intro; (with_reducible refine ⟨fun w' hw' => ?_, hK _ ?_⟩); ((have f0 : w'.cell? ⟨tk, 0, none⟩ = _ := cell_of hw'.tk' rfl; have f1 : w'.cell? ⟨q6, 2, none⟩ = _ := cell_of hw'.pk rfl; have f2 : w'.cell? ⟨W5.heap.size, 1, none⟩ = _ := cell_of hw'.st rfl; go_simp; first | exact rfl | exact ⟨rfl, rfl⟩)); clear hK K))
      ((with_reducible refine wpRead_step (fun K hK => ?_)); go_simp; first | ((with_reducible refine hK _ ?_); clear hK K) | (apply Exists.intro; (with_reducible refine ⟨fun w' hw' => ?_, hK _ ?_⟩); ((have f0 : w'.cell? ⟨tk, 0, none⟩ = _ := cell_of hw'.tk' rfl; have f1 : w'.cell? ⟨q6, 2, none⟩ = _ := cell_of hw'.pk rfl; have f2 : w'.cell? ⟨W5.heap.size, 1, none⟩ = _ := cell_of hw'.st rfl; go_simp; first | exact rfl | exact ⟨rfl, rfl⟩)); clear hK K))
      ((with_reducible refine wpRead_step (fun K hK => ?_)); go_simp; first | ((with_reducible refine hK _ ?_); clear hK K) | (apply Exists.intro; (with_reducible refine ⟨fun w' hw' => ?_, hK _ ?_⟩); ((have f0 : w'.cell? ⟨tk, 0, none⟩ = _ := cell_of hw'.tk' rfl; have f1 : w'.cell? ⟨q6, 2, none⟩ = _ := cell_of hw'.pk rfl; have f2 : w'.cell? ⟨W5.heap.size, 1, none⟩ = _ := cell_of hw'.st rfl; go_simp; first | exact rfl | exact ⟨rfl, rfl⟩)); clear hK K))
      with_reducible refine wpRead_nil ?_
      refine held_one 8 (by kernel_rfl) ?_
      simp only [pick, List.getD_cons_zero, List.getD_cons_succ]
      go_wp2_with fail
      refine (learn_us (F2.out.1.keep FX.out.1) HH.out.2.1 wf3 HH.out.2.2.1 (F2.out.2.2.1.sl.keep FX.out.1) F2.out.2.2.1.nil).mono ?_
      rintro e V1 ⟨rfl, fa, fc, hc1, hfd, hbt⟩
      have hS1 : TaS cb tk q6 W5.heap.size 5 (some ⟨rb, ro, none⟩) 1 s3 (.slice none 0 0) 0 2 a1 12 c1 V1 := by
        have hkm := (F2.out.1.keep FX.out.1).kn.blk
        have hn : ∀ (b : Nat) (cs : Array Value) (T : TypeId), V.heap[b]? = some (.cells cs T) → V1.heap[b]? = some (.cells cs T) := fun b cs T h => (hbt.block b (lt_of_blk h) (by
          rw [List.mem_singleton]
          rintro rfl
          rw [hkm] at h; cases h)).trans h
        exact ⟨hn _ _ _ FX.out.2.tk', hn _ _ _ FX.out.2.pk, hn _ _ _ FX.out.2.st⟩
      have HD := Lib.hid (And.intro hS1 (And.intro hc1 (And.intro hfd ((But.of_below FX.out.1 _).trans hbt))))
      clear hc1 hfd hbt hS1
      go_wp2_with fail
      refine ⟨HD.out.1, ?_⟩
      refine wpAnyH_done (by kernel_rfl) ?_ _
      go_wp2_with fail
      exact ⟨.inr ⟨rfl, fa, fc, HD.out.2⟩, by decide⟩
    · obtain ⟨w2, rfl⟩ : ∃ w2 : World, w2 = wr := ⟨_, rfl⟩
      have hown : RFl.Own w2 W5.heap.size (.slice none 0 0) ([] : List Fl) := Rep.Own.nil _ _
      have htk : w2.heap[tk]? = some (.cells #[.pointer (some ⟨cb, 0, none⟩), .int .i64 0, .int .i64 5, .int .i64 3, .slice s1 1 s3, .slice none 0 0, .int .i64 0] 81) := (hbut.block _ (lt_of_blk F2.out.2.2.2.2.1) (by
        rw [List.mem_singleton]
        rintro rfl
        have h1 := F2.out.2.2.2.2.1
        rw [F2.out.1.kn.blk] at h1; cases h1)).trans F2.out.2.2.2.2.1
      have hbw : But w w2 [cb, kb, nb] := (But.of_below F2.out.2.2.2.2.2.1 _).trans (hbut.mono (by simp))
      have HE := Lib.hid (And.intro hc1 (And.intro htk (And.intro hown hbw)))
      clear hc1 htk hown hbut hbw
      go_wp2_with fail
      refine (follow2 HE.out.1 HE.out.2.1 HH.out.2.2.2.1 HH.out.2.2.2.2).mono ?_
      rintro e W9 ⟨rfl, hc9, hbt9⟩
      have htk9 := (hbt9.block _ (lt_of_blk HE.out.2.1) (by
        rw [List.mem_cons, List.mem_singleton, not_or]
        refine ⟨fun e => ?_, fun e => ?_⟩
        · have h1 := HE.out.2.1; rw [e, HE.out.1.col] at h1; injection h1 with h1; injection h1 with _ h1; exact absurd h1 (by decide)
        · have h1 := HE.out.2.1; rw [e, HE.out.1.nx.blk] at h1; cases h1)).trans HE.out.2.1
      have hown9 := HE.out.2.2.1.keep (fun b9 h9 => hbt9.block b9 (by obtain ⟨cur, hcur⟩ := own_cellsG HE.out.2.2.1 h9; exact lt_of_blk hcur) (by
        obtain ⟨cur, hcur⟩ := own_cellsG HE.out.2.2.1 h9
        rw [List.mem_cons, List.mem_singleton, not_or]
        refine ⟨fun e => ?_, fun e => ?_⟩
        · rw [e, HE.out.1.col] at hcur; injection hcur with hcur; injection hcur with _ h1; exact absurd h1 (by decide)
        · rw [e, HE.out.1.nx.blk] at hcur; cases hcur))
      have e5 := cell_of (o := 5) htk9 rfl
      have HR := Lib.hid (And.intro (hown9.mono (Nat.le_trans F2.out.2.2.2.2.2.1.size (Nat.le_refl _))) (And.intro hc9 (HE.out.2.2.2.trans (hbt9.mono (by simp)))))
      clear hc9 hbt9 htk9 hown9
      go_wp2_with fail
      go_ret2
      exact ⟨_, fa, fc, rfl, HR.out⟩
end Go.Proofs.Ytcbpdjenncbbeaa.Ip
/- The usual template's bytes. -/
namespace Go.Proofs.Ytcbpdjenncbbeaa.Ip
open Go.RowKit

def ExB (w W : World) : Prop := Below w.heap.size w W
theorem bt_own' {w : World} {base : Nat} {v : Value} {l : List Nat} (h : RB.Own w base v l) : ∃ oa c, v = .slice oa l.length c ∧ RB.Sl w oa l.length c l ∧ (oa = none → c = 0) := by
  obtain ⟨oa, c, h1, h2, h3⟩ := h.sl0
  exact ⟨oa, c, h1, h2, h3⟩
set_option maxRecDepth 100000 in
set_option maxHeartbeats 16000000 in
theorem putu_us {w : World} {oa fa : Option Addr} {c fc : Nat} (h : TmsOk w ⟨oa, 1, c, [((300 : Int), (⟨fa, 2, fc, usF⟩ : SlV (Int × Int)))]⟩) : Calls Try.prog 37 #[.slice oa 1 c] w fun e w' => ∃ v, e = .returned v ∧ RB.Own w' w.heap.size v usB ∧ Below w.heap.size w w' := by
  have h : SlOk RTm TmOk w ⟨oa, 1, c, [((300 : Int), (⟨fa, 2, fc, usF⟩ : SlV (Int × Int)))]⟩ := h
  obtain ⟨tb, tof, rfl, hrw⟩ := h.sl.row Nat.one_pos
  have hat := hrw.get 0 (by simp)
  have c0 := hat 0 (by decide)
  have c1 := hat 1 (by decide)
  rw [Nat.zero_mul, Nat.add_zero] at c0 c1
  simp only [RTm, List.getD_cons_zero, List.getElem?_cons_zero, List.getElem?_cons_succ] at c0 c1
  have hfd : FdsOk w ⟨fa, 2, fc, [(12, 4), (1, 4)]⟩ := h.all ((300 : Int), (⟨fa, 2, fc, usF⟩ : SlV (Int × Int))) (by simp)
  obtain ⟨fb, fo, rfl, hfb, ⟨c2, c3⟩, c4, c5⟩ := us_cells hfd.sl
  have htb := hrw.lt
  simp only [Nat.one_mul] at c4 c5
  have HC := Lib.hid (show ∀ W, ExB w W → (W.cell? ⟨tb, tof, none⟩ = some (.int .i64 300) ∧ W.cell? ⟨tb, tof + 1, none⟩ = some (.slice (some ⟨fb, fo, none⟩) 2 fc)) ∧ (W.cell? ⟨fb, fo, none⟩ = some (.int .i64 12) ∧ W.cell? ⟨fb, fo + 1, none⟩ = some (.int .i64 4)) ∧ W.cell? ⟨fb, fo + 2, none⟩ = some (.int .i64 1) ∧ W.cell? ⟨fb, fo + 2 + 1, none⟩ = some (.int .i64 4) from fun W hW => by
    have k1 : W.heap[tb]? = w.heap[tb]? := Below.block hW _ htb
    have k2 : W.heap[fb]? = w.heap[fb]? := Below.block hW _ hfb
    exact ⟨⟨(cell_same k1).trans c0, (cell_same k1).trans c1⟩, ⟨(cell_same k2).trans c2, (cell_same k2).trans c3⟩, (cell_same k2).trans c4, (cell_same k2).trans c5⟩)
  clear h hrw hat c0 c1 c2 c3 c4 c5 hfd hfb htb
  go_enter Try.func37, Try.ntmps37
  go_wp2_with fail
  go_loopw [3, 4] (fun ov iv wr => (iv = .int .i64 0 ∧ ov = .slice none 0 0 ∧ wr = w) ∨ (iv = .int .i64 1 ∧ RB.Own wr w.heap.size ov usB ∧ Below w.heap.size w wr)) (fun _ iv _ => 1 - (intOf iv).toNat)
  case atStart => exact .inl ⟨rfl, rfl, rfl⟩
  case round =>
    rcases hrel with ⟨rfl, rfl, hwr⟩ | ⟨rfl, hown, hb⟩
    · have hwr := hwr.symm
      subst hwr
      have F0 := Lib.hid (And.intro (Below.refl w.heap.size w) (show RB.Own w w.heap.size (.slice none 0 0) ([] : List Nat) from Rep.Own.nil _ _))
      go_wp2_with fail
      refine wp_region_heldP (ExB w) (by kernel_rfl) ?_
      have hdr := (Below.refl w.heap.size w).drew
      have F1 := Lib.hid (And.intro (bcall F0.out.1 (Nat.le_refl _) hdr) ((F0.out.2.below hdr)))
      clear F0
      clear hdr
      generalize w.drew = Vr0 at *
      refine held_reads [0, 1, 2, 3, 4, 5, 8, 9, 10, 11, 12, 13] (g := 5) rfl (by kernel_rfl) F1.out.1 (fun _ _ d _ _ h => by cases d <;> exact h) ?_
      simp only [pick, List.getD_cons_zero, List.getD_cons_succ]
      ((with_reducible refine wpRead_step (fun K hK => ?_)); go_simp; first | ((with_reducible refine hK _ ?_); clear hK K) | (apply Exists.intro; (with_reducible refine ⟨fun w' hw' => ?_, hK _ ?_⟩); ((obtain ⟨⟨e0, e1⟩, ⟨e2, e3⟩, e4, e5⟩ := HC.out w' hw'; go_simp; first | exact rfl | exact ⟨rfl, rfl⟩)); clear hK K))
      ((with_reducible refine wpRead_step (fun K hK => ?_)); go_simp; first | ((with_reducible refine hK _ ?_); clear hK K) | (apply Exists.intro; (with_reducible refine ⟨fun w' hw' => ?_, hK _ ?_⟩); ((obtain ⟨⟨e0, e1⟩, ⟨e2, e3⟩, e4, e5⟩ := HC.out w' hw'; go_simp; first | exact rfl | exact ⟨rfl, rfl⟩)); clear hK K))
      ((with_reducible refine wpRead_step (fun K hK => ?_)); go_simp; first | ((with_reducible refine hK _ ?_); clear hK K) | (apply Exists.intro; (with_reducible refine ⟨fun w' hw' => ?_, hK _ ?_⟩); ((obtain ⟨⟨e0, e1⟩, ⟨e2, e3⟩, e4, e5⟩ := HC.out w' hw'; go_simp; first | exact rfl | exact ⟨rfl, rfl⟩)); clear hK K))
      ((with_reducible refine wpRead_step (fun K hK => ?_)); go_simp; first | ((with_reducible refine hK _ ?_); clear hK K) | (apply Exists.intro; (with_reducible refine ⟨fun w' hw' => ?_, hK _ ?_⟩); ((obtain ⟨⟨e0, e1⟩, ⟨e2, e3⟩, e4, e5⟩ := HC.out w' hw'; go_simp; first | exact rfl | exact ⟨rfl, rfl⟩)); clear hK K))
      ((with_reducible refine wpRead_step (fun K hK => ?_)); go_simp; first | ((with_reducible refine hK _ ?_); clear hK K) | (apply Exists.intro; (with_reducible refine ⟨fun w' hw' => ?_, hK _ ?_⟩); ((obtain ⟨⟨e0, e1⟩, ⟨e2, e3⟩, e4, e5⟩ := HC.out w' hw'; go_simp; first | exact rfl | exact ⟨rfl, rfl⟩)); clear hK K))
      ((with_reducible refine wpRead_step (fun K hK => ?_)); go_simp; first | ((with_reducible refine hK _ ?_); clear hK K) | (apply Exists.intro; (with_reducible refine ⟨fun w' hw' => ?_, hK _ ?_⟩); ((obtain ⟨⟨e0, e1⟩, ⟨e2, e3⟩, e4, e5⟩ := HC.out w' hw'; go_simp; first | exact rfl | exact ⟨rfl, rfl⟩)); clear hK K))
      ((with_reducible refine wpRead_step (fun K hK => ?_)); go_simp; first | ((with_reducible refine hK _ ?_); clear hK K) | (apply Exists.intro; (with_reducible refine ⟨fun w' hw' => ?_, hK _ ?_⟩); ((obtain ⟨⟨e0, e1⟩, ⟨e2, e3⟩, e4, e5⟩ := HC.out w' hw'; go_simp; first | exact rfl | exact ⟨rfl, rfl⟩)); clear hK K))
      ((with_reducible refine wpRead_step (fun K hK => ?_)); go_simp; first | ((with_reducible refine hK _ ?_); clear hK K) | (apply Exists.intro; (with_reducible refine ⟨fun w' hw' => ?_, hK _ ?_⟩); ((obtain ⟨⟨e0, e1⟩, ⟨e2, e3⟩, e4, e5⟩ := HC.out w' hw'; go_simp; first | exact rfl | exact ⟨rfl, rfl⟩)); clear hK K))
      ((with_reducible refine wpRead_step (fun K hK => ?_)); go_simp; first | ((with_reducible refine hK _ ?_); clear hK K) | (apply Exists.intro; (with_reducible refine ⟨fun w' hw' => ?_, hK _ ?_⟩); ((obtain ⟨⟨e0, e1⟩, ⟨e2, e3⟩, e4, e5⟩ := HC.out w' hw'; go_simp; first | exact rfl | exact ⟨rfl, rfl⟩)); clear hK K))
      ((with_reducible refine wpRead_step (fun K hK => ?_)); go_simp; first | ((with_reducible refine hK _ ?_); clear hK K) | (apply Exists.intro; (with_reducible refine ⟨fun w' hw' => ?_, hK _ ?_⟩); ((obtain ⟨⟨e0, e1⟩, ⟨e2, e3⟩, e4, e5⟩ := HC.out w' hw'; go_simp; first | exact rfl | exact ⟨rfl, rfl⟩)); clear hK K))
      ((with_reducible refine wpRead_step (fun K hK => ?_)); go_simp; first | ((with_reducible refine hK _ ?_); clear hK K) | (apply Exists.intro; (with_reducible refine ⟨fun w' hw' => ?_, hK _ ?_⟩); ((obtain ⟨⟨e0, e1⟩, ⟨e2, e3⟩, e4, e5⟩ := HC.out w' hw'; go_simp; first | exact rfl | exact ⟨rfl, rfl⟩)); clear hK K))
      ((with_reducible refine wpRead_step (fun K hK => ?_)); go_simp; first | ((with_reducible refine hK _ ?_); clear hK K) | (apply Exists.intro; (with_reducible refine ⟨fun w' hw' => ?_, hK _ ?_⟩); ((obtain ⟨⟨e0, e1⟩, ⟨e2, e3⟩, e4, e5⟩ := HC.out w' hw'; go_simp; first | exact rfl | exact ⟨rfl, rfl⟩)); clear hK K))
      with_reducible refine wpRead_nil ?_
      refine held_one 6 (by kernel_rfl) ?_
      simp only [pick, List.getD_cons_zero, List.getD_cons_succ]
      go_wp2_with fail
      refine (two_any 300 (by decide) _).mono ?_
      rw [show be 2 300 = [1, 44] from by decide]
      rintro e V1 ⟨v, rfl, ho, hb⟩
      obtain ⟨a1, c1, rfl, hx, hxn⟩ := bt_own' ho
      have F2 := Lib.hid (And.intro (bcall F1.out.1 (Nat.le_refl _) hb) (And.intro (F1.out.2.below hb) (And.intro hx (hxn))))
      clear F1
      clear hb ho hx hxn
      go_wp2_with fail
      refine ⟨F2.out.1, ?_⟩
      refine held_one 7 (by kernel_rfl) ?_
      simp only [pick, List.getD_cons_zero, List.getD_cons_succ]
      go_wp2_with (at_builtin; refine halt ?_)
      refine Halted.go ?_
      refine Rep.append_list T27 rfl _ _ rfl rfl F2.out.2.1 (M := [1, 44]) rfl F2.out.2.2.1 F2.out.2.2.2 (by decide) (by decide) F2.out.1.size ?_
      intro v2 V2 ho hb _
      have ho : RB.Own V2 w.heap.size v2 [1, 44] := ho
      obtain ⟨b2, d2, rfl, -, -⟩ := ho.sl0
      have hbb := F2.out.1.trans hb
      have F3 := Lib.hid (And.intro hbb (ho))
      clear F2
      clear hbb ho hb
      go_wp2_with fail
      refine ⟨F3.out.1, ?_⟩
      refine held_one 14 (by kernel_rfl) ?_
      simp only [pick, List.getD_cons_zero, List.getD_cons_succ]
      go_wp2_with fail
      refine (two_any 2 (by decide) _).mono ?_
      rw [show be 2 2 = [0, 2] from by decide]
      rintro e V3 ⟨v, rfl, ho, hb⟩
      obtain ⟨a3, c3, rfl, hx, hxn⟩ := bt_own' ho
      have F4 := Lib.hid (And.intro (bcall F3.out.1 (Nat.le_refl _) hb) (And.intro (F3.out.2.below hb) (And.intro hx (hxn))))
      clear F3
      clear hb ho hx hxn
      go_wp2_with fail
      refine ⟨F4.out.1, ?_⟩
      refine held_one 15 (by kernel_rfl) ?_
      simp only [pick, List.getD_cons_zero, List.getD_cons_succ]
      go_wp2_with (at_builtin; refine halt ?_)
      refine Halted.go ?_
      refine Rep.append_list T27 rfl _ _ rfl rfl F4.out.2.1 (M := [0, 2]) rfl F4.out.2.2.1 F4.out.2.2.2 (by decide) (by decide) F4.out.1.size ?_
      intro v4 V4 ho hb _
      have ho : RB.Own V4 w.heap.size v4 [1, 44, 0, 2] := ho
      obtain ⟨b4, d4, rfl, -, -⟩ := ho.sl0
      have hbb := F4.out.1.trans hb
      have F5 := Lib.hid (And.intro hbb (ho))
      clear F4
      clear hbb ho hb
      go_wp2_with fail
      refine ⟨F5.out.1, ?_⟩
      refine held_one 16 (by kernel_rfl) ?_
      simp only [pick, List.getD_cons_zero, List.getD_cons_succ]
      go_wp2_with fail
      refine ⟨F5.out.1, ?_⟩
      refine wpAnyH_done (by kernel_rfl) ?_ _
      go_wp2_with fail
      go_loopw [3, 5] (fun ov jv wr => (jv = .int .i64 0 ∧ RB.Own wr w.heap.size ov [1, 44, 0, 2] ∧ Below w.heap.size w wr) ∨ (jv = .int .i64 1 ∧ RB.Own wr w.heap.size ov [1, 44, 0, 2, 0, 12, 0, 4] ∧ Below w.heap.size w wr) ∨ (jv = .int .i64 2 ∧ RB.Own wr w.heap.size ov usB ∧ Below w.heap.size w wr)) (fun _ jv _ => 2 - (intOf jv).toNat)
      case atStart => exact .inl ⟨rfl, F5.out.2, F5.out.1⟩
      case round =>
        rcases hrel with ⟨rfl, hown, hb⟩ | ⟨rfl, hown, hb⟩ | ⟨rfl, hown, hb⟩
        · obtain ⟨w2, rfl⟩ : ∃ w2 : World, w2 = wr := ⟨_, rfl⟩
          obtain ⟨⟨c0, c1⟩, -⟩ := HC.out w2 hb
          obtain ⟨oe, ce, rfl, -, -⟩ := hown.sl0
          have GJ := Lib.hid (And.intro hb hown)
          clear hown hb
          go_wp2_with fail
          refine wp_region_heldP (ExB w) (by kernel_rfl) ?_
          clear c0 c1
          have hdr := (Below.refl w2.heap.size w2).drew
          have F6 := Lib.hid (And.intro (bcall GJ.out.1 (Nat.le_refl _) hdr) ((GJ.out.2.below hdr)))
          clear GJ
          clear hdr
          generalize w2.drew = Vr4 at *
          refine held_reads [0, 1, 2, 3, 4, 5, 6, 7, 8, 9, 12, 13, 14, 15, 16, 17, 18, 19, 20] (g := 5) rfl (by kernel_rfl) F6.out.1 (fun _ _ d _ _ h => by cases d <;> exact h) ?_
          simp only [pick, List.getD_cons_zero, List.getD_cons_succ]
          ((with_reducible refine wpRead_step (fun K hK => ?_)); go_simp; first | ((with_reducible refine hK _ ?_); clear hK K) | (apply Exists.intro; (with_reducible refine ⟨fun w' hw' => ?_, hK _ ?_⟩); ((obtain ⟨⟨e0, e1⟩, ⟨e2, e3⟩, e4, e5⟩ := HC.out w' hw'; go_simp; first | exact rfl | exact ⟨rfl, rfl⟩)); clear hK K))
          ((with_reducible refine wpRead_step (fun K hK => ?_)); go_simp; first | ((with_reducible refine hK _ ?_); clear hK K) | (apply Exists.intro; (with_reducible refine ⟨fun w' hw' => ?_, hK _ ?_⟩); ((obtain ⟨⟨e0, e1⟩, ⟨e2, e3⟩, e4, e5⟩ := HC.out w' hw'; go_simp; first | exact rfl | exact ⟨rfl, rfl⟩)); clear hK K))
          ((with_reducible refine wpRead_step (fun K hK => ?_)); go_simp; first | ((with_reducible refine hK _ ?_); clear hK K) | (apply Exists.intro; (with_reducible refine ⟨fun w' hw' => ?_, hK _ ?_⟩); ((obtain ⟨⟨e0, e1⟩, ⟨e2, e3⟩, e4, e5⟩ := HC.out w' hw'; go_simp; first | exact rfl | exact ⟨rfl, rfl⟩)); clear hK K))
          ((with_reducible refine wpRead_step (fun K hK => ?_)); go_simp; first | ((with_reducible refine hK _ ?_); clear hK K) | (apply Exists.intro; (with_reducible refine ⟨fun w' hw' => ?_, hK _ ?_⟩); ((obtain ⟨⟨e0, e1⟩, ⟨e2, e3⟩, e4, e5⟩ := HC.out w' hw'; go_simp; first | exact rfl | exact ⟨rfl, rfl⟩)); clear hK K))
          ((with_reducible refine wpRead_step (fun K hK => ?_)); go_simp; first | ((with_reducible refine hK _ ?_); clear hK K) | (apply Exists.intro; (with_reducible refine ⟨fun w' hw' => ?_, hK _ ?_⟩); ((obtain ⟨⟨e0, e1⟩, ⟨e2, e3⟩, e4, e5⟩ := HC.out w' hw'; go_simp; first | exact rfl | exact ⟨rfl, rfl⟩)); clear hK K))
          ((with_reducible refine wpRead_step (fun K hK => ?_)); go_simp; first | ((with_reducible refine hK _ ?_); clear hK K) | (apply Exists.intro; (with_reducible refine ⟨fun w' hw' => ?_, hK _ ?_⟩); ((obtain ⟨⟨e0, e1⟩, ⟨e2, e3⟩, e4, e5⟩ := HC.out w' hw'; go_simp; first | exact rfl | exact ⟨rfl, rfl⟩)); clear hK K))
          ((with_reducible refine wpRead_step (fun K hK => ?_)); go_simp; first | ((with_reducible refine hK _ ?_); clear hK K) | (apply Exists.intro; (with_reducible refine ⟨fun w' hw' => ?_, hK _ ?_⟩); ((obtain ⟨⟨e0, e1⟩, ⟨e2, e3⟩, e4, e5⟩ := HC.out w' hw'; go_simp; first | exact rfl | exact ⟨rfl, rfl⟩)); clear hK K))
          ((with_reducible refine wpRead_step (fun K hK => ?_)); go_simp; first | ((with_reducible refine hK _ ?_); clear hK K) | (apply Exists.intro; (with_reducible refine ⟨fun w' hw' => ?_, hK _ ?_⟩); ((obtain ⟨⟨e0, e1⟩, ⟨e2, e3⟩, e4, e5⟩ := HC.out w' hw'; go_simp; first | exact rfl | exact ⟨rfl, rfl⟩)); clear hK K))
          ((with_reducible refine wpRead_step (fun K hK => ?_)); go_simp; first | ((with_reducible refine hK _ ?_); clear hK K) | (apply Exists.intro; (with_reducible refine ⟨fun w' hw' => ?_, hK _ ?_⟩); ((obtain ⟨⟨e0, e1⟩, ⟨e2, e3⟩, e4, e5⟩ := HC.out w' hw'; go_simp; first | exact rfl | exact ⟨rfl, rfl⟩)); clear hK K))
          ((with_reducible refine wpRead_step (fun K hK => ?_)); go_simp; first | ((with_reducible refine hK _ ?_); clear hK K) | (apply Exists.intro; (with_reducible refine ⟨fun w' hw' => ?_, hK _ ?_⟩); ((obtain ⟨⟨e0, e1⟩, ⟨e2, e3⟩, e4, e5⟩ := HC.out w' hw'; go_simp; first | exact rfl | exact ⟨rfl, rfl⟩)); clear hK K))
          ((with_reducible refine wpRead_step (fun K hK => ?_)); go_simp; first | ((with_reducible refine hK _ ?_); clear hK K) | (apply Exists.intro; (with_reducible refine ⟨fun w' hw' => ?_, hK _ ?_⟩); ((obtain ⟨⟨e0, e1⟩, ⟨e2, e3⟩, e4, e5⟩ := HC.out w' hw'; go_simp; first | exact rfl | exact ⟨rfl, rfl⟩)); clear hK K))
          ((with_reducible refine wpRead_step (fun K hK => ?_)); go_simp; first | ((with_reducible refine hK _ ?_); clear hK K) | (apply Exists.intro; (with_reducible refine ⟨fun w' hw' => ?_, hK _ ?_⟩); ((obtain ⟨⟨e0, e1⟩, ⟨e2, e3⟩, e4, e5⟩ := HC.out w' hw'; go_simp; first | exact rfl | exact ⟨rfl, rfl⟩)); clear hK K))
          ((with_reducible refine wpRead_step (fun K hK => ?_)); go_simp; first | ((with_reducible refine hK _ ?_); clear hK K) | (apply Exists.intro; (with_reducible refine ⟨fun w' hw' => ?_, hK _ ?_⟩); ((obtain ⟨⟨e0, e1⟩, ⟨e2, e3⟩, e4, e5⟩ := HC.out w' hw'; go_simp; first | exact rfl | exact ⟨rfl, rfl⟩)); clear hK K))
          ((with_reducible refine wpRead_step (fun K hK => ?_)); go_simp; first | ((with_reducible refine hK _ ?_); clear hK K) | (apply Exists.intro; (with_reducible refine ⟨fun w' hw' => ?_, hK _ ?_⟩); ((obtain ⟨⟨e0, e1⟩, ⟨e2, e3⟩, e4, e5⟩ := HC.out w' hw'; go_simp; first | exact rfl | exact ⟨rfl, rfl⟩)); clear hK K))
          ((with_reducible refine wpRead_step (fun K hK => ?_)); go_simp; first | ((with_reducible refine hK _ ?_); clear hK K) | (apply Exists.intro; (with_reducible refine ⟨fun w' hw' => ?_, hK _ ?_⟩); ((obtain ⟨⟨e0, e1⟩, ⟨e2, e3⟩, e4, e5⟩ := HC.out w' hw'; go_simp; first | exact rfl | exact ⟨rfl, rfl⟩)); clear hK K))
          ((with_reducible refine wpRead_step (fun K hK => ?_)); go_simp; first | ((with_reducible refine hK _ ?_); clear hK K) | (apply Exists.intro; (with_reducible refine ⟨fun w' hw' => ?_, hK _ ?_⟩); ((obtain ⟨⟨e0, e1⟩, ⟨e2, e3⟩, e4, e5⟩ := HC.out w' hw'; go_simp; first | exact rfl | exact ⟨rfl, rfl⟩)); clear hK K))
          ((with_reducible refine wpRead_step (fun K hK => ?_)); go_simp; first | ((with_reducible refine hK _ ?_); clear hK K) | (apply Exists.intro; (with_reducible refine ⟨fun w' hw' => ?_, hK _ ?_⟩); ((obtain ⟨⟨e0, e1⟩, ⟨e2, e3⟩, e4, e5⟩ := HC.out w' hw'; go_simp; first | exact rfl | exact ⟨rfl, rfl⟩)); clear hK K))
          ((with_reducible refine wpRead_step (fun K hK => ?_)); go_simp; first | ((with_reducible refine hK _ ?_); clear hK K) | (apply Exists.intro; (with_reducible refine ⟨fun w' hw' => ?_, hK _ ?_⟩); ((obtain ⟨⟨e0, e1⟩, ⟨e2, e3⟩, e4, e5⟩ := HC.out w' hw'; go_simp; first | exact rfl | exact ⟨rfl, rfl⟩)); clear hK K))
          ((with_reducible refine wpRead_step (fun K hK => ?_)); go_simp; first | ((with_reducible refine hK _ ?_); clear hK K) | (apply Exists.intro; (with_reducible refine ⟨fun w' hw' => ?_, hK _ ?_⟩); ((obtain ⟨⟨e0, e1⟩, ⟨e2, e3⟩, e4, e5⟩ := HC.out w' hw'; go_simp; first | exact rfl | exact ⟨rfl, rfl⟩)); clear hK K))
          with_reducible refine wpRead_nil ?_
          refine held_one 10 (by kernel_rfl) ?_
          simp only [pick, List.getD_cons_zero, List.getD_cons_succ]
          go_wp2_with fail
          refine (two_any 12 (by decide) _).mono ?_
          rw [show be 2 12 = [0, 12] from by decide]
          rintro e V5 ⟨v, rfl, ho, hb⟩
          obtain ⟨a5, c5, rfl, hx, hxn⟩ := bt_own' ho
          have F7 := Lib.hid (And.intro (bcall F6.out.1 (Nat.le_refl _) hb) (And.intro (F6.out.2.below hb) (And.intro hx (hxn))))
          clear F6
          clear hb ho hx hxn
          go_wp2_with fail
          refine ⟨F7.out.1, ?_⟩
          refine held_one 11 (by kernel_rfl) ?_
          simp only [pick, List.getD_cons_zero, List.getD_cons_succ]
          go_wp2_with (at_builtin; refine halt ?_)
          refine Halted.go ?_
          refine Rep.append_list T27 rfl _ _ rfl rfl F7.out.2.1 (M := [0, 12]) rfl F7.out.2.2.1 F7.out.2.2.2 (by decide) (by decide) F7.out.1.size ?_
          intro v6 V6 ho hb _
          have ho : RB.Own V6 w.heap.size v6 [1, 44, 0, 2, 0, 12] := ho
          obtain ⟨b6, d6, rfl, -, -⟩ := ho.sl0
          have hbb := F7.out.1.trans hb
          have F8 := Lib.hid (And.intro hbb (ho))
          clear F7
          clear hbb ho hb
          go_wp2_with fail
          refine ⟨F8.out.1, ?_⟩
          refine held_one 21 (by kernel_rfl) ?_
          simp only [pick, List.getD_cons_zero, List.getD_cons_succ]
          go_wp2_with fail
          refine (two_any 4 (by decide) _).mono ?_
          rw [show be 2 4 = [0, 4] from by decide]
          rintro e V7 ⟨v, rfl, ho, hb⟩
          obtain ⟨a7, c7, rfl, hx, hxn⟩ := bt_own' ho
          have F9 := Lib.hid (And.intro (bcall F8.out.1 (Nat.le_refl _) hb) (And.intro (F8.out.2.below hb) (And.intro hx (hxn))))
          clear F8
          clear hb ho hx hxn
          go_wp2_with fail
          refine ⟨F9.out.1, ?_⟩
          refine held_one 22 (by kernel_rfl) ?_
          simp only [pick, List.getD_cons_zero, List.getD_cons_succ]
          go_wp2_with (at_builtin; refine halt ?_)
          refine Halted.go ?_
          refine Rep.append_list T27 rfl _ _ rfl rfl F9.out.2.1 (M := [0, 4]) rfl F9.out.2.2.1 F9.out.2.2.2 (by decide) (by decide) F9.out.1.size ?_
          intro v8 V8 ho hb _
          have ho : RB.Own V8 w.heap.size v8 [1, 44, 0, 2, 0, 12, 0, 4] := ho
          obtain ⟨b8, d8, rfl, -, -⟩ := ho.sl0
          have hbb := F9.out.1.trans hb
          have F10 := Lib.hid (And.intro hbb (ho))
          clear F9
          clear hbb ho hb
          go_wp2_with fail
          refine ⟨F10.out.1, ?_⟩
          refine held_one 23 (by kernel_rfl) ?_
          simp only [pick, List.getD_cons_zero, List.getD_cons_succ]
          go_wp2_with fail
          refine ⟨F10.out.1, ?_⟩
          refine wpAnyH_done (by kernel_rfl) ?_ _
          go_wp2_with fail
          exact ⟨.inr (.inl ⟨rfl, F10.out.2, F10.out.1⟩), by decide⟩
        · obtain ⟨w2, rfl⟩ : ∃ w2 : World, w2 = wr := ⟨_, rfl⟩
          obtain ⟨⟨c0, c1⟩, -⟩ := HC.out w2 hb
          obtain ⟨oe, ce, rfl, -, -⟩ := hown.sl0
          have GJ := Lib.hid (And.intro hb hown)
          clear hown hb
          go_wp2_with fail
          refine wp_region_heldP (ExB w) (by kernel_rfl) ?_
          clear c0 c1
          have hdr := (Below.refl w2.heap.size w2).drew
          have F11 := Lib.hid (And.intro (bcall GJ.out.1 (Nat.le_refl _) hdr) ((GJ.out.2.below hdr)))
          clear GJ
          clear hdr
          generalize w2.drew = Vr8 at *
          refine held_reads [0, 1, 2, 3, 4, 5, 6, 7, 8, 9, 12, 13, 14, 15, 16, 17, 18, 19, 20] (g := 5) rfl (by kernel_rfl) F11.out.1 (fun _ _ d _ _ h => by cases d <;> exact h) ?_
          simp only [pick, List.getD_cons_zero, List.getD_cons_succ]
          ((with_reducible refine wpRead_step (fun K hK => ?_)); go_simp; first | ((with_reducible refine hK _ ?_); clear hK K) | (apply Exists.intro; (with_reducible refine ⟨fun w' hw' => ?_, hK _ ?_⟩); ((obtain ⟨⟨e0, e1⟩, ⟨e2, e3⟩, e4, e5⟩ := HC.out w' hw'; go_simp; first | exact rfl | exact ⟨rfl, rfl⟩)); clear hK K))
          ((with_reducible refine wpRead_step (fun K hK => ?_)); go_simp; first | ((with_reducible refine hK _ ?_); clear hK K) | (apply Exists.intro; (with_reducible refine ⟨fun w' hw' => ?_, hK _ ?_⟩); ((obtain ⟨⟨e0, e1⟩, ⟨e2, e3⟩, e4, e5⟩ := HC.out w' hw'; go_simp; first | exact rfl | exact ⟨rfl, rfl⟩)); clear hK K))
          ((with_reducible refine wpRead_step (fun K hK => ?_)); go_simp; first | ((with_reducible refine hK _ ?_); clear hK K) | (apply Exists.intro; (with_reducible refine ⟨fun w' hw' => ?_, hK _ ?_⟩); ((obtain ⟨⟨e0, e1⟩, ⟨e2, e3⟩, e4, e5⟩ := HC.out w' hw'; go_simp; first | exact rfl | exact ⟨rfl, rfl⟩)); clear hK K))
          ((with_reducible refine wpRead_step (fun K hK => ?_)); go_simp; first | ((with_reducible refine hK _ ?_); clear hK K) | (apply Exists.intro; (with_reducible refine ⟨fun w' hw' => ?_, hK _ ?_⟩); ((obtain ⟨⟨e0, e1⟩, ⟨e2, e3⟩, e4, e5⟩ := HC.out w' hw'; go_simp; first | exact rfl | exact ⟨rfl, rfl⟩)); clear hK K))
          ((with_reducible refine wpRead_step (fun K hK => ?_)); go_simp; first | ((with_reducible refine hK _ ?_); clear hK K) | (apply Exists.intro; (with_reducible refine ⟨fun w' hw' => ?_, hK _ ?_⟩); ((obtain ⟨⟨e0, e1⟩, ⟨e2, e3⟩, e4, e5⟩ := HC.out w' hw'; go_simp; first | exact rfl | exact ⟨rfl, rfl⟩)); clear hK K))
          ((with_reducible refine wpRead_step (fun K hK => ?_)); go_simp; first | ((with_reducible refine hK _ ?_); clear hK K) | (apply Exists.intro; (with_reducible refine ⟨fun w' hw' => ?_, hK _ ?_⟩); ((obtain ⟨⟨e0, e1⟩, ⟨e2, e3⟩, e4, e5⟩ := HC.out w' hw'; go_simp; first | exact rfl | exact ⟨rfl, rfl⟩)); clear hK K))
          ((with_reducible refine wpRead_step (fun K hK => ?_)); go_simp; first | ((with_reducible refine hK _ ?_); clear hK K) | (apply Exists.intro; (with_reducible refine ⟨fun w' hw' => ?_, hK _ ?_⟩); ((obtain ⟨⟨e0, e1⟩, ⟨e2, e3⟩, e4, e5⟩ := HC.out w' hw'; go_simp; first | exact rfl | exact ⟨rfl, rfl⟩)); clear hK K))
          ((with_reducible refine wpRead_step (fun K hK => ?_)); go_simp; first | ((with_reducible refine hK _ ?_); clear hK K) | (apply Exists.intro; (with_reducible refine ⟨fun w' hw' => ?_, hK _ ?_⟩); ((obtain ⟨⟨e0, e1⟩, ⟨e2, e3⟩, e4, e5⟩ := HC.out w' hw'; go_simp; first | exact rfl | exact ⟨rfl, rfl⟩)); clear hK K))
          ((with_reducible refine wpRead_step (fun K hK => ?_)); go_simp; first | ((with_reducible refine hK _ ?_); clear hK K) | (apply Exists.intro; (with_reducible refine ⟨fun w' hw' => ?_, hK _ ?_⟩); ((obtain ⟨⟨e0, e1⟩, ⟨e2, e3⟩, e4, e5⟩ := HC.out w' hw'; go_simp; first | exact rfl | exact ⟨rfl, rfl⟩)); clear hK K))
          ((with_reducible refine wpRead_step (fun K hK => ?_)); go_simp; first | ((with_reducible refine hK _ ?_); clear hK K) | (apply Exists.intro; (with_reducible refine ⟨fun w' hw' => ?_, hK _ ?_⟩); ((obtain ⟨⟨e0, e1⟩, ⟨e2, e3⟩, e4, e5⟩ := HC.out w' hw'; go_simp; first | exact rfl | exact ⟨rfl, rfl⟩)); clear hK K))
          ((with_reducible refine wpRead_step (fun K hK => ?_)); go_simp; first | ((with_reducible refine hK _ ?_); clear hK K) | (apply Exists.intro; (with_reducible refine ⟨fun w' hw' => ?_, hK _ ?_⟩); ((obtain ⟨⟨e0, e1⟩, ⟨e2, e3⟩, e4, e5⟩ := HC.out w' hw'; go_simp; first | exact rfl | exact ⟨rfl, rfl⟩)); clear hK K))
          ((with_reducible refine wpRead_step (fun K hK => ?_)); go_simp; first | ((with_reducible refine hK _ ?_); clear hK K) | (apply Exists.intro; (with_reducible refine ⟨fun w' hw' => ?_, hK _ ?_⟩); ((obtain ⟨⟨e0, e1⟩, ⟨e2, e3⟩, e4, e5⟩ := HC.out w' hw'; go_simp; first | exact rfl | exact ⟨rfl, rfl⟩)); clear hK K))
          ((with_reducible refine wpRead_step (fun K hK => ?_)); go_simp; first | ((with_reducible refine hK _ ?_); clear hK K) | (apply Exists.intro; (with_reducible refine ⟨fun w' hw' => ?_, hK _ ?_⟩); ((obtain ⟨⟨e0, e1⟩, ⟨e2, e3⟩, e4, e5⟩ := HC.out w' hw'; go_simp; first | exact rfl | exact ⟨rfl, rfl⟩)); clear hK K))
          ((with_reducible refine wpRead_step (fun K hK => ?_)); go_simp; first | ((with_reducible refine hK _ ?_); clear hK K) | (apply Exists.intro; (with_reducible refine ⟨fun w' hw' => ?_, hK _ ?_⟩); ((obtain ⟨⟨e0, e1⟩, ⟨e2, e3⟩, e4, e5⟩ := HC.out w' hw'; go_simp; first | exact rfl | exact ⟨rfl, rfl⟩)); clear hK K))
          ((with_reducible refine wpRead_step (fun K hK => ?_)); go_simp; first | ((with_reducible refine hK _ ?_); clear hK K) | (apply Exists.intro; (with_reducible refine ⟨fun w' hw' => ?_, hK _ ?_⟩); ((obtain ⟨⟨e0, e1⟩, ⟨e2, e3⟩, e4, e5⟩ := HC.out w' hw'; go_simp; first | exact rfl | exact ⟨rfl, rfl⟩)); clear hK K))
          ((with_reducible refine wpRead_step (fun K hK => ?_)); go_simp; first | ((with_reducible refine hK _ ?_); clear hK K) | (apply Exists.intro; (with_reducible refine ⟨fun w' hw' => ?_, hK _ ?_⟩); ((obtain ⟨⟨e0, e1⟩, ⟨e2, e3⟩, e4, e5⟩ := HC.out w' hw'; go_simp; first | exact rfl | exact ⟨rfl, rfl⟩)); clear hK K))
          ((with_reducible refine wpRead_step (fun K hK => ?_)); go_simp; first | ((with_reducible refine hK _ ?_); clear hK K) | (apply Exists.intro; (with_reducible refine ⟨fun w' hw' => ?_, hK _ ?_⟩); ((obtain ⟨⟨e0, e1⟩, ⟨e2, e3⟩, e4, e5⟩ := HC.out w' hw'; go_simp; first | exact rfl | exact ⟨rfl, rfl⟩)); clear hK K))
          ((with_reducible refine wpRead_step (fun K hK => ?_)); go_simp; first | ((with_reducible refine hK _ ?_); clear hK K) | (apply Exists.intro; (with_reducible refine ⟨fun w' hw' => ?_, hK _ ?_⟩); ((obtain ⟨⟨e0, e1⟩, ⟨e2, e3⟩, e4, e5⟩ := HC.out w' hw'; go_simp; first | exact rfl | exact ⟨rfl, rfl⟩)); clear hK K))
          ((with_reducible refine wpRead_step (fun K hK => ?_)); go_simp; first | ((with_reducible refine hK _ ?_); clear hK K) | (apply Exists.intro; (with_reducible refine ⟨fun w' hw' => ?_, hK _ ?_⟩); ((obtain ⟨⟨e0, e1⟩, ⟨e2, e3⟩, e4, e5⟩ := HC.out w' hw'; go_simp; first | exact rfl | exact ⟨rfl, rfl⟩)); clear hK K))
          with_reducible refine wpRead_nil ?_
          refine held_one 10 (by kernel_rfl) ?_
          simp only [pick, List.getD_cons_zero, List.getD_cons_succ]
          go_wp2_with fail
          refine (two_any 1 (by decide) _).mono ?_
          rw [show be 2 1 = [0, 1] from by decide]
          rintro e V9 ⟨v, rfl, ho, hb⟩
          obtain ⟨a9, c9, rfl, hx, hxn⟩ := bt_own' ho
          have F12 := Lib.hid (And.intro (bcall F11.out.1 (Nat.le_refl _) hb) (And.intro (F11.out.2.below hb) (And.intro hx (hxn))))
          clear F11
          clear hb ho hx hxn
          go_wp2_with fail
          refine ⟨F12.out.1, ?_⟩
          refine held_one 11 (by kernel_rfl) ?_
          simp only [pick, List.getD_cons_zero, List.getD_cons_succ]
          go_wp2_with (at_builtin; refine halt ?_)
          refine Halted.go ?_
          refine Rep.append_list T27 rfl _ _ rfl rfl F12.out.2.1 (M := [0, 1]) rfl F12.out.2.2.1 F12.out.2.2.2 (by decide) (by decide) F12.out.1.size ?_
          intro v10 V10 ho hb _
          have ho : RB.Own V10 w.heap.size v10 [1, 44, 0, 2, 0, 12, 0, 4, 0, 1] := ho
          obtain ⟨b10, d10, rfl, -, -⟩ := ho.sl0
          have hbb := F12.out.1.trans hb
          have F13 := Lib.hid (And.intro hbb (ho))
          clear F12
          clear hbb ho hb
          go_wp2_with fail
          refine ⟨F13.out.1, ?_⟩
          refine held_one 21 (by kernel_rfl) ?_
          simp only [pick, List.getD_cons_zero, List.getD_cons_succ]
          go_wp2_with fail
          refine (two_any 4 (by decide) _).mono ?_
          rw [show be 2 4 = [0, 4] from by decide]
          rintro e V11 ⟨v, rfl, ho, hb⟩
          obtain ⟨a11, c11, rfl, hx, hxn⟩ := bt_own' ho
          have F14 := Lib.hid (And.intro (bcall F13.out.1 (Nat.le_refl _) hb) (And.intro (F13.out.2.below hb) (And.intro hx (hxn))))
          clear F13
          clear hb ho hx hxn
          go_wp2_with fail
          refine ⟨F14.out.1, ?_⟩
          refine held_one 22 (by kernel_rfl) ?_
          simp only [pick, List.getD_cons_zero, List.getD_cons_succ]
          go_wp2_with (at_builtin; refine halt ?_)
          refine Halted.go ?_
          refine Rep.append_list T27 rfl _ _ rfl rfl F14.out.2.1 (M := [0, 4]) rfl F14.out.2.2.1 F14.out.2.2.2 (by decide) (by decide) F14.out.1.size ?_
          intro v12 V12 ho hb _
          have ho : RB.Own V12 w.heap.size v12 usB := ho
          obtain ⟨b12, d12, rfl, -, -⟩ := ho.sl0
          have hbb := F14.out.1.trans hb
          have F15 := Lib.hid (And.intro hbb (ho))
          clear F14
          clear hbb ho hb
          go_wp2_with fail
          refine ⟨F15.out.1, ?_⟩
          refine held_one 23 (by kernel_rfl) ?_
          simp only [pick, List.getD_cons_zero, List.getD_cons_succ]
          go_wp2_with fail
          refine ⟨F15.out.1, ?_⟩
          refine wpAnyH_done (by kernel_rfl) ?_ _
          go_wp2_with fail
          exact ⟨.inr (.inr ⟨rfl, F15.out.2, F15.out.1⟩), by decide⟩
        · obtain ⟨w2, rfl⟩ : ∃ w2 : World, w2 = wr := ⟨_, rfl⟩
          obtain ⟨⟨c0, c1⟩, -⟩ := HC.out w2 hb
          obtain ⟨oe, ce, rfl, -, -⟩ := hown.sl0
          have G := Lib.hid (And.intro hown hb)
          have hul : usB.length = 12 := rfl
          clear hown hb
          go_wp2_with fail
          exact ⟨.inr ⟨rfl, G.out⟩, by decide⟩
    · obtain ⟨w2, rfl⟩ : ∃ w2 : World, w2 = wr := ⟨_, rfl⟩
      obtain ⟨oe, ce, rfl, -, -⟩ := hown.sl0
      have G := Lib.hid (And.intro hown hb)
      clear hown hb
      go_wp2_with fail
      go_ret
      exact ⟨_, rfl, G.out⟩
end Go.Proofs.Ytcbpdjenncbbeaa.Ip
