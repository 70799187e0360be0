/- Prefixes; Flush; nobody's tables. -/
import Derived.Test.YtadoflcomienoaaGreatZat
namespace Go.Proofs.YtadoflcomienoaaGreat
open Go.RowKit
open Go.ChangeMaps (setBlock)

theorem own_pk {w : World} {B : Nat} {v : Value} {L : List (Nat × Nat)} (h : Tm.RP.Own w B v L) : RPk.Own w B v (L.map fun q => pkN q.1 q.2) := by
  have e2 : RPk.flat (L.map fun q => pkN q.1 q.2) = Tm.RP.flat L := by
    unfold Rep.flat
    rw [List.flatMap_map]
    rfl
  show w.ownsRow B _ _ v _ _
  rw [List.length_map, e2]
  exact h
/-- the prefixes that have routes, in order -/
structure PfxOf (S : List Rt) (L : List PK) : Prop where
  ord : Kl.Ordered ltK L
  is : ∀ k, k ∈ L ↔ ∃ x ∈ S, x.k = k
theorem PfxOf.unique {S : List Rt} {L M : List PK} (h : PfxOf S L) (h' : PfxOf S M) : L = M := ordK_ext h.ord h'.ord fun k => (h.is k).trans (h'.is k).symm
section
variable {w : World} {R : Rb} {X : Nat → Prop} {n : Nat} {asn room ref : Int} {G : List RtV}
theorem tpx_any {W : World} {E : List ((Nat × Nat) × (Option Nat))} (ht : Tm.TrieM W R.bt R.N n R.M) (h1 : Tm.RefOk E R.M) (h2 : E.length = n) (hn : n ≤ 100000000) : Calls Tryz.prog 85 #[.pointer (some ⟨R.bt, 0, none⟩)] W fun e w' => ∃ v, e = .returned v ∧ RPk.Own w' W.heap.size v (E.map fun q => pkN q.1.1 q.1.2) ∧ Below W.heap.size W w' :=
  (Tm.prefixesEM (E := E) ⟨R.M, by rw [h2]; exact ht, h1⟩ (by omega)).mono fun e w' ⟨v, h3, h4, h5⟩ => ⟨v, h3, by have := own_pk h4; rwa [List.map_map] at this, h5⟩
theorem RibAt.pfx (H : RibAt w R X n asn room ref G) {E : List ((Nat × Nat) × (Option Nat))} (h1 : Tm.RefOk E R.M) : PfxOf (G.map RtV.rt) (E.map fun q => pkN q.1.1 q.1.2) := by
  refine ⟨?_, fun k => ?_⟩
  · unfold Kl.Ordered
    have h2 := h1.sorted
    rw [List.pairwise_map] at h2 ⊢
    refine h2.imp fun {x y} h => ?_
    rw [ltK_iff]
    unfold Tm.ltK at h
    show x.1.1 < y.1.1 ∨ (x.1.1 = y.1.1 ∧ (x.1.2 : Int) < (y.1.2 : Int))
    omega
  · rw [List.mem_map]
    constructor
    · rintro ⟨q, hq, rfl⟩
      obtain ⟨x, hx⟩ := Option.isSome_iff_exists.1 ((h1.some q.1.1 q.1.2).2 (List.mem_map.2 ⟨q, hq, rfl⟩))
      obtain ⟨m, -, -, hne⟩ := H.mp _ _ _ hx
      obtain ⟨y, hy⟩ := List.exists_mem_of_ne_nil _ hne
      obtain ⟨h3, h4⟩ := mem_atV.1 hy
      exact ⟨y.rt, List.mem_map_of_mem h3, h4⟩
    · rintro ⟨y, hy, rfl⟩
      obtain ⟨x, hx, rfl⟩ := List.mem_map.1 hy
      have h3 := (h1.some _ _).1 (H.all x hx)
      obtain ⟨q, hq, hqe⟩ := List.mem_map.1 h3
      refine ⟨q, hq, ?_⟩
      rw [hqe]
      exact (H.okx x hx).pk.symm
theorem prefixes14_any (H : RibAt w R X n asn room ref G) (hG : G.length ≤ 4000000) : Calls Tryz.prog 31 #[.pointer (some ⟨R.b, 0, none⟩)] w fun e w' => ∃ v L, e = .returned v ∧ RPk.Own w' w.heap.size v L ∧ PfxOf (G.map RtV.rt) L ∧ Below w.heap.size w w' := by
  obtain ⟨E, h1, h2⟩ := H.rf
  have HP := Lib.hid (tpx_any H.tr h1 h2 (by have := H.nG; omega))
  have HF := Lib.hid (H.pfx h1)
  have HM := Lib.hid (made_any14 H)
  have c0 := cell_of (o := 0) H.blk rfl
  clear H h1 h2
  go_enter Tryz.func31, Tryz.ntmps31
  go_wp2_with fail
  refine (HM.out).mono ?_
  rintro e W9 ⟨rfl, hw⟩
  have hw := hw.symm
  subst hw
  go_wp2_with fail
  refine (HP.out).mono ?_
  rintro e W9 ⟨v, rfl, ho, hb⟩
  have HO := Lib.hid (And.intro ho hb)
  clear ho hb
  go_wp2_with fail
  go_ret
  exact ⟨v, _, rfl, HO.out.1, HF.out, HO.out.2⟩
end
theorem Rep.Sl.same' {α : Type} [Inhabited α] {R : Rep α} {w w' : World} {a : Option Addr} {n c : Nat} {L : List α} (h : R.Sl w a n c L) (he : 0 < n → ∀ x, a = some x → x.block < w.heap.size → w'.heap[x.block]? = w.heap[x.block]?) : R.Sl w' a n c L :=
  ⟨h.len, h.max, fun hn => by
    obtain ⟨b, o, e, r⟩ := h.row hn
    exact ⟨b, o, e, r.keep (he hn _ e r.lt)⟩⟩
/-- a table under way in a flush -/
structure FlQ (w : World) (R : Rb) (X : Nat → Prop) (bm : Nat) (asn room : Int) (S0 : List Rt) (r : Int) (Y : Nat → Prop) (D : List RKey) (Ri : Rb) (ni : Nat) (Gi : List RtV) (ref : Int) (T : List TwV) (wr : World) : Prop where
  rib : RibAt wr Ri Y ni asn room ref Gi
  b : Ri.b = R.b
  mv : Moved w wr R.F Ri.F
  tw : TwOk wr Ri Y bm S0 (Gi.map RtV.rt) T
  st : Gi.map RtV.rt = S0.filter fun x => decide (x.key ∉ D)
  dr : ∀ q ∈ D, q.1 = r
  yb : Y bm
  yx : ∀ k, X k → Y k
  yl : ∀ k, Y k → k < wr.heap.size
  yo : ∀ k, Y k → w.heap.size ≤ k → ¬ Ri.F k
  bw : w.heap.size ≤ bm
section
variable {w w' wr : World} {R Ri R' : Rb} {X Y : Nat → Prop} {bm : Nat} {asn room ref : Int} {S0 : List Rt} {r : Int} {D : List RKey} {ni n' : Nat} {Gi G' : List RtV} {T T' : List TwV}
theorem FlQ.keep (h : FlQ w R X bm asn room S0 r Y D Ri ni Gi ref T wr) (hb : Below wr.heap.size wr w') : FlQ w R X bm asn room S0 r Y D Ri ni Gi ref T w' :=
  ⟨h.rib.below hb, h.b, h.mv.trans (Moved.of_below hb _), ⟨h.tw.at'.keep hb, fun t ht => (h.tw.hold t ht).below hb, h.tw.was, h.tw.key, h.tw.rest⟩, h.st, h.dr, h.yb, h.yx, fun k hk => Nat.lt_of_lt_of_le (h.yl k hk) hb.size, h.yo, h.bw⟩
/-- a block of the call's own that will turn -/
theorem FlQ.more (h : FlQ w R X bm asn room S0 r Y D Ri ni Gi ref T wr) (hb : Below wr.heap.size wr w') (hq : wr.heap.size < w'.heap.size) : FlQ w R X bm asn room S0 r (fun k => Y k ∨ k = wr.heap.size) D Ri ni Gi ref T w' :=
  ⟨h.rib.more hb fun k hk => hk.imp_right fun e => by rw [e]; exact Nat.le_refl _, h.b, h.mv.trans (Moved.of_below hb _), ⟨h.tw.at'.keep hb, fun t ht => (h.tw.hold t ht).turn hb.size (fun k hk _ => hb.block k hk) (fun k hk => hk.elim (fun h1 => .inl (.inl h1)) (fun h1 => h1.elim (fun h2 => .inl (.inr h2)) (fun h2 => .inr (by rw [h2]; exact Nat.le_refl _)))), h.tw.was, h.tw.key, h.tw.rest⟩, h.st, h.dr, .inl h.yb, (fun k hk => .inl (h.yx k hk)), (fun k hk => hk.elim (fun h1 => Nat.lt_of_lt_of_le (h.yl k h1) hb.size) (fun h1 => by rw [h1]; exact hq)), (fun k hk hw hf => hk.elim (fun h1 => h.yo k h1 hw hf) (fun h1 => by have := h.rib.lt hf; omega)), h.bw⟩
theorem FlQ.set (h : FlQ w R X bm asn room S0 r Y D Ri ni Gi ref T wr) {q : Nat} {o : Obj} (hs : SetB wr w' q o) (hy : Y q) (hqw : w.heap.size ≤ q) (hqb : q ≠ bm) : FlQ w R X bm asn room S0 r Y D Ri ni Gi ref T w' := by
  have hb : But wr w' [q] := But.of_set hs (by simp)
  have hsz : wr.heap.size ≤ w'.heap.size := by rw [hs.size]; exact Nat.le_refl _
  refine ⟨h.rib.outX hb hy (h.yo q hy hqw), h.b, ⟨hs.os.trans h.mv.os, hs.tape.trans h.mv.tape, hs.output.trans h.mv.output, Nat.le_trans h.mv.size hsz, fun k hk hn => (hs.other (by omega)).trans (h.mv.same k hk hn), h.mv.foot⟩, ⟨h.tw.at'.on (hs.other (Ne.symm hqb)), fun t ht => ?_, h.tw.was, h.tw.key, h.tw.rest⟩, h.st, h.dr, h.yb, h.yx, fun k hk => Nat.lt_of_lt_of_le (h.yl k hk) hsz, h.yo, h.bw⟩
  exact (h.tw.hold t ht).turn hsz (fun k _ hn => hs.other (by rintro rfl; exact hn (.inr hy))) fun k hk => .inl hk
theorem FlQ.touch (h : FlQ w R X bm asn room S0 r Y D Ri ni Gi ref T wr) (ht : TwOk w' Ri Y bm S0 (Gi.map RtV.rt) T') (hr : RibAt w' Ri Y ni asn room ref Gi) (hb : But wr w' [bm]) : FlQ w R X bm asn room S0 r Y D Ri ni Gi ref T' w' :=
  ⟨hr, h.b, ⟨hb.os.trans h.mv.os, hb.tape.trans h.mv.tape, hb.output.trans h.mv.output, Nat.le_trans h.mv.size hb.size, fun k hk hn => (hb.block k (Nat.lt_of_lt_of_le hk h.mv.size) (by rw [List.mem_singleton]; have := h.bw; omega)).trans (h.mv.same k hk hn), h.mv.foot⟩, ht, h.st, h.dr, h.yb, h.yx, (fun k hk => Nat.lt_of_lt_of_le (h.yl k hk) hb.size), h.yo, h.bw⟩
theorem FlQ.drop (h : FlQ w R X bm asn room S0 r Y D Ri ni Gi ref T wr) {k : PK} {i : Int} (hr : RibAt w' R' Y n' asn room ref (dropV Gi (r, k, i))) (hb : R'.b = Ri.b) (hm : Moved wr w' Ri.F R'.F) (hk : ∃ t ∈ T, t.k = k) : FlQ w R X bm asn room S0 r Y ((r, k, i) :: D) R' n' (dropV Gi (r, k, i)) ref T w' := by
  refine ⟨hr, hb.trans h.b, h.mv.trans hm, h.tw.moved hm (h.yo bm h.yb h.bw) hk (fun k' hk' => routes_eq hr.rok h.rib.rok fun y hy => ?_), ?_, fun q hq => ?_, h.yb, h.yx, fun k hk => Nat.lt_of_lt_of_le (h.yl k hk) hm.size, fun k' hk' hw hf => ?_, h.bw⟩
  · rw [dropV_map]
    exact drop_other (q := (r, k, i)) (by rw [hy]; exact hk')
  · rw [dropV_map, h.st]
    unfold dropR
    rw [List.filter_filter]
    refine List.filter_congr fun x _ => ?_
    rw [Bool.eq_iff_iff]
    simp only [Bool.and_eq_true, decide_eq_true_eq, List.mem_cons, not_or, ne_eq]
  · rcases List.mem_cons.1 hq with rfl | hq
    · rfl
    · exact h.dr q hq
  · exact (hm.foot k' hf).elim (h.yo k' hk' hw) (fun h1 => by have := h.yl k' hk'; omega)
end
structure FrS (b q : Nat) (p : Value) (v1 v2 v3 v4 v5 : Value) (a d : Nat) (W : World) : Prop where
  blk : W.heap[b]? = some (.cells #[p, v1, v2, v3, v4, v5] 120)
  p : W.heap[q]? = some (.cells #[.int .u32 (a : Int), .int .i64 (d : Int)] 58)
theorem FrS.keep {b q : Nat} {p v1 v2 v3 v4 v5 : Value} {a d : Nat} {W W' : World} (h : FrS b q p v1 v2 v3 v4 v5 a d W) (hb : Below W.heap.size W W') : FrS b q p v1 v2 v3 v4 v5 a d W' := ⟨(hb.block _ (lt_of_blk h.blk)).trans h.blk, (hb.block _ (lt_of_blk h.p)).trans h.p⟩
set_option maxRecDepth 100000 in
set_option maxHeartbeats 16000000 in
theorem flush_anyB {w : World} {R : Rb} {X : Nat → Prop} {n : Nat} {asn room ref : Int} {G : List RtV} (H : RibAt w R X n asn room ref G) (hX : ∀ k, X k → k < w.heap.size) (hG : G.length ≤ 3000000) (r : Int) :
    Calls Tryz.prog 36 #[.pointer (some ⟨R.b, 0, none⟩), .int .i64 r] w fun e w' => ∃ v L R' n' G', e = .returned v ∧ RPk.Own w' w.heap.size v L ∧ Chg (G.map RtV.rt) (G'.map RtV.rt) L ∧ RibAt w' R' X n' asn room ref G' ∧ G'.map RtV.rt = flushR r (G.map RtV.rt) ∧ R'.b = R.b ∧ Moved w w' R.F R'.F ∧ ∃ B, RPk.Own w' B v L ∧ ∀ k, R'.F k → k < B := by
  have hal := (Below.refl w.heap.size w).alloc (Nat.le_refl _) (.map #[] 0)
  have hmm := @run_makeMap Tryz.prog
  have HM := Lib.hid (made_any14 H)
  obtain ⟨S0, hS0⟩ : ∃ S0, G.map RtV.rt = S0 := ⟨_, rfl⟩
  obtain ⟨E, hE1, hE2⟩ := H.rf
  have hR0 := H.below hal
  have HP := Lib.hid (tpx_any hR0.tr hE1 hE2 (by have := H.nG; omega))
  have hpf := H.pfx hE1
  rw [hS0] at hpf
  have hEL : E.length ≤ 3000000 := by have := H.nG; omega
  have HE := Lib.hid (And.intro hpf hEL)
  have c0 := cell_of (o := 0) hR0.blk rfl
  have HH := Lib.hid (And.intro hX (And.intro hG (And.intro hS0 H.okx)))
  have HR := Lib.hid (And.intro H hal)
  have HR0 := Lib.hid (show ROk S0 by rw [← hS0]; exact H.rok)
  clear hal hR0 hE1 hE2 hpf hEL H hX hG hS0
  go_enter Tryz.func36, Tryz.ntmps36
  go_wp2_with fail
  refine (HM.out).mono ?_
  rintro e W9 ⟨rfl, hw⟩
  have hw := hw.symm
  subst hw
  clear HM
  go_wp2_with fail
  refine (HP.out).mono ?_
  rintro e w1 ⟨v1, rfl, ho1, hb1⟩
  obtain ⟨oa, oc, rfl, hsl, -⟩ := ho1.sl0
  obtain ⟨P, hP⟩ : ∃ P, (E.map fun q => pkN q.1.1 q.1.2) = P := ⟨_, rfl⟩
  have hPE : ∀ k ∈ P, ∃ a d : Nat, k = pkN a d := fun k hk => by
    rw [← hP] at hk
    obtain ⟨q, hq, rfl⟩ := List.mem_map.1 hk
    exact ⟨q.1.1, q.1.2, rfl⟩
  have hPl : P.length ≤ 3000000 := by rw [← hP, List.length_map]; exact HE.out.2
  have hpf := HE.out.1
  rw [hP] at hsl hpf
  try rw [hP]
  obtain ⟨pn, hpn⟩ : ∃ z, P.length = z := ⟨_, rfl⟩
  rw [hpn] at hsl hPl
  try rw [hpn]
  have hb01 : Below w.heap.size w w1 := bcall HR.out.2 (Nat.le_refl _) hb1
  have hs1 : w.heap.size < w1.heap.size := Nat.lt_of_lt_of_le (by simp) hb1.size
  have hbm1 : w1.heap[w.heap.size]? = some (.map #[] 0) := (hb1.block _ (by simp)).trans (hnew _ _)
  have hA1 : FlQ w R X w.heap.size asn room S0 r (fun k => X k ∨ (w.heap.size ≤ k ∧ k < w1.heap.size)) [] R n G ref [] w1 :=
    ⟨HR.out.1.more hb01 fun k hk => hk.imp_right fun e => e.1, rfl, Moved.of_below hb01 _, ⟨⟨_, _, MR.mapAt_made PN hbm1, Kl.Lay.nil⟩, (fun t ht => by cases ht), (fun t ht => by cases ht), (fun t ht => by cases ht), fun k _ => by rw [HH.out.2.2.1]⟩, by rw [HH.out.2.2.1]; exact (List.filter_eq_self.2 fun x _ => by simp).symm, (fun q hq => by cases hq), .inr ⟨Nat.le_refl _, hs1⟩, (fun k hk => .inl hk), (fun k hk => hk.elim (fun h => Nat.lt_of_lt_of_le (HH.out.1 k h) hb01.size) (fun h => h.2)), (fun k hk hw hf => by have := HR.out.1.lt hf; omega), Nat.le_refl _⟩
  have hnb : ∀ a, oa = some a → w.heap.size < a.block := fun a e => by
    have h1 := (World.ownsRow.lt ho1 a.block (by rw [e]; rfl)).1
    have h2 : (w.alloc (.map #[] 0)).heap.size = w.heap.size + 1 := by simp
    omega
  have HNB := Lib.hid hnb
  have HQ := Lib.hid (And.intro hsl (And.intro hPE (And.intro hPl (And.intro hpf (And.intro hpn hs1)))))
  have HS1 : Hid (∀ (W : World) {Y : Nat → Prop}, w.heap.size ≤ W.heap.size → (∀ k, w.heap.size ≤ k → k < w1.heap.size → Y k) → (∀ k, Y k → k < W.heap.size) → w1.heap.size ≤ W.heap.size) := Lib.hid (fun W Y h1 h2 h3 => by
    have h4 := h3 (w1.heap.size - 1) (h2 _ (by omega) (by omega))
    omega)
  have F1 := Lib.hid hA1
  have hpm : pn ≤ maxLen := by unfold maxLen; omega
  clear ho1 hb1 hsl hPE hpf hA1 hPl HP HE hP hpn hmm c0 hb01 hs1 hbm1 hnb
  go_wp2_with fail
  go_loopw [21] (fun iv wr => ∃ (i : Nat) (Y : Nat → Prop) (D : List RKey) (Ri : Rb) (ni : Nat) (Gi : List RtV) (T : List TwV), i ≤ pn ∧ iv = .int .i64 i ∧ FlQ w R X w.heap.size asn room S0 r Y D Ri ni Gi ref T wr ∧ (∀ t ∈ T, t.k ∈ P) ∧ (∀ x ∈ Gi, x.k ∈ P.take i → x.r ≠ r) ∧ (∀ k, w.heap.size < k → k < w1.heap.size → wr.heap[k]? = w1.heap[k]?) ∧ (∀ k, w.heap.size ≤ k → k < w1.heap.size → Y k)) (fun iv _ => pn - (intOf iv).toNat)
  case atStart => exact ⟨0, _, [], R, n, G, [], Nat.zero_le _, rfl, F1.out, (fun t ht => by cases ht), (fun x _ hx => by cases hx), (fun _ _ _ => rfl), fun k h1 h2 => .inr ⟨h1, h2⟩⟩
  case round =>
    obtain ⟨i, Y, D, Ri, ni, Gi, T, hi, rfl, hA, hTP, hdone, hks, hY1⟩ := hrel
    obtain ⟨w3, rfl⟩ : ∃ w3 : World, w3 = wr := ⟨_, rfl⟩
    have hsl3 : RPk.Sl w3 oa pn oc P := HQ.out.1.same' fun hn a ea hl => hks a.block (HNB.out a ea) hl
    by_cases hlt : i < pn
    · have hil : ((i : Int) < (pn : Int)) = True := by simp; omega
      have hi0 : ((0 : Int) ≤ (i : Int)) = True := by simp
      have hw3 := wrapS hlt hpm
      have hiP : i < P.length := by rw [HQ.out.2.2.2.2.1]; exact hlt
      obtain ⟨b, o, ea, hbb, hat⟩ := hsl3.at hlt
      obtain ⟨kk, hkk⟩ : ∃ kk, P.getD i default = kk := ⟨_, rfl⟩
      rw [hkk] at hat
      have hkP : kk ∈ P := by rw [← hkk]; exact getD_mem hiP
      obtain ⟨a, d, rfl⟩ := HQ.out.2.1 kk hkP
      have c0 := hat 0 (by decide)
      have c1 := hat 1 (by decide)
      simp only [RPk, Nat.add_zero, List.getElem?_cons_zero, List.getElem?_cons_succ] at c0 c1
      unfold pkN at c0 c1
      dsimp only at c0 c1
      obtain ⟨x1, hx1, hx1k⟩ := (HQ.out.2.2.2.1.is (pkN a d)).1 hkP
      have hok1 : okP a (d : Int) = true ∧ a < 4294967296 := by
        rw [← HH.out.2.2.1] at hx1
        obtain ⟨z, hz, rfl⟩ := List.mem_map.1 hx1
        have h1 := HH.out.2.2.2 z hz
        have h2 : z.k = pkN a d := hx1k
        rw [h2] at h1
        exact ⟨h1.p, h1.a⟩
      have HN := Lib.hid (And.intro hkk (And.intro hkP hok1))
      have HA := Lib.hid (And.intro hA (And.intro hTP (And.intro hdone (And.intro hks hY1))))
      rw [ea]
      clear hA hTP hdone hks hY1 hsl3 hiP hbb hat hkk hkP hx1 hx1k hok1 ea x1
      go_wp2_with (with_reducible refine halt_store 58 (x := .tmp 7) rfl ?_)
      refine Halted.go ?_
      clear c0 c1
      have hal := (Below.refl w3.heap.size w3).alloc (Nat.le_refl _) (.cells #[.int .u32 0, .int .i64 0] 58)
      refine store_whole rfl 58 _ _ rfl w3.heap.size #[.int .u32 (a : Int), .int .i64 (d : Int)] rfl rfl (hnew _ _) rfl (by kernel_rfl) (by simp [Value.oneCell']) ?_
      intro w4 hwz hsz
      have hzb : Below w3.heap.size w3 w4 := Below.trans hal (hsz.below (Nat.le_refl _))
      have hd4 := (Below.refl w4.heap.size w4).drew
      have hb4 := bcall hzb (Nat.le_refl _) hd4
      have hA4 := HA.out.1.more hb4 (lt_of_blk hwz)
      have hblk := hA4.rib.blk
      rw [hA4.b] at hblk
      have hgm := Tm.getM_any hA4.rib.tr a (d : Int) HN.out.2.2.2
      have hlk : look Ri.M a (d : Int) = Ri.M a d := by unfold look; rw [HN.out.2.2.1, if_pos rfl, Int.toNat_natCast]
      rw [hlk] at hgm
      obtain ⟨v2, hv2⟩ : ∃ v : Int, (Gi.length : Int) = v := ⟨_, rfl⟩
      obtain ⟨v5, hv5⟩ : ∃ v, Value.map (some Ri.bo) = v := ⟨_, rfl⟩
      rw [hv2, hv5] at hblk
      have G1 := Lib.hid (And.intro (show FrS R.b w3.heap.size (.pointer (some ⟨Ri.bt, 0, none⟩)) (.int .i64 asn) (.int .i64 room) (.int .i64 v2) (.int .i64 ref) v5 a d w4.drew from ⟨hblk, hwz⟩) (And.intro hA4 (show ∀ k, w.heap.size < k → k < w1.heap.size → w4.drew.heap[k]? = w1.heap[k]? from fun k h1 h2 => (hb4.block k (Nat.lt_of_lt_of_le h2 (HS1.out w3 HA.out.1.mv.size HA.out.2.2.2.2 HA.out.1.yl))).trans (HA.out.2.2.2.1 k h1 h2))))
      unfold pfx at hgm
      have HGM := Lib.hid hgm
      clear hal hwz hsz hzb hd4 hb4 hA4 hblk hgm hlk hv2 hv5
      cases hM : Ri.M a d with
      | none =>
        rw [hM] at HGM
        have HM := Lib.hid hM
        clear hM
        rw [Option.getD_none] at HGM
        go_wp2_with fail
        refine wp_region_heldP (FrS R.b w3.heap.size (.pointer (some ⟨Ri.bt, 0, none⟩)) (.int .i64 asn) (.int .i64 room) (.int .i64 v2) (.int .i64 ref) v5 a d) (by kernel_rfl) ?_
        generalize w4.drew = V4 at *
        refine held_reads [0, 1, 2, 3, 4] (g := 6) rfl (by kernel_rfl) G1.out.1 (fun _ _ d _ _ h => by cases d <;> exact h) ?_
        simp only [pick, List.getD_cons_zero, List.getD_cons_succ]
        iterate 4 ((with_reducible refine wpRead_step (fun K hK => ?_)); go_simp; first | ((with_reducible refine hK _ ?_); clear hK K) | (apply Exists.intro; (with_reducible refine ⟨fun w' hw' => ?_, hK _ ?_⟩); ((have f0 : w'.cell? ⟨R.b, 0, none⟩ = _ := cell_of hw'.blk rfl; go_simp; first | exact rfl | exact ⟨rfl, rfl⟩)); clear hK K))
        with_reducible refine wpRead_yes ?_ ?_
        rotate_left
        rfl
        intro K hK
        refine read_load 58 _ rfl w3.heap.size 0 #[.int .u32 (a : Int), .int .i64 (d : Int)] rfl (fun w' hw' => rangeAt_block hw'.p 0 _ rfl) Tryz.underlying58 rfl (by kernel_rfl) (hK _ ?_)
        clear hK K
        with_reducible refine wpRead_nil ?_
        refine held_one 5 (by kernel_rfl) ?_
        simp only [pick, List.getD_cons_zero, List.getD_cons_succ]
        go_wp2_with fail
        refine (HGM.out).mono ?_
        rintro e W5 ⟨rfl, hb⟩
        have G2 := Lib.hid (And.intro (G1.out.1.keep hb) (And.intro (G1.out.2.1.keep hb) (show ∀ k, w.heap.size < k → k < w1.heap.size → W5.heap[k]? = w1.heap[k]? from fun k h1 h2 => (hb.block k (Nat.lt_of_lt_of_le h2 (HS1.out V4 G1.out.2.1.mv.size (fun k h1 h2 => .inl (HA.out.2.2.2.2 k h1 h2)) G1.out.2.1.yl))).trans (G1.out.2.2 k h1 h2))))
        clear hb G1 HGM
        go_wp2_with fail
        refine ⟨G2.out.1, ?_⟩
        refine held_reads [6, 7, 8, 9, 10] (g := 0) rfl (by kernel_rfl) G2.out.1 (fun _ _ d _ _ h => by cases d <;> exact h) ?_
        simp only [pick, List.getD_cons_zero, List.getD_cons_succ]
        iterate 5 ((with_reducible refine wpRead_step (fun K hK => ?_)); go_simp; first | ((with_reducible refine hK _ ?_); clear hK K) | (apply Exists.intro; (with_reducible refine ⟨fun w' hw' => ?_, hK _ ?_⟩); (first | exact rfl | exact ⟨rfl, rfl⟩); clear hK K))
        with_reducible refine wpRead_nil ?_
        refine wpAnyH_done (by kernel_rfl) ?_ _
        have hrg := Go.run_range_nilMap (P := Tryz.prog) W5 117 _ _ Tryz.underlying117
        have hnx := fun ty => Go.run_next_nilMap (P := Tryz.prog) W5 ty 0 0 #[]
        have hal := (Below.refl W5.heap.size W5).alloc (Nat.le_refl _) (.mapIter none 0 #[] 0)
        have hA6 := G2.out.2.1.keep hal
        have hks6 : ∀ k, w.heap.size < k → k < w1.heap.size → (W5.alloc (.mapIter none 0 #[] 0)).heap[k]? = w1.heap[k]? := fun k h1 h2 => (hal.block k (Nat.lt_of_lt_of_le h2 (HS1.out W5 G2.out.2.1.mv.size (fun k h1 h2 => .inl (HA.out.2.2.2.2 k h1 h2)) G2.out.2.1.yl))).trans (G2.out.2.2 k h1 h2)
        have hdn6 : ∀ x ∈ Gi, x.k ∈ P.take (i + 1) → x.r ≠ r := fun x hx hxk => by
          rw [List.take_succ_eq_append_getElem (by have := HQ.out.2.2.2.2.1; omega)] at hxk
          rcases List.mem_append.1 hxk with h1 | h1
          · exact HA.out.2.2.1 x hx h1
          · rw [List.mem_singleton] at h1
            have h2 := G2.out.2.1.rib.all x hx
            have h3 := HN.out.1
            rw [List.getD_eq_getElem?_getD, List.getElem?_eq_getElem (by have := HQ.out.2.2.2.2.1; omega), Option.getD_some] at h3
            rw [h1, h3] at h2
            unfold pkN at h2
            rw [Int.toNat_natCast, HM.out] at h2
            cases h2
        have G6 := Lib.hid (And.intro hA6 (And.intro HA.out.2.1 (And.intro hdn6 (And.intro hks6 (show ∀ k, w.heap.size ≤ k → k < w1.heap.size → (Y k ∨ k = w3.heap.size) from fun k h1 h2 => .inl (HA.out.2.2.2.2 k h1 h2))))))
        clear hal hA6 hks6 hdn6 G2
        go_wp2_with fail
        go_loopw [36] (fun _ wr => wr = W5.alloc (.mapIter none 0 #[] 0)) (fun _ _ => 0)
        case atStart => rfl
        case round =>
          have hrel := hrel
          subst hrel
          go_wp2_with fail
          exact ⟨⟨i + 1, _, D, Ri, ni, Gi, T, hlt, by first | rw [hw3] | rw [Int.natCast_succ], G6.out⟩, by first | (rw [hw3]; exact mSucc hlt) | (rw [← Int.natCast_succ]; exact mSucc hlt)⟩
      | some y0 =>
        obtain ⟨m, rfl, -, -⟩ := G1.out.2.1.rib.mp a d y0 hM
        rw [hM] at HGM
        have HM := Lib.hid hM
        clear hM
        rw [Option.getD_some] at HGM
        go_wp2_with fail
        refine wp_region_heldP (FrS R.b w3.heap.size (.pointer (some ⟨Ri.bt, 0, none⟩)) (.int .i64 asn) (.int .i64 room) (.int .i64 v2) (.int .i64 ref) v5 a d) (by kernel_rfl) ?_
        generalize w4.drew = V4 at *
        refine held_reads [0, 1, 2, 3, 4] (g := 6) rfl (by kernel_rfl) G1.out.1 (fun _ _ d _ _ h => by cases d <;> exact h) ?_
        simp only [pick, List.getD_cons_zero, List.getD_cons_succ]
        iterate 4 ((with_reducible refine wpRead_step (fun K hK => ?_)); go_simp; first | ((with_reducible refine hK _ ?_); clear hK K) | (apply Exists.intro; (with_reducible refine ⟨fun w' hw' => ?_, hK _ ?_⟩); ((have f0 : w'.cell? ⟨R.b, 0, none⟩ = _ := cell_of hw'.blk rfl; go_simp; first | exact rfl | exact ⟨rfl, rfl⟩)); clear hK K))
        with_reducible refine wpRead_yes ?_ ?_
        rotate_left
        rfl
        intro K hK
        refine read_load 58 _ rfl w3.heap.size 0 #[.int .u32 (a : Int), .int .i64 (d : Int)] rfl (fun w' hw' => rangeAt_block hw'.p 0 _ rfl) Tryz.underlying58 rfl (by kernel_rfl) (hK _ ?_)
        clear hK K
        with_reducible refine wpRead_nil ?_
        refine held_one 5 (by kernel_rfl) ?_
        simp only [pick, List.getD_cons_zero, List.getD_cons_succ]
        go_wp2_with fail
        refine (HGM.out).mono ?_
        rintro e W5 ⟨rfl, hb⟩
        have G2 := Lib.hid (And.intro (G1.out.1.keep hb) (And.intro (G1.out.2.1.keep hb) (show ∀ k, w.heap.size < k → k < w1.heap.size → W5.heap[k]? = w1.heap[k]? from fun k h1 h2 => (hb.block k (Nat.lt_of_lt_of_le h2 (HS1.out V4 G1.out.2.1.mv.size (fun k h1 h2 => .inl (HA.out.2.2.2.2 k h1 h2)) G1.out.2.1.yl))).trans (G1.out.2.2 k h1 h2))))
        clear hb G1 HGM
        go_wp2_with fail
        refine ⟨G2.out.1, ?_⟩
        refine held_reads [6, 7, 8, 9, 10] (g := 0) rfl (by kernel_rfl) G2.out.1 (fun _ _ d _ _ h => by cases d <;> exact h) ?_
        simp only [pick, List.getD_cons_zero, List.getD_cons_succ]
        iterate 5 ((with_reducible refine wpRead_step (fun K hK => ?_)); go_simp; first | ((with_reducible refine hK _ ?_); clear hK K) | (apply Exists.intro; (with_reducible refine ⟨fun w' hw' => ?_, hK _ ?_⟩); (first | exact rfl | exact ⟨rfl, rfl⟩); clear hK K))
        with_reducible refine wpRead_nil ?_
        refine wpAnyH_done (by kernel_rfl) ?_ _
        obtain ⟨m', hm', hpm, -⟩ := G2.out.2.1.rib.mp a d _ HM.out
        injection hm' with hm'
        subst hm'
        obtain ⟨clk, es0, k2, k3⟩ := hpm
        have hrg := MR.run_range QN k2 Tryz.underlying117
        have hal := (Below.refl W5.heap.size W5).alloc (Nat.le_refl _) (.mapIter (some m) clk #[] clk)
        have hit : (W5.alloc (.mapIter (some m) clk #[] clk)).heap[W5.heap.size]? = some (.mapIter (some m) clk #[] clk) := hnew _ _
        have hA6 := G2.out.2.1.more hal (by simp)
        have hs15 : w1.heap.size ≤ W5.heap.size := HS1.out W5 G2.out.2.1.mv.size (fun k h1 h2 => .inl (HA.out.2.2.2.2 k h1 h2)) G2.out.2.1.yl
        have hks6 : ∀ k, w.heap.size < k → k < w1.heap.size → (W5.alloc (.mapIter (some m) clk #[] clk)).heap[k]? = w1.heap[k]? := fun k h1 h2 => (hal.block k (Nat.lt_of_lt_of_le h2 hs15)).trans (G2.out.2.2 k h1 h2)
        have G6 := Lib.hid (And.intro hA6 (And.intro hks6 (And.intro ((hal.block _ (lt_of_blk G2.out.1.p)).trans G2.out.1.p) (And.intro hit (And.intro (k2.blk_iff QN (hal.block _ (lt_of_blk k2.blk))) (And.intro k3 (And.intro hs15 (And.intro (lt_of_blk G2.out.1.p) k2.bnodup))))))))
        clear k2 k3 hal hit hA6 hs15 hks6 G2
        go_wp2_with fail
        clear hrg
        generalize W5.alloc (.mapIter (some m) clk #[] clk) = W6 at *
        generalize W5.heap.size = q at *
        go_loopw [36] (fun _ wr => ∃ (D : List RKey) (Ri2 : Rb) (n2 : Nat) (Gi2 : List RtV) (T2 : List TwV) (seen : Array Nat) (done es : List (MR.Ent QK)), FlQ w R X w.heap.size asn room S0 r (fun k => (Y k ∨ k = w3.heap.size) ∨ k = q) D Ri2 n2 Gi2 ref T2 wr ∧ (∀ t ∈ T2, t.k ∈ P) ∧ (∀ x ∈ Gi2, x.k ∈ P.take i → x.r ≠ r) ∧ (∀ k, w.heap.size < k → k < w1.heap.size → wr.heap[k]? = w1.heap[k]?) ∧ wr.heap[w3.heap.size]? = some (.cells #[.int .u32 (a : Int), .int .i64 (d : Int)] 58) ∧ wr.heap[q]? = some (.mapIter (some m) clk seen clk) ∧ MR.MapAt QN wr m es clk ∧ Kl.Lay RtV.pi (fun x => x.a.v) es (atV Gi2 (pkN a d)) ∧ (∀ e ∈ es, e ∈ es0) ∧ MR.Ran es0 seen done ∧ (∀ e ∈ es, e.2.2 ∈ seen → e.1.1 ≠ r) ∧ (Ri2.M a d = some (some m) ∨ Ri2.M a d = none)) (fun _ wr => es0.length - seenN wr q)
        case atStart => exact ⟨D, Ri, ni, Gi, T, #[], [], es0, G6.out.1, HA.out.2.1, HA.out.2.2.1, G6.out.2.1, G6.out.2.2.1, G6.out.2.2.2.1, G6.out.2.2.2.2.1, G6.out.2.2.2.2.2.1, (fun _ h => h), MR.Ran.none _, (fun e _ h => by simp at h), .inl HM.out⟩
        case round =>
          obtain ⟨D, Ri2, n2, Gi2, T2, seen, done, es, hQ, hTP, hdn, hks, hbx, hit, hmm, hlay, hsub, hran, hsr, hM2⟩ := hrel
          obtain ⟨w7, rfl⟩ : ∃ w7 : World, w7 = wr := ⟨_, rfl⟩
          have hqw : w.heap.size ≤ q ∧ w1.heap.size ≤ q ∧ w3.heap.size < q := by
            have h1 := G6.out.2.2.2.2.2.2.1
            have h2 := HQ.out.2.2.2.2.2
            have h3 := G6.out.2.2.2.2.2.2.2.1
            omega
          rcases MR.next_step QN hmm hit 0 with ⟨hall, hnx⟩ | ⟨e, hein, hens, w8, hnx, hset⟩
          · have hdn6 : ∀ x ∈ Gi2, x.k ∈ P.take (i + 1) → x.r ≠ r := fun x hx hxk => by
              rw [List.take_succ_eq_append_getElem (by have := HQ.out.2.2.2.2.1; omega)] at hxk
              rcases List.mem_append.1 hxk with h1 | h1
              · exact hdn x hx h1
              · rw [List.mem_singleton] at h1
                have h3 := HN.out.1
                rw [List.getD_eq_getElem?_getD, List.getElem?_eq_getElem (by have := HQ.out.2.2.2.2.1; omega), Option.getD_some] at h3
                have hxa : x ∈ atV Gi2 (pkN a d) := mem_atV.2 ⟨hx, h1.trans h3⟩
                have h4 := hlay.get x.pi
                rw [Kl.look_of hlay.nd hxa] at h4
                obtain ⟨e, he, hek, -⟩ := MR.mem_of_get? h4
                have h5 := hsr e he (hall e he)
                rw [hek] at h5
                exact h5
            have G7 := Lib.hid (And.intro hQ (And.intro hTP (And.intro hdn6 (And.intro hks (show ∀ k, w.heap.size ≤ k → k < w1.heap.size → ((Y k ∨ k = w3.heap.size) ∨ k = q) from fun k h1 h2 => .inl (.inl (HA.out.2.2.2.2 k h1 h2)))))))
            clear hQ hTP hdn hks hbx hit hmm hlay hsub hran hsr hM2 hall hdn6
            go_wp2_with fail
            exact ⟨⟨i + 1, _, D, Ri2, n2, Gi2, T2, hlt, by first | rw [hw3] | rw [Int.natCast_succ], G7.out⟩, by first | (rw [hw3]; exact mSucc hlt) | (rw [← Int.natCast_succ]; exact mSucc hlt)⟩
          · have hmq : m ≠ q := by
              rintro rfl
              rw [hmm.blk] at hit
              cases hit
            have hqlt := lt_of_blk hit
            have hm8 := hmm.blk_iff QN (hset.other hmq)
            have hen := MR.run_entry QN hm8 hein (hset.at hqlt)
            have hQ8 := hQ.set hset (.inr rfl) hqw.1 (by have := HQ.out.2.2.2.2.2; omega)
            have hent := hlay.ent hein
            obtain ⟨hx0G, hx0k⟩ := mem_atV.1 hent.2.2.2
            have hkok := hQ.rib.okx _ hx0G
            have hMs : Ri2.M a d = some (some m) := by
              rcases hM2 with h | h
              · exact h
              · have h2 := hQ.rib.all _ hx0G
                rw [hx0k] at h2
                unfold pkN at h2
                rw [Int.toNat_natCast, h] at h2
                cases h2
            have hpi := hent.2.2.1
            rw [hx0k] at hkok
            obtain ⟨⟨r1, i1⟩, ev, bn⟩ := e
            dsimp only at hpi hens hnx hen hset
            obtain ⟨hr1, hi1⟩ := piV_iff.1 hpi
            rw [hr1, hi1] at hkok
            have hr3 := hran.more (hsub _ hein) hens
            have hms : seenN w7 q = seen.size := seenN_of hit
            have hdl3 := Ran_len hr3 G6.out.2.2.2.2.2.2.2.2
            have hks8 : ∀ k, w.heap.size < k → k < w1.heap.size → w8.heap[k]? = w1.heap[k]? := fun k h1 h2 => (hset.other (by omega)).trans (hks k h1 h2)
            have hbx8 := (hset.other (show w3.heap.size ≠ q by omega)).trans hbx
            have hGl : Gi2.length ≤ 3000000 := by
              have h1 := congrArg List.length hQ.st
              rw [List.length_map] at h1
              rw [h1]
              refine Nat.le_trans (List.length_filter_le _ _) ?_
              rw [← HH.out.2.2.1, List.length_map]
              exact HH.out.2.1
            have hnr : ∀ e' ∈ es, e'.2.2 ∈ seen.push bn → e' ≠ ((r1, i1), ev, bn) → e'.1.1 ≠ r := fun e' he' hs hne => by
              rw [Array.mem_push] at hs
              rcases hs with hs | hs
              · exact hsr e' he' hs
              · exact absurd (MR.inj_of_nodup (f := fun z : MR.Ent QK => z.2.2) hmm.bnodup he' hein hs) hne
            have G8 := Lib.hid (And.intro hQ8 (And.intro hTP (And.intro hdn (And.intro hks8 (And.intro hbx8 (And.intro (hset.at hqlt) (And.intro hm8 (And.intro hlay (And.intro hsub (And.intro hr3 (And.intro hnr (And.intro hMs (And.intro hkok (And.intro hdl3 (And.intro hms (And.intro hGl (And.intro hein hqw)))))))))))))))))
            have hke : QN.enc (r1, i1) = .agg #[.int .i64 r1, .int .i64 i1] := rfl
            rw [hke] at hen hnx
            have z0 := cell_of (o := 0) hbx8 rfl
            have z1 := cell_of (o := 1) hbx8 rfl
            clear hQ hTP hdn hks hbx hit hmm hlay hsub hran hsr hM2 hein hens hset hmq hqlt hm8 hQ8 hent hx0G hx0k hkok hMs hpi hr1 hi1 hr3 hms hdl3 hks8 hbx8 hGl hnr hke hqw
            go_wp2_with (with_reducible refine halt_store 129 (x := .tmp 10) rfl ?_)
            refine Halted.go ?_
            have hal := (Below.refl w8.heap.size w8).alloc (Nat.le_refl _) (.cells #[.int .i64 0, .int .i64 0] 129)
            refine store_whole rfl 129 _ _ rfl w8.heap.size #[.int .i64 r1, .int .i64 i1] rfl rfl (hnew _ _) rfl (by kernel_rfl) (by simp [Value.oneCell']) ?_
            intro w9 hwz hsz
            have hzb : Below w8.heap.size w8 w9 := Below.trans hal (hsz.below (Nat.le_refl _))
            have hQ9 := G8.out.1.keep hzb
            have hq8 := lt_of_blk G8.out.2.2.2.2.2.1
            have hs18 : w1.heap.size ≤ w8.heap.size := by have h1 := G8.out.2.2.2.2.2.2.2.2.2.2.2.2.2.2.2.2.2; omega
            have hks9 : ∀ k, w.heap.size < k → k < w1.heap.size → w9.heap[k]? = w1.heap[k]? := fun k h1 h2 => (hzb.block k (Nat.lt_of_lt_of_le h2 hs18)).trans (G8.out.2.2.2.1 k h1 h2)
            have hbx9 := (hzb.block _ (lt_of_blk G8.out.2.2.2.2.1)).trans G8.out.2.2.2.2.1
            have hit9 := (hzb.block _ hq8).trans G8.out.2.2.2.2.2.1
            have hm9 := G8.out.2.2.2.2.2.2.1.blk_iff QN (hzb.block _ (lt_of_blk G8.out.2.2.2.2.2.2.1.blk))
            clear z0 z1 hnx hen
            have z0 := cell_of (o := 0) hbx9 rfl
            have z1 := cell_of (o := 1) hbx9 rfl
            have y0 := cell_of (o := 0) hwz rfl
            have y1 := cell_of (o := 1) hwz rfl
            have G9 := Lib.hid (And.intro hQ9 (And.intro hks9 (And.intro hbx9 (And.intro hit9 (And.intro hm9 hwz)))))
            clear hal hwz hsz hzb hQ9 hq8 hs18 hks9 hbx9 hit9 hm9
            by_cases hrr : r1 = r
            · have e1 : (r1 == r) = true := by simp [hrr]
              subst hrr
              have hTl : T2.length ≤ 3000000 := by
                have h1 := nodup_len (M := P) G9.out.1.tw.at'.nd (fun k hk => by
                  obtain ⟨t, ht, rfl⟩ := List.mem_map.1 hk
                  exact G8.out.2.1 t ht)
                rw [List.length_map, HQ.out.2.2.2.2.1] at h1
                exact Nat.le_trans h1 HQ.out.2.2.1
              have HT := touch_any G9.out.1.rib G9.out.1.tw G9.out.1.yb (G9.out.1.yo _ G9.out.1.yb G9.out.1.bw) G9.out.1.yl (k := pkN a d) ⟨HN.out.2.2.2, by have h1 := okP_iff.1 HN.out.2.2.1; unfold pkN I64; dsimp only; omega⟩ (Nat.le_trans G8.out.2.2.2.2.2.2.2.2.2.2.2.2.2.2.2.1 (by decide))
              rw [G9.out.1.b] at HT
              unfold pfx pkN at HT
              dsimp only at HT
              have HT := Lib.hid HT
              clear hTl
              go_wp2_with fail
              refine (HT.out).mono ?_
              rintro e2 w10 ⟨rfl, T5, ht5, hk5, hsub5, hl5, hr5, hb5⟩
              have hQ10 := G9.out.1.touch ht5 hr5 hb5
              have hne : ∀ k, k ≠ w.heap.size → k < w9.heap.size → w10.heap[k]? = w9.heap[k]? := fun k h1 h2 => hb5.block k h2 (by rw [List.mem_singleton]; exact h1)
              have hs89 : w8.heap.size < w9.heap.size := lt_of_blk G9.out.2.2.2.2.2
              have hqq := G8.out.2.2.2.2.2.2.2.2.2.2.2.2.2.2.2.2.2
              have hq8 := lt_of_blk G8.out.2.2.2.2.2.1
              have hw1w := HQ.out.2.2.2.2.2
              have hbm3 : w.heap.size < w3.heap.size := by
                have h1 := HA.out.1.yl _ HA.out.1.yb
                exact h1
              have hbx10 := (hne w3.heap.size (by omega) (by omega)).trans G9.out.2.2.1
              have hwz10 := (hne w8.heap.size (by omega) hs89).trans G9.out.2.2.2.2.2
              have hit10 := (hne q (by omega) (by omega)).trans G9.out.2.2.2.1
              have hmne : m ≠ w.heap.size := fun e => by
                have h1 := G9.out.1.yo _ G9.out.1.yb G9.out.1.bw
                exact h1 (e ▸ .inr (.inr (.inr ⟨a, d, G8.out.2.2.2.2.2.2.2.2.2.2.2.1⟩)))
              have hm10 := G9.out.2.2.2.2.1.blk_iff QN (hne m hmne (lt_of_blk G9.out.2.2.2.2.1.blk))
              have hks10 : ∀ k, w.heap.size < k → k < w1.heap.size → w10.heap[k]? = w1.heap[k]? := fun k h1 h2 => (hne k (by omega) (by omega)).trans (G9.out.2.1 k h1 h2)
              have HD := drop_map hQ10.rib G8.out.2.2.2.2.2.2.2.2.2.2.2.2.1 (Nat.le_trans G8.out.2.2.2.2.2.2.2.2.2.2.2.2.2.2.2.1 (by decide))
              rw [hQ10.b] at HD
              have HD := Lib.hid HD
              clear z0 z1 y0 y1
              have z0 := cell_of (o := 0) hbx10 rfl
              have z1 := cell_of (o := 1) hbx10 rfl
              have y0 := cell_of (o := 0) hwz10 rfl
              have y1 := cell_of (o := 1) hwz10 rfl
              have G10 := Lib.hid (And.intro hQ10 (And.intro hks10 (And.intro hbx10 (And.intro hit10 (And.intro hm10 (And.intro hk5 (show ∀ t ∈ T5, t.k ∈ P from fun t ht => (hsub5 t ht).elim (G8.out.2.1 t) (fun h => by rw [h]; exact HN.out.2.1))))))))
              clear ht5 hk5 hsub5 hl5 hr5 hb5 hQ10 hne hs89 hq8 hbx10 hwz10 hit10 hmne hm10 hks10 hqq hw1w hbm3 HT
              go_wp2_with fail
              refine (HD.out).mono ?_
              rintro e3 w11 ⟨rfl, R6, n6, hr6, hb6, hm6, hM6, hmp6⟩
              have hQ11 := G10.out.1.drop hr6 (hb6.trans G10.out.1.b.symm) hm6 G10.out.2.2.2.2.2.1
              have hYn : ∀ k, ((Y k ∨ k = w3.heap.size) ∨ k = q) → w.heap.size ≤ k → w11.heap[k]? = w10.heap[k]? := fun k hk h2 => hm6.same k (G10.out.1.yl k hk) (G10.out.1.yo k hk h2)
              have hks11 : ∀ k, w.heap.size < k → k < w1.heap.size → w11.heap[k]? = w1.heap[k]? := fun k h1 h2 => (hYn k (.inl (.inl (HA.out.2.2.2.2 k (Nat.le_of_lt h1) h2))) (Nat.le_of_lt h1)).trans (G10.out.2.1 k h1 h2)
              have hqq := G8.out.2.2.2.2.2.2.2.2.2.2.2.2.2.2.2.2.2
              have hit11 := (hYn q (.inr rfl) hqq.1).trans G10.out.2.2.2.1
              have hbx11 := (hYn w3.heap.size (.inl (.inr rfl)) HA.out.1.mv.size).trans G10.out.2.2.1
              have hMs := G8.out.2.2.2.2.2.2.2.2.2.2.2.1
              have hm11 := hmp6 m clk es hMs G10.out.2.2.2.2.1
              have hlay11 := G8.out.2.2.2.2.2.2.2.1.del (r1, i1)
              rw [← atV_drop] at hlay11
              have hM11 : R6.M a d = some (some m) ∨ R6.M a d = none := (hM6 a d).imp_left fun h => h.trans hMs
              have G11 := Lib.hid (And.intro hQ11 (And.intro hks11 (And.intro hit11 (And.intro hbx11 (And.intro hm11 (And.intro hlay11 hM11))))))
              clear hr6 hb6 hm6 hM6 hmp6 hQ11 hYn hks11 hqq hit11 hbx11 hMs hm11 hlay11 hM11 HD z0 z1 y0 y1
              go_wp2_with fail
              refine ⟨⟨_, R6, n6, _, T5, seen.push bn, done ++ [((r1, i1), ev, bn)], MR.del es (r1, i1), G11.out.1, G10.out.2.2.2.2.2.2, (fun x hx => G8.out.2.2.1 x (dropV_sub hx)), G11.out.2.1, G11.out.2.2.2.1, G11.out.2.2.1, G11.out.2.2.2.2.1, G11.out.2.2.2.2.2.1, (fun e' he' => G8.out.2.2.2.2.2.2.2.2.1 e' (List.mem_filter.1 he').1), G8.out.2.2.2.2.2.2.2.2.2.1, fun e' he' hs => ?_, G11.out.2.2.2.2.2.2⟩, ?_⟩
              · obtain ⟨h1, h2⟩ := List.mem_filter.1 he'
                refine G8.out.2.2.2.2.2.2.2.2.2.2.1 e' h1 hs fun hee => ?_
                rw [hee, decide_eq_true_eq] at h2
                exact h2 rfl
              · have h5 : seenN w11 q = (seen.push bn).size := seenN_of G11.out.2.2.1
                have h6 := G8.out.2.2.2.2.2.2.2.2.2.2.2.2.2.1
                have h7 := G8.out.2.2.2.2.2.2.2.2.2.2.2.2.2.2.1
                rw [h5, h7]
                have h8 := h6.1
                have h9 := h6.2
                rw [Array.size_push] at h9 ⊢
                omega
            · have e1 : (r1 == r) = false := by simpa using hrr
              have HRR := Lib.hid hrr
              clear hrr
              go_wp2_with fail
              refine ⟨⟨D, Ri2, n2, Gi2, T2, seen.push bn, done ++ [((r1, i1), ev, bn)], es, G9.out.1, G8.out.2.1, G8.out.2.2.1, G9.out.2.1, G9.out.2.2.1, G9.out.2.2.2.1, G9.out.2.2.2.2.1, G8.out.2.2.2.2.2.2.2.1, G8.out.2.2.2.2.2.2.2.2.1, G8.out.2.2.2.2.2.2.2.2.2.1, fun e' he' hs => ?_, .inl G8.out.2.2.2.2.2.2.2.2.2.2.2.1⟩, ?_⟩
              · by_cases hee : e' = ((r1, i1), ev, bn)
                · rw [hee]; exact HRR.out
                · exact G8.out.2.2.2.2.2.2.2.2.2.2.1 e' he' hs hee
              · have h5 : seenN w9 q = (seen.push bn).size := seenN_of G9.out.2.2.2.1
                have h6 := G8.out.2.2.2.2.2.2.2.2.2.2.2.2.2.1
                have h7 := G8.out.2.2.2.2.2.2.2.2.2.2.2.2.2.2.1
                rw [h5, h7]
                have h8 := h6.1
                have h9 := h6.2
                rw [Array.size_push] at h9 ⊢
                omega
    · obtain rfl : i = pn := by omega
      have hil : ((i : Int) < (i : Int)) = False := by simp
      have hGl : Gi.length ≤ 3000000 := by
        have h1 := congrArg List.length hA.st
        rw [List.length_map] at h1
        rw [h1]
        refine Nat.le_trans (List.length_filter_le _ _) ?_
        rw [← HH.out.2.2.1, List.length_map]
        exact HH.out.2.1
      have hTl : T.length ≤ 3000000 := by
        have h1 := nodup_len (M := P) hA.tw.at'.nd (fun k hk => by
          obtain ⟨t, ht, rfl⟩ := List.mem_map.1 hk
          exact hTP t ht)
        rw [List.length_map, HQ.out.2.2.2.2.1] at h1
        exact Nat.le_trans h1 HQ.out.2.2.1
      have HCH := Lib.hid (changed_any hA.rib hA.tw (by omega) (by omega))
      rw [hA.b] at HCH
      have hfl : Gi.map RtV.rt = flushR r S0 := by
        rw [hA.st]
        unfold flushR
        refine List.filter_congr fun x hx => ?_
        rw [Bool.eq_iff_iff, decide_eq_true_eq, decide_eq_true_eq]
        constructor
        · intro hn
          have h1 : x ∈ Gi.map RtV.rt := by rw [hA.st]; exact List.mem_filter.2 ⟨hx, by simpa using hn⟩
          obtain ⟨y, hy, rfl⟩ := List.mem_map.1 h1
          refine hdone y hy ?_
          rw [List.take_of_length_le (by rw [HQ.out.2.2.2.2.1]; exact Nat.le_refl _)]
          exact (HQ.out.2.2.2.1.is _).2 ⟨_, hx, rfl⟩
        · intro hn hd
          exact hn (hA.dr _ hd)
      have G3 := Lib.hid (And.intro hA hfl)
      clear hA hTP hdone hks hY1 hsl3 hGl hTl hfl hi
      go_wp2_with fail
      refine (HCH.out).mono ?_
      rintro e w6 ⟨v, L, rfl, ho, hch, hb6⟩
      have HF := Lib.hid (And.intro (ho.mono G3.out.1.mv.size) (And.intro hch (G3.out.1.keep hb6)))
      have HOB := Lib.hid (show ∃ B, RPk.Own w6 B v L ∧ ∀ k, Ri.F k → k < B from ⟨_, ho, fun k hk => G3.out.1.rib.lt hk⟩)
      clear ho hch hb6 HCH
      go_wp2_with fail
      go_ret
      exact ⟨v, L, Ri, ni, Gi, rfl, HF.out.1, by rw [HH.out.2.2.1]; exact HF.out.2.1, HF.out.2.2.rib.lessX HF.out.2.2.yx, by rw [HH.out.2.2.1]; exact G3.out.2, HF.out.2.2.b, HF.out.2.2.mv, HOB.out⟩
theorem flush_any {w : World} {R : Rb} {X : Nat → Prop} {n : Nat} {asn room ref : Int} {G : List RtV} (H : RibAt w R X n asn room ref G) (hX : ∀ k, X k → k < w.heap.size) (hG : G.length ≤ 3000000) (r : Int) :
    Calls Tryz.prog 36 #[.pointer (some ⟨R.b, 0, none⟩), .int .i64 r] w fun e w' => ∃ v L R' n' G', e = .returned v ∧ RPk.Own w' w.heap.size v L ∧ Chg (G.map RtV.rt) (G'.map RtV.rt) L ∧ RibAt w' R' X n' asn room ref G' ∧ G'.map RtV.rt = flushR r (G.map RtV.rt) ∧ R'.b = R.b ∧ Moved w w' R.F R'.F :=
  (flush_anyB H hX hG r).mono fun _e _w' ⟨v, L, R', n', G', h1, h2, h3, h4, h5, h6, h7, _⟩ => ⟨v, L, R', n', G', h1, h2, h3, h4, h5, h6, h7⟩

end Go.Proofs.YtadoflcomienoaaGreat

