/- The reference: Get, Of, Routes. -/
import Derived.Test.YtadoflcomienoaaGreatZay
import Derived.Test.YtadoflcomienoaaGreatZas
namespace Go.Proofs.YtadoflcomienoaaGreat.Rr
open Go.RowKit

def GetQ (F : Nat → Prop) (w : World) (s : SlV RtV) (k : RKey) (hs : Bool) (y : AtV) (w' : World) : Prop := (∀ z ∈ s.l, z.key = k → y = z.a) ∧ (hs = false → y = atZV) ∧ (HoldF F w' fun V => AtOk V y) ∧ Below w.heap.size w w'
theorem get_is {L : List RtV} (h : Ord L) {k : RKey} (hk : hasO L k = true) : idxO L k < L.length ∧ L.getD (idxO L k) default ∈ L ∧ ∀ z ∈ L, z.key = k → (L.getD (idxO L k) default).a = z.a := by
  unfold hasO at hk
  rcases at_idx h k with ⟨h1, h2, h3, -⟩ | ⟨-, h2, -⟩
  · refine ⟨h1, getD_mem h1, fun z hz hzk => ?_⟩
    have h4 := (Kl.look_some h.keys).2 ⟨hz, hzk⟩
    rw [h3] at h4
    injection h4 with h4
    rw [h4]
  · rw [h2] at hk; cases hk
theorem get_no {L : List RtV} (h : Ord L) {k : RKey} (hk : hasO L k = false) : ∀ z ∈ L, z.key ≠ k := fun z hz e => by
  rw [(has_iff h k).2 ⟨z, hz, e⟩] at hk
  cases hk
theorem hold_new {F : Nat → Prop} {w W1 w' : World} {q : Nat} {x : RtV} (_h : HoldF F W1 fun V => RtOk V x) (h0 : (HoldF F w fun V => RtOk V x) ∧ Below w.heap.size w W1 ∧ w.heap.size ≤ q) (hb : But W1 w' [q]) : HoldF F w' fun V => AtOk V x.a :=
  (h0.1.imp fun _ h => h.a).turn (Nat.le_trans h0.2.1.size hb.size) (fun k hk hn => (hb.block k (Nat.lt_of_lt_of_le hk h0.2.1.size) (by rw [List.mem_singleton]; omega)).trans (h0.2.1.block k hk)) fun k hk => .inl hk
set_option maxRecDepth 100000 in
set_option maxHeartbeats 4000000 in
theorem xget_any {F : Nat → Prop} {w : World} {q : Nat} {asn room rf : Int} {s : SlV RtV} (H : RefF F w q asn room rf s) (ho : Ord s.l) (k : RKey) : Calls Tryz.prog 28 #[.pointer (some ⟨q, 0, none⟩), .agg #[.int .i64 k.1, .int .u32 (k.2.1.1 : Int), .int .i64 k.2.1.2, .int .i64 k.2.2]] w fun e w' => ∃ y : AtV, e = .returned (.tuple #[y.v, .bool (hasO s.l k)]) ∧ GetQ F w s k (hasO s.l k) y w' := by
  have hal := ((Below.refl w.heap.size w).alloc (Nat.le_refl _) (.cells #[.int .i64 k.1, .int .u32 (k.2.1.1 : Int), .int .i64 k.2.1.2, .int .i64 k.2.2] 62)).alloc (by simp) (.cells #[.int .i64 0, .slice none 0 0, .int .u32 0, .int .i64 0, .int .i64 0, .slice none 0 0] 40)
  have hz : ((w.alloc (.cells #[.int .i64 k.1, .int .u32 (k.2.1.1 : Int), .int .i64 k.2.1.2, .int .i64 k.2.2] 62)).alloc (.cells #[.int .i64 0, .slice none 0 0, .int .u32 0, .int .i64 0, .int .i64 0, .slice none 0 0] 40)).heap[w.heap.size + 1]? = some (.cells #[.int .i64 0, .slice none 0 0, .int .u32 0, .int .i64 0, .int .i64 0, .slice none 0 0] 40) := hnewAt (by simp)
  have hps : BxQ w.heap.size k ((w.alloc (.cells #[.int .i64 k.1, .int .u32 (k.2.1.1 : Int), .int .i64 k.2.1.2, .int .i64 k.2.2] 62)).alloc (.cells #[.int .i64 0, .slice none 0 0, .int .u32 0, .int .i64 0, .int .i64 0, .slice none 0 0] 40)) := (((Below.refl (w.alloc (.cells #[.int .i64 k.1, .int .u32 (k.2.1.1 : Int), .int .i64 k.2.1.2, .int .i64 k.2.2] 62)).heap.size (w.alloc (.cells #[.int .i64 k.1, .int .u32 (k.2.1.1 : Int), .int .i64 k.2.1.2, .int .i64 k.2.2] 62))).alloc (Nat.le_refl _) (.cells #[.int .i64 0, .slice none 0 0, .int .u32 0, .int .i64 0, .int .i64 0, .slice none 0 0] 40)).block _ (by simp)).trans (hnew _ _)
  have HF := Lib.hid (rfind_any (H.keep hal).x ho k)
  have F0 := Lib.hid (And.intro hal (And.intro (H.keep hal) hz))
  obtain ⟨z0, z1, z2, z3⟩ := hps.cells
  have HGA := Lib.hid (fun h : hasO s.l k = true => get_is ho h)
  have HNO := Lib.hid (fun h : hasO s.l k = false => get_no ho h)
  have HEL := Lib.hid H.el
  clear hal hz hps H ho
  generalize hasO s.l k = hs at *
  generalize idxO s.l k = ix at *
  go_enter Tryz.func28, Tryz.ntmps28
  go_wp2_with fail
  refine HF.out.mono ?_
  rintro e W1 ⟨rfl, hb⟩
  have F2 := Lib.hid (And.intro (bcall F0.out.1 (Nat.le_refl _) hb) (And.intro (F0.out.2.1.keep hb) ((hb.block _ (lt_of_blk F0.out.2.2)).trans F0.out.2.2)))
  clear hb HF F0 z0 z1 z2 z3
  cases hs with
  | false =>
    go_wp2_with (with_reducible refine halt_store 40 (x := .tmp 4) rfl ?_)
    refine Halted.go ?_
    refine store_whole rfl 40 _ _ rfl (w.heap.size + 1) #[.int .i64 0, .slice none 0 0, .int .u32 0, .int .i64 0, .int .i64 0, .slice none 0 0] rfl rfl F2.out.2.2 rfl (by kernel_rfl) (by simp [Value.oneCell']) ?_
    intro W5 hwz hsz
    have HF := Lib.hid (And.intro hwz (F2.out.1.trans (hsz.below (Nat.le_succ _))))
    clear hwz hsz
    go_wp2_with fail
    refine ret_cell2 rfl rfl rfl HF.out.1 Tryz.underlying40 rfl (by kernel_rfl) ?_
    exact ⟨atZV, rfl, fun z hz hk => absurd hk (HNO.out (by first | rfl | trivial) z hz), fun _ => rfl, fun V _ _ => atZ_ok V, HF.out.2⟩
  | true =>
    obtain ⟨h1, h2, h3⟩ := HGA.out (by first | rfl | trivial)
    obtain ⟨a1, n, c, L⟩ := s
    dsimp only at h1 h2 h3 HNO ⊢
    have h0 := F2.out.2.1.blk
    have hsl := F2.out.2.1.hd.now.sl
    dsimp only at h0 hsl
    have hn : L.length = n := hsl.len.symm
    rw [hn] at h1
    obtain ⟨b, o, rfl, hlt, hat⟩ := hsl.at h1
    have c0 : W1.cell? ⟨q, 0, none⟩ = some (.slice (some ⟨b, o, none⟩) n c) := cell_of h0 rfl
    have hel := F2.out.2.1.el _ h2
    have hel0 := HEL.out _ h2
    try dsimp only at hat
    generalize L.getD ix default = x at *
    have y4 := hat 4 (by decide)
    have y5 := hat 5 (by decide)
    have y6 := hat 6 (by decide)
    have y7 := hat 7 (by decide)
    have y8 := hat 8 (by decide)
    have y9 := hat 9 (by decide)
    simp only [RRt, List.getElem?_cons_zero, List.getElem?_cons_succ] at y4 y5 y6 y7 y8 y9
    have hkl : ((ix : Int) < (n : Int)) = True := by simp; omega
    have hk0 : ((0 : Int) ≤ (ix : Int)) = True := by simp
    have HE := Lib.hid (And.intro hel h3)
    have HE0 := Lib.hid (And.intro hel0 (And.intro F2.out.1 (Nat.le_succ w.heap.size)))
    clear h0 hsl hlt hat h1 h2 h3 hn hel hel0
    go_wp2_with (with_reducible refine halt_store 40 (x := .tmp 4) rfl ?_)
    refine Halted.go ?_
    refine store_whole rfl 40 _ _ rfl (w.heap.size + 1) #[.int .i64 x.a.o, .slice x.a.p.a x.a.p.n x.a.p.c, .int .u32 x.a.nx, .int .i64 x.a.md, .int .i64 x.a.pf, .slice x.a.c.a x.a.c.n x.a.c.c] rfl rfl F2.out.2.2 rfl (by kernel_rfl) (by simp [Value.oneCell']) ?_
    intro Wz hwz hsz
    have hgr : But W1 Wz [w.heap.size + 1] := But.of_set hsz (by simp)
    have HZ := Lib.hid (And.intro hwz (And.intro (F2.out.1.trans (hsz.below (Nat.le_succ _))) hgr))
    clear hwz hsz hgr
    go_wp2_with fail
    refine ret_cell2 rfl rfl rfl HZ.out.1 Tryz.underlying40 rfl (by kernel_rfl) ?_
    refine ⟨x.a, rfl, HE.out.2, (fun h => nomatch h), ?_, HZ.out.2.1⟩
    exact fun V hs he => hold_new HE.out.1 HE0.out HZ.out.2.2 V hs he
set_option maxRecDepth 100000 in
set_option maxHeartbeats 4000000 in
theorem xof_any {w : World} {q : Nat} {asn room rf : Int} {s : SlV RtV} (H : RefX w q asn room rf s) (r : Int) : Calls Tryz.prog 72 #[.pointer (some ⟨q, 0, none⟩), .int .i64 r] w fun e w' => e = .returned (.int .i64 (((s.l.filter fun x => decide (x.r = r)).length : Nat) : Int)) ∧ Below w.heap.size w w' := by
  obtain ⟨a1, n, c, L⟩ := s
  have hmax : n ≤ maxLen := H.sl.sl.max
  have HL := Lib.hid (show n = L.length from H.sl.sl.len)
  have F := Lib.hid H
  dsimp only
  clear H
  go_enter Tryz.func72, Tryz.ntmps72
  go_wp2_with fail
  go_loopw [5, 6] (fun ov iv wr => ∃ i : Nat, i ≤ n ∧ iv = .int .i64 i ∧ ov = .int .i64 ((((L.take i).filter fun x => decide (x.r = r)).length : Nat) : Int) ∧ Below w.heap.size w wr) (fun _ iv _ => n - (intOf iv).toNat)
  case atStart => exact ⟨0, Nat.zero_le _, rfl, rfl, Below.refl _ _⟩
  case round =>
    obtain ⟨i, hi, rfl, rfl, hb⟩ := hrel
    obtain ⟨w2, rfl⟩ : ∃ w2 : World, w2 = wr := ⟨_, rfl⟩
    have hblk := (hb.block _ (lt_of_blk F.out.blk)).trans F.out.blk
    have f0 : w2.cell? ⟨q, 0, none⟩ = some (.slice a1 n c) := cell_of hblk rfl
    by_cases hlt : i < n
    · have hil : ((i : Int) < (n : Int)) = True := by simp; omega
      have hi0 : ((0 : Int) ≤ (i : Int)) = True := by simp
      have hw3 := wrapS hlt hmax
      have hiL : i < L.length := by rw [← HL.out]; exact hlt
      obtain ⟨b0, o0, ea, hbb, hat⟩ := (F.out.sl.keep hb fun _ _ h => h.keep hb).sl.at hlt
      dsimp only at ea hat
      subst ea
      have hts : ((L.take (i + 1)).filter fun x => decide (x.r = r)).length = ((L.take i).filter fun x => decide (x.r = r)).length + (if (L.getD i default).r = r then 1 else 0) := by
        rw [List.take_succ_eq_append_getElem hiL, List.filter_append, List.length_append, List.getD_eq_getElem?_getD, List.getElem?_eq_getElem hiL, Option.getD_some]
        congr 1
        rw [List.filter_cons]
        split <;> simp_all
      obtain ⟨x, hx⟩ : ∃ x, L.getD i default = x := ⟨_, rfl⟩
      rw [hx] at hat hts
      obtain ⟨m, hm⟩ : ∃ m, ((L.take i).filter fun x => decide (x.r = r)).length = m := ⟨_, rfl⟩
      have hm2 : m ≤ i := by
        rw [← hm]
        refine Nat.le_trans (List.length_filter_le _ _) ?_
        rw [List.length_take]
        omega
      rw [hm] at hts ⊢
      have c0 := hat 0 (by decide)
      simp only [RRt, Nat.add_zero, List.getElem?_cons_zero] at c0
      have G := Lib.hid (And.intro hb (And.intro hts (show wrap64 ((m : Int) + 1) = ((m + 1 : Nat) : Int) by rw [Int.natCast_succ]; unfold wrap64; unfold maxLen at hmax; omega)))
      clear hb hts hx hat hbb hiL hm hm2 hblk
      by_cases hr : x.r = r
      · have e1 : (x.r == r) = true := by simp [hr]
        have e2 := G.out.2.2
        have HR := Lib.hid hr
        clear hr
        go_wp2_with fail
        exact ⟨⟨i + 1, hlt, by first | rw [hw3] | rw [Int.natCast_succ], by rw [G.out.2.1, if_pos HR.out]; first | rw [e2] | rw [Int.natCast_succ], G.out.1⟩, by first | (rw [hw3]; exact mSucc hlt) | (rw [← Int.natCast_succ]; exact mSucc hlt)⟩
      · have e1 : (x.r == r) = false := by simpa using hr
        have HR := Lib.hid hr
        clear hr
        go_wp2_with fail
        exact ⟨⟨i + 1, hlt, by first | rw [hw3] | rw [Int.natCast_succ], by rw [G.out.2.1, if_neg HR.out, Nat.add_zero], G.out.1⟩, by first | (rw [hw3]; exact mSucc hlt) | (rw [← Int.natCast_succ]; exact mSucc hlt)⟩
    · obtain rfl : n = i := by omega
      have hil : ((n : Int) < (n : Int)) = False := by simp
      have htk : L.take n = L := List.take_of_length_le (by rw [← HL.out]; exact Nat.le_refl _)
      rw [htk]
      have HB := Lib.hid hb
      clear hb
      go_wp2_with fail
      go_ret
      exact ⟨rfl, HB.out⟩
theorem at_rangeR {W : World} {b o : Nat} {z : RtV} (h : RRt.At W b o z) : W.rangeAt b (o + 1) (#[.int .u32 (z.k.1 : Int), .int .i64 z.k.2] : Array Value).toList := by
  intro j v hv
  have hj : j < 2 := (List.getElem?_eq_some_iff.1 hv).1
  have h1 := h (1 + j) (show 1 + j < 10 by omega)
  rw [← Nat.add_assoc] at h1
  refine h1.trans ?_
  rw [← hv]
  match j, hj with
  | 0, _ => rfl
  | 1, _ => rfl
structure RoS (q qp b o : Nat) (v : Value) (p : PK) (x : RtV) (W : World) : Prop where
  c : W.cell? ⟨q, 0, none⟩ = some v
  p : W.heap[qp]? = some (.cells #[.int .u32 (p.1 : Int), .int .i64 p.2] 58)
  e : RRt.At W b o x
set_option maxRecDepth 100000 in
set_option maxHeartbeats 8000000 in
theorem xroutes_any {w : World} {q : Nat} {asn room rf : Int} {s : SlV RtV} (H : RefX w q asn room rf s) (hn : s.n ≤ 4000000) (p : PK) : Calls Tryz.prog 73 #[.pointer (some ⟨q, 0, none⟩), pfx p.1 p.2] w fun e w' => ∃ v, e = .returned v ∧ RRt.Own w' w.heap.size v (s.l.filter fun x => decide (x.k = p)) ∧ Below w.heap.size w w' := by
  obtain ⟨a1, n, c, L⟩ := s
  have hmax : n ≤ maxLen := H.sl.sl.max
  have HL := Lib.hid (show n = L.length from H.sl.sl.len)
  have hal := (Below.refl w.heap.size w).alloc (Nat.le_refl _) (.cells #[.int .u32 (p.1 : Int), .int .i64 p.2] 58)
  have hp : (w.alloc (.cells #[.int .u32 (p.1 : Int), .int .i64 p.2] 58)).heap[w.heap.size]? = some (.cells #[.int .u32 (p.1 : Int), .int .i64 p.2] 58) := hnew _ _
  have F := Lib.hid (And.intro hal (And.intro (H.keep hal) (And.intro hp hn)))
  dsimp only
  unfold pfx
  clear H hal hp hn
  go_enter Tryz.func73, Tryz.ntmps73
  go_wp2_with fail
  generalize w.alloc (.cells #[.int .u32 (p.1 : Int), .int .i64 p.2] 58) = W1 at *
  obtain ⟨qp, hq⟩ : ∃ qp, w.heap.size = qp := ⟨_, rfl⟩
  have F1 := Lib.hid (show Below w.heap.size w W1 ∧ RefX W1 q asn room rf ⟨a1, n, c, L⟩ ∧ W1.heap[qp]? = some (.cells #[.int .u32 (p.1 : Int), .int .i64 p.2] 58) ∧ n ≤ 4000000 from hq ▸ F.out)
  rw [show (⟨w.heap.size, 0, none⟩ : Addr) = ⟨qp, 0, none⟩ by rw [hq]]
  clear hq F
  go_loopw [5, 6] (fun ov iv wr => ∃ i : Nat, i ≤ n ∧ iv = .int .i64 i ∧ RRt.Own wr W1.heap.size ov ((L.take i).filter fun x => decide (x.k = p)) ∧ Below W1.heap.size W1 wr) (fun _ iv _ => n - (intOf iv).toNat)
  case atStart => exact ⟨0, Nat.zero_le _, rfl, Rep.Own.nil _ _, Below.refl _ _⟩
  case round =>
    obtain ⟨i, hi, rfl, hown, hb⟩ := hrel
    obtain ⟨w2, rfl⟩ : ∃ w2 : World, w2 = wr := ⟨_, rfl⟩
    obtain ⟨oo, oc, rfl, -, -⟩ := hown.sl0
    have hblk := (hb.block _ (lt_of_blk F1.out.2.1.blk)).trans F1.out.2.1.blk
    have f0 : w2.cell? ⟨q, 0, none⟩ = some (.slice a1 n c) := cell_of hblk rfl
    by_cases hlt : i < n
    · have hil : ((i : Int) < (n : Int)) = True := by simp; omega
      have hi0 : ((0 : Int) ≤ (i : Int)) = True := by simp
      have hw3 := wrapS hlt hmax
      have hiL : i < L.length := by rw [← HL.out]; exact hlt
      have hd := (Below.refl w2.heap.size w2).drew
      have hbd := bcall hb (Nat.le_refl _) hd
      obtain ⟨b0, o0, ea, hbb, hat⟩ := (F1.out.2.1.sl.keep hbd fun _ _ h => h.keep hbd).sl.at hlt
      dsimp only at ea hat
      subst ea
      have hts : (L.take (i + 1)).filter (fun x => decide (x.k = p)) = (L.take i).filter (fun x => decide (x.k = p)) ++ (if (L.getD i default).k = p then [L.getD i default] else []) := by
        rw [List.take_succ_eq_append_getElem hiL, List.filter_append, List.getD_eq_getElem?_getD, List.getElem?_eq_getElem hiL, Option.getD_some]
        congr 1
        rw [List.filter_cons]
        split <;> simp_all
      obtain ⟨x, hx⟩ : ∃ x, L.getD i default = x := ⟨_, rfl⟩
      rw [hx] at hat hts
      obtain ⟨L0, hL0⟩ : ∃ L0, (L.take i).filter (fun x => decide (x.k = p)) = L0 := ⟨_, rfl⟩
      have hl0 : L0.length ≤ n := by
        rw [← hL0]
        refine Nat.le_trans (List.length_filter_le _ _) ?_
        rw [List.length_take]
        omega
      rw [hL0] at hown hts ⊢
      obtain ⟨l0, hln⟩ : ∃ z, L0.length = z := ⟨_, rfl⟩
      rw [hln] at hown hl0 ⊢
      have HS := Lib.hid (show RoS q qp b0 (o0 + i * 10) (.slice (some ⟨b0, o0, none⟩) n c) p x w2.drew from ⟨cell_of ((hd.block _ (lt_of_blk hblk)).trans hblk) rfl, (hbd.block _ (lt_of_blk F1.out.2.2.1)).trans F1.out.2.2.1, hat⟩)
      have G := Lib.hid (And.intro (hown.below hd) (And.intro hbd (And.intro hts (And.intro hln hl0))))
      have hbl2 := (hd.block _ (lt_of_blk hblk)).trans hblk
      have f1 : w2.drew.cell? ⟨q, 0, none⟩ = some (.slice (some ⟨b0, o0, none⟩) n c) := cell_of hbl2 rfl
      have c0 := hat 0 (by decide)
      have c1 := hat 1 (by decide)
      have c2 := hat 2 (by decide)
      have c3 := hat 3 (by decide)
      have c4 := hat 4 (by decide)
      have c5 := hat 5 (by decide)
      have c6 := hat 6 (by decide)
      have c7 := hat 7 (by decide)
      have c8 := hat 8 (by decide)
      have c9 := hat 9 (by decide)
      simp only [RRt, Nat.add_zero, List.getElem?_cons_zero, List.getElem?_cons_succ] at c0 c1 c2 c3 c4 c5 c6 c7 c8 c9
      clear hown hb hts hx hL0 hl0 hln hat hbb hiL hbd hd hblk hbl2
      obtain ⟨b1', e1⟩ : ∃ b, ((x.k.1 : Int) == (p.1 : Int)) = b := ⟨_, rfl⟩
      obtain ⟨b2', e2⟩ : ∃ b, (x.k.2 == p.2) = b := ⟨_, rfl⟩
      have HKP := Lib.hid (show (b1' && b2') = decide (x.k = p) by
        rw [← e1, ← e2, Bool.eq_iff_iff]
        simp only [decide_eq_true_eq, Bool.and_eq_true, beq_iff_eq]
        constructor
        · rintro ⟨h1, h2⟩; exact Prod.ext (by omega) h2
        · intro h; rw [h]; exact ⟨rfl, rfl⟩)
      have hcase : b1' = false ∨ (b1' = true ∧ b2' = false) ∨ (b1' = true ∧ b2' = true) := by cases b1' <;> cases b2' <;> simp
      rcases hcase with rfl | ⟨rfl, rfl⟩ | ⟨rfl, rfl⟩
      rotate_right 1
      · go_wp2_with fail
        refine wp_region_heldP (RoS q qp b0 (o0 + i * 10) (.slice (some ⟨b0, o0, none⟩) n c) p x) (by kernel_rfl) ?_
        generalize w2.drew = w3 at *
        refine held_reads [0, 1, 2, 3, 4, 5, 6, 7, 8, 9, 10] (g := 0) rfl (by kernel_rfl) HS.out (fun _ _ d _ _ h => by cases d <;> exact h) ?_
        simp only [pick, List.getD_cons_zero, List.getD_cons_succ]
        iterate 3 ((with_reducible refine wpRead_step (fun K hK => ?_)); go_simp; first | ((with_reducible refine hK _ ?_); clear hK K) | (apply Exists.intro; (with_reducible refine ⟨fun w' hw' => ?_, hK _ ?_⟩); (first | exact rfl | exact ⟨rfl, rfl⟩); clear hK K))
        ((with_reducible refine wpRead_step (fun K hK => ?_)); go_simp; first | ((with_reducible refine hK _ ?_); clear hK K) | (apply Exists.intro; (with_reducible refine ⟨fun w' hw' => ?_, hK _ ?_⟩); ((have f0 := hw'.c; go_simp; first | exact rfl | exact ⟨rfl, rfl⟩)); clear hK K))
        iterate 4 ((with_reducible refine wpRead_step (fun K hK => ?_)); go_simp; first | ((with_reducible refine hK _ ?_); clear hK K) | (apply Exists.intro; (with_reducible refine ⟨fun w' hw' => ?_, hK _ ?_⟩); (first | exact rfl | exact ⟨rfl, rfl⟩); clear hK K))
        with_reducible refine wpRead_yes ?_ ?_
        rotate_left
        rfl
        intro K hK
        refine read_load 58 _ rfl b0 (o0 + i * 10 + 1) #[.int .u32 (x.k.1 : Int), .int .i64 x.k.2] rfl (fun w' hw' => at_rangeR hw'.e) Tryz.underlying58 rfl (by kernel_rfl) (hK _ ?_)
        clear hK K
        with_reducible refine wpRead_yes ?_ ?_
        rotate_left
        rfl
        intro K hK
        refine read_load 58 _ rfl qp 0 #[.int .u32 (p.1 : Int), .int .i64 p.2] rfl (fun w' hw' => rangeAt_block hw'.p 0 _ rfl) Tryz.underlying58 rfl (by kernel_rfl) (hK _ ?_)
        clear hK K
        ((with_reducible refine wpRead_step (fun K hK => ?_)); go_simp; first | ((with_reducible refine hK _ ?_); clear hK K) | (apply Exists.intro; (with_reducible refine ⟨fun w' hw' => ?_, hK _ ?_⟩); (first | exact rfl | exact ⟨rfl, rfl⟩); clear hK K))
        with_reducible refine wpRead_nil ?_
        refine wpAnyH_done (by kernel_rfl) ?_ _
        clear f0 e1 e2
        go_wp2_with (at_builtin; refine halt ?_)
        refine Halted.go ?_
        clear c0 c1 c2 c3 c4 c5 c6 c7 c8 c9 f1
        have hal := (Below.refl w3.heap.size w3).alloc (Nat.le_refl _) (.cells #[.int .i64 x.r, .int .u32 (x.k.1 : Int), .int .i64 x.k.2, .int .i64 x.i, .int .i64 x.a.o, .slice x.a.p.a x.a.p.n x.a.p.c, .int .u32 x.a.nx, .int .i64 x.a.md, .int .i64 x.a.pf, .slice x.a.c.a x.a.c.n x.a.c.c] 93)
        have hl := G.out.2.2.2.1
        have hl2 := G.out.2.2.2.2
        have hnn := F1.out.2.2.2
        refine Rep.append_list TRt rfl _ _ rfl rfl (G.out.1.below hal) rfl (Rep.sl_one (R := RRt) (y := x) (hnew _ _)) (fun h => by cases h) (by rw [hl]; unfold maxLen; omega) (by rw [hl]; omega) (Nat.le_trans G.out.2.1.size hal.size) ?_
        intro v9 w9 hown9 hb9 _
        obtain ⟨o9, c9, rfl, -, -⟩ := hown9.sl0
        obtain ⟨l9, hl9⟩ : ∃ z, (L0 ++ [x]).length = z := ⟨_, rfl⟩
        rw [hl9] at hown9 ⊢
        have HK := Lib.hid (And.intro hown9 (And.intro ((bcall G.out.2.1 (Nat.le_refl _) hal).trans hb9) hl9))
        clear hown9 hb9 hal hl9 hl hl2 hnn
        go_wp2_with fail
        refine ⟨⟨i + 1, hlt, by first | rw [hw3] | rw [Int.natCast_succ], ?_, HK.out.2.1⟩, by first | (rw [hw3]; exact mSucc hlt) | (rw [← Int.natCast_succ]; exact mSucc hlt)⟩
        rw [G.out.2.2.1, if_pos (of_decide_eq_true (HKP.out.symm.trans rfl))]
        have h1 := HK.out.1
        rw [← HK.out.2.2] at h1 ⊢
        exact h1
      all_goals
        go_wp2_with fail
        refine wp_region_heldP (RoS q qp b0 (o0 + i * 10) (.slice (some ⟨b0, o0, none⟩) n c) p x) (by kernel_rfl) ?_
        generalize w2.drew = w3 at *
        refine held_reads [0, 1, 2, 3, 4, 5, 6, 7, 8, 9, 10] (g := 0) rfl (by kernel_rfl) HS.out (fun _ _ d _ _ h => by cases d <;> exact h) ?_
        simp only [pick, List.getD_cons_zero, List.getD_cons_succ]
        iterate 3 ((with_reducible refine wpRead_step (fun K hK => ?_)); go_simp; first | ((with_reducible refine hK _ ?_); clear hK K) | (apply Exists.intro; (with_reducible refine ⟨fun w' hw' => ?_, hK _ ?_⟩); (first | exact rfl | exact ⟨rfl, rfl⟩); clear hK K))
        ((with_reducible refine wpRead_step (fun K hK => ?_)); go_simp; first | ((with_reducible refine hK _ ?_); clear hK K) | (apply Exists.intro; (with_reducible refine ⟨fun w' hw' => ?_, hK _ ?_⟩); ((have f0 := hw'.c; go_simp; first | exact rfl | exact ⟨rfl, rfl⟩)); clear hK K))
        iterate 4 ((with_reducible refine wpRead_step (fun K hK => ?_)); go_simp; first | ((with_reducible refine hK _ ?_); clear hK K) | (apply Exists.intro; (with_reducible refine ⟨fun w' hw' => ?_, hK _ ?_⟩); (first | exact rfl | exact ⟨rfl, rfl⟩); clear hK K))
        with_reducible refine wpRead_yes ?_ ?_
        rotate_left
        rfl
        intro K hK
        refine read_load 58 _ rfl b0 (o0 + i * 10 + 1) #[.int .u32 (x.k.1 : Int), .int .i64 x.k.2] rfl (fun w' hw' => at_rangeR hw'.e) Tryz.underlying58 rfl (by kernel_rfl) (hK _ ?_)
        clear hK K
        with_reducible refine wpRead_yes ?_ ?_
        rotate_left
        rfl
        intro K hK
        refine read_load 58 _ rfl qp 0 #[.int .u32 (p.1 : Int), .int .i64 p.2] rfl (fun w' hw' => rangeAt_block hw'.p 0 _ rfl) Tryz.underlying58 rfl (by kernel_rfl) (hK _ ?_)
        clear hK K
        ((with_reducible refine wpRead_step (fun K hK => ?_)); go_simp; first | ((with_reducible refine hK _ ?_); clear hK K) | (apply Exists.intro; (with_reducible refine ⟨fun w' hw' => ?_, hK _ ?_⟩); (first | exact rfl | exact ⟨rfl, rfl⟩); clear hK K))
        with_reducible refine wpRead_nil ?_
        refine wpAnyH_done (by kernel_rfl) ?_ _
        clear f0 e1
        go_wp2_with fail
        refine ⟨⟨i + 1, hlt, by first | rw [hw3] | rw [Int.natCast_succ], ?_, G.out.2.1⟩, by first | (rw [hw3]; exact mSucc hlt) | (rw [← Int.natCast_succ]; exact mSucc hlt)⟩
        rw [G.out.2.2.1, if_neg (of_decide_eq_false (HKP.out.symm.trans rfl)), List.append_nil, ← G.out.2.2.2.1]
        have h1 := G.out.1
        rw [← G.out.2.2.2.1] at h1
        exact h1
    · obtain rfl : n = i := by omega
      have hil : ((n : Int) < (n : Int)) = False := by simp
      have htk : L.take n = L := List.take_of_length_le (by rw [← HL.out]; exact Nat.le_refl _)
      rw [htk] at hown ⊢
      have HB := Lib.hid (And.intro (hown.mono F1.out.1.size) (bcall F1.out.1 (Nat.le_refl _) hb))
      clear hown hb
      go_wp2_with fail
      go_ret
      exact ⟨_, rfl, HB.out.1, HB.out.2⟩
end Go.Proofs.YtadoflcomienoaaGreat.Rr

