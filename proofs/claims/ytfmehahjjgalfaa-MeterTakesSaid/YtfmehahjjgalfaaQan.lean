/- The reference's meter: count, rate, Demand. -/
import Derived.Test.YtfmehahjjgalfaaQah
import Derived.Test.YtfmehahjjgalfaaQal
import Derived.Test.YtfmehahjjgalfaaQad
import Derived.Test.YtfmehahjjgalfaaQac
namespace Go.Proofs.Ytfmehahjjgalfaa.Me
open Go.RowKit

structure Ls where
  is : Int
  src : Int
  seq : Int
  s : SlV Ct
  at' : Int
  wsrc : Int
  wseq : Int
  ws : SlV Ct
  wat : Int
def lsC (y : Ls) : List Value := [.int .i64 y.is, .int .i64 y.src, .int .i64 y.seq, .slice y.s.a y.s.n y.s.c, .int .i64 y.at', .int .i64 y.wsrc, .int .i64 y.wseq, .slice y.ws.a y.ws.n y.ws.c, .int .i64 y.wat]
def isN (s : Src) : Int := match s.last, s.ahead with
  | none, _ => 0
  | some _, none => 1
  | some _, some _ => 2
structure LsRel (w0 : World) (y : Ls) (s : Src) : Prop where
  is : y.is = isN s
  cur : Cts w0 y.s.a y.s.n y.s.c y.s.l
  was : Cts w0 y.ws.a y.ws.n y.ws.c y.ws.l
  l0 : s.last = none → y.s.l = []
  l1 : ∀ r, s.last = some r → y.seq = r.seq ∧ y.at' = r.at' ∧ y.s.l = r.cs
  a1 : ∀ r, s.ahead = some r → y.wat = r.at' ∧ y.ws.l = r.cs
structure RMet (w0 w : World) (x : Nat) (X : Nat → Src) : Prop where
  out : ∃ A : Array Value, A.size = 144 ∧ w.heap[x]? = some (.cells A 87) ∧ ∀ i, i < 16 → ∃ y, (∀ j, j < 9 → A[i * 9 + j]? = (lsC y)[j]?) ∧ LsRel w0 y (X i)
  ok : ∀ i, i < 16 → (X i).ok
theorem RMet.lt {w0 w : World} {x : Nat} {X : Nat → Src} (H : RMet w0 w x X) : x < w.heap.size := by
  obtain ⟨A, -, h, -⟩ := H.out
  exact lt_of_blk h
theorem RMet.on {w0 w w' : World} {x : Nat} {X : Nat → Src} (H : RMet w0 w x X) (hb : w'.heap[x]? = w.heap[x]?) : RMet w0 w' x X := by
  obtain ⟨A, h1, h2, h3⟩ := H.out
  exact ⟨⟨A, h1, hb.trans h2, h3⟩, H.ok⟩
theorem RMet.keep {w0 w w' : World} {x : Nat} {X : Nat → Src} (H : RMet w0 w x X) (hb : Below w.heap.size w w') : RMet w0 w' x X := H.on (hb.block _ H.lt)
def cntR (L : List Ct) (k : PK) : Int := match look L k with | some x => x.n | none => -1
theorem look_at : ∀ {L : List Ct} {i : Nat} {k : PK}, i < L.length → (∀ j, j < i → (L.getD j default).p ≠ k) → (L.getD i default).p = k → look L k = some (L.getD i default)
  | [], i, k, h, _, _ => absurd h (Nat.not_lt_zero _)
  | x :: L, 0, k, _, _, h => by
    have h' : x.p = k := h
    unfold look Kl.look
    rw [List.find?_cons_of_pos (by simpa using h')]
    rfl
  | x :: L, i + 1, k, hi, hn, h => by
    have h0 : x.p ≠ k := hn 0 (Nat.succ_pos _)
    have ih := look_at (L := L) (i := i) (k := k) (by simpa using hi) (fun j hj => hn (j + 1) (by omega)) h
    unfold look Kl.look at ih ⊢
    rw [List.find?_cons_of_neg (by simpa using h0)]
    exact ih
theorem look_off {L : List Ct} {k : PK} (h : ∀ j, j < L.length → (L.getD j default).p ≠ k) : look L k = none := by
  refine Kl.look_no fun x hx e => ?_
  obtain ⟨j, hj, rfl⟩ := List.getElem_of_mem hx
  have := h j hj
  rw [List.getD_eq_getElem?_getD, List.getElem?_eq_getElem hj, Option.getD_some] at this
  exact this e
def CnC (q2 q3 : Nat) (src seq : Int) (oa : Option Addr) (n c : Nat) (k : PK) (w : World) : Prop := RpS q2 src seq oa n c w ∧ BxP q3 k w
theorem CnC.keep {q2 q3 : Nat} {src seq : Int} {oa : Option Addr} {n c : Nat} {k : PK} {w w' : World} (h : CnC q2 q3 src seq oa n c k w) (hb : Below w.heap.size w w') : CnC q2 q3 src seq oa n c k w' := ⟨h.1.keep hb, h.2.keep hb⟩
def CeC (q2 q3 b o : Nat) (src seq : Int) (oa : Option Addr) (n c : Nat) (k : PK) (y : Ct) (w : World) : Prop := CnC q2 q3 src seq oa n c k w ∧ RCt.At w b o y
set_option maxRecDepth 100000 in
set_option maxHeartbeats 2000000 in
theorem rcount_any {w : World} {oa : Option Addr} {n c : Nat} {L : List Ct} (H : Cts w oa n c L) (src seq : Int) (k : PK) : Calls Try.prog 96 #[.agg #[.int .i64 src, .int .i64 seq, .slice oa n c], .agg #[.int .u32 (k.1 : Int), .int .i64 k.2]] w fun e w' => e = .returned (.int .i64 (cntR L k)) ∧ Below w.heap.size w w' := by
  have hal := ((Below.refl w.heap.size w).alloc (Nat.le_refl _) (.cells #[.int .i64 src, .int .i64 seq, .slice oa n c] 82)).alloc (by simp) (.cells #[.int .u32 (k.1 : Int), .int .i64 k.2] 58)
  have hC : CnC w.heap.size (w.heap.size + 1) src seq oa n c k ((w.alloc (.cells #[.int .i64 src, .int .i64 seq, .slice oa n c] 82)).alloc (.cells #[.int .u32 (k.1 : Int), .int .i64 k.2] 58)) := ⟨hold (hnew _ _), hnewAt (by simp)⟩
  have hmax : n ≤ maxLen := H.sl.max
  have HS := Lib.hid (And.intro H H.sl.len.symm)
  obtain ⟨kr, hkr⟩ : ∃ kr, cntR L k = kr := ⟨_, rfl⟩
  rw [hkr]
  have HK := Lib.hid hkr
  have F := Lib.hid (And.intro hal hC)
  clear hal hC H hkr
  go_enter Try.func96, Try.ntmps96
  go_wp2_with fail
  obtain ⟨W1, hW1⟩ : ∃ W, (w.alloc (.cells #[.int .i64 src, .int .i64 seq, .slice oa n c] 82)).alloc (.cells #[.int .u32 (k.1 : Int), .int .i64 k.2] 58) = W := ⟨_, rfl⟩
  obtain ⟨q2, hq2⟩ : ∃ q, w.heap.size = q := ⟨_, rfl⟩
  have F1 := Lib.hid (show Below w.heap.size w W1 ∧ CnC q2 (q2 + 1) src seq oa n c k W1 from hq2 ▸ hW1 ▸ F.out)
  rw [hW1]
  simp only [hq2]
  clear hW1 hq2 F
  generalize q2 + 1 = q3 at *
  go_loopw [5] (fun iv wr => ∃ i : Nat, i ≤ n ∧ iv = .int .i64 i ∧ (∀ j, j < i → (L.getD j default).p ≠ k) ∧ CnC q2 q3 src seq oa n c k wr ∧ Below w.heap.size w wr) (fun iv _ => n - (intOf iv).toNat)
  case atStart => exact ⟨0, Nat.zero_le _, rfl, fun j hj => absurd hj (Nat.not_lt_zero _), F1.out.2, F1.out.1⟩
  case round =>
    obtain ⟨i, hi, rfl, hno, hcc, hb⟩ := hrel
    obtain ⟨w2, rfl⟩ : ∃ w2 : World, w2 = wr := ⟨_, rfl⟩
    obtain ⟨z0, z1, z2⟩ := hcc.1.cells
    by_cases hlt : i < n
    · have hil : ((i : Int) < (n : Int)) = True := by simp; omega
      have hi0 : ((0 : Int) ≤ (i : Int)) = True := by simp
      have hw3 := wrapS hlt hmax
      obtain ⟨b, o, hbo, hrow⟩ := HS.out.1.sl.row (by omega)
      subst hbo
      have hat := (hrow.below hb).get i (by rw [HS.out.2]; exact hlt)
      have hblt : b < w2.heap.size := Nat.lt_of_lt_of_le hrow.lt hb.size
      obtain ⟨y, hy⟩ : ∃ y, L.getD i default = y := ⟨_, rfl⟩
      rw [hy] at hat
      have G := Lib.hid (And.intro hb (And.intro hno (And.intro hy (And.intro hcc (And.intro hat hblt)))))
      clear hb hno hy hcc hat hblt hrow
      by_cases hpk : y.p = k
      · have e1 : ((y.p.1 : Nat) : Int) = (k.1 : Int) := by rw [hpk]
        have e2 : y.p.2 = k.2 := by rw [hpk]
        have HR := Lib.hid (show y.n = kr from by
          rw [← HK.out]
          unfold cntR
          rw [look_at (by rw [HS.out.2]; exact hlt) G.out.2.1 (by rw [G.out.2.2.1]; exact hpk), G.out.2.2.1])
        clear hpk
        go_wp2_with fail
        clear z0 z1 z2
        refine wp_region_heldP (CeC q2 q3 b (o + i * 3) src seq (some ⟨b, o, none⟩) n c k y) (by kernel_rfl) ?_
        have hd := (Below.refl w2.heap.size w2).drew
        have G2 := Lib.hid (And.intro (bcall G.out.1 (Nat.le_refl _) hd) (show CeC q2 q3 b (o + i * 3) src seq (some ⟨b, o, none⟩) n c k y w2.drew from ⟨G.out.2.2.2.1.keep hd, G.out.2.2.2.2.1.keep (hd.block _ G.out.2.2.2.2.2)⟩))
        clear hd
        generalize w2.drew = V at *
        refine held_reads [0, 1, 2, 3, 4, 5, 6, 7] (g := 0) rfl (by kernel_rfl) G2.out.2 (fun _ _ d _ _ h => by cases d <;> exact h) ?_
        simp only [pick, List.getD_cons_zero, List.getD_cons_succ]
        ((with_reducible refine wpRead_step (fun K hK => ?_)); go_simp; first | ((with_reducible refine hK _ ?_); clear hK K) | (apply Exists.intro; (with_reducible refine ⟨fun w' hw' => ?_, hK _ ?_⟩); (first | exact rfl | exact ⟨rfl, rfl⟩); clear hK K))
        ((with_reducible refine wpRead_step (fun K hK => ?_)); go_simp; first | ((with_reducible refine hK _ ?_); clear hK K) | (apply Exists.intro; (with_reducible refine ⟨fun w' hw' => ?_, hK _ ?_⟩); ((obtain ⟨f0, f1, f2⟩ := hw'.1.1.cells; obtain ⟨f3, f4⟩ := hw'.1.2.cells; have f5 := hw'.2 0 (by decide); have f6 := hw'.2 1 (by decide); simp only [RCt, Nat.add_zero, List.getElem?_cons_zero, List.getElem?_cons_succ] at f5 f6; go_simp; first | exact rfl | exact ⟨rfl, rfl⟩)); clear hK K))
        ((with_reducible refine wpRead_step (fun K hK => ?_)); go_simp; first | ((with_reducible refine hK _ ?_); clear hK K) | (apply Exists.intro; (with_reducible refine ⟨fun w' hw' => ?_, hK _ ?_⟩); (first | exact rfl | exact ⟨rfl, rfl⟩); clear hK K))
        ((with_reducible refine wpRead_step (fun K hK => ?_)); go_simp; first | ((with_reducible refine hK _ ?_); clear hK K) | (apply Exists.intro; (with_reducible refine ⟨fun w' hw' => ?_, hK _ ?_⟩); (first | exact rfl | exact ⟨rfl, rfl⟩); clear hK K))
        ((with_reducible refine wpRead_step (fun K hK => ?_)); go_simp; first | ((with_reducible refine hK _ ?_); clear hK K) | (apply Exists.intro; (with_reducible refine ⟨fun w' hw' => ?_, hK _ ?_⟩); (first | exact rfl | exact ⟨rfl, rfl⟩); clear hK K))
        ((with_reducible refine wpRead_step (fun K hK => ?_)); go_simp; first | ((with_reducible refine hK _ ?_); clear hK K) | (apply Exists.intro; (with_reducible refine ⟨fun w' hw' => ?_, hK _ ?_⟩); ((obtain ⟨f0, f1, f2⟩ := hw'.1.1.cells; obtain ⟨f3, f4⟩ := hw'.1.2.cells; have f5 := hw'.2 0 (by decide); have f6 := hw'.2 1 (by decide); simp only [RCt, Nat.add_zero, List.getElem?_cons_zero, List.getElem?_cons_succ] at f5 f6; go_simp; first | exact rfl | exact ⟨rfl, rfl⟩)); clear hK K))
        ((with_reducible refine wpRead_step (fun K hK => ?_)); go_simp; first | ((with_reducible refine hK _ ?_); clear hK K) | (apply Exists.intro; (with_reducible refine ⟨fun w' hw' => ?_, hK _ ?_⟩); ((obtain ⟨f0, f1, f2⟩ := hw'.1.1.cells; obtain ⟨f3, f4⟩ := hw'.1.2.cells; have f5 := hw'.2 0 (by decide); have f6 := hw'.2 1 (by decide); simp only [RCt, Nat.add_zero, List.getElem?_cons_zero, List.getElem?_cons_succ] at f5 f6; go_simp; first | exact rfl | exact ⟨rfl, rfl⟩)); clear hK K))
        ((with_reducible refine wpRead_step (fun K hK => ?_)); go_simp; first | ((with_reducible refine hK _ ?_); clear hK K) | (apply Exists.intro; (with_reducible refine ⟨fun w' hw' => ?_, hK _ ?_⟩); (first | exact rfl | exact ⟨rfl, rfl⟩); clear hK K))
        with_reducible refine wpRead_nil ?_
        refine wpAnyH_done (by kernel_rfl) ?_ _
        have y2 := G2.out.2.2 2 (by decide)
        simp only [RCt, List.getElem?_cons_zero, List.getElem?_cons_succ] at y2
        obtain ⟨z0, z1, z2⟩ := G2.out.2.1.1.cells
        go_wp2_with fail
        go_ret
        exact ⟨ret_int HR.out, G2.out.1⟩
      · have HNO := Lib.hid (show ∀ j, j < i + 1 → (L.getD j default).p ≠ k from fun j hj => by
          by_cases e : j = i
          · rw [e, G.out.2.2.1]; exact hpk
          · exact G.out.2.1 j (by omega))
        by_cases hae : y.p.1 = k.1
        · have e1 : ((y.p.1 : Nat) : Int) = (k.1 : Int) := by rw [hae]
          have e2 : (y.p.2 == k.2) = false := by simpa using fun h => hpk (Prod.ext hae h)
          clear hpk hae
          go_wp2_with fail
          clear z0 z1 z2
          refine wp_region_heldP (CeC q2 q3 b (o + i * 3) src seq (some ⟨b, o, none⟩) n c k y) (by kernel_rfl) ?_
          have hd := (Below.refl w2.heap.size w2).drew
          have G2 := Lib.hid (And.intro (bcall G.out.1 (Nat.le_refl _) hd) (show CeC q2 q3 b (o + i * 3) src seq (some ⟨b, o, none⟩) n c k y w2.drew from ⟨G.out.2.2.2.1.keep hd, G.out.2.2.2.2.1.keep (hd.block _ G.out.2.2.2.2.2)⟩))
          clear hd
          generalize w2.drew = V at *
          refine held_reads [0, 1, 2, 3, 4, 5, 6, 7] (g := 0) rfl (by kernel_rfl) G2.out.2 (fun _ _ d _ _ h => by cases d <;> exact h) ?_
          simp only [pick, List.getD_cons_zero, List.getD_cons_succ]
          ((with_reducible refine wpRead_step (fun K hK => ?_)); go_simp; first | ((with_reducible refine hK _ ?_); clear hK K) | (apply Exists.intro; (with_reducible refine ⟨fun w' hw' => ?_, hK _ ?_⟩); (first | exact rfl | exact ⟨rfl, rfl⟩); clear hK K))
          ((with_reducible refine wpRead_step (fun K hK => ?_)); go_simp; first | ((with_reducible refine hK _ ?_); clear hK K) | (apply Exists.intro; (with_reducible refine ⟨fun w' hw' => ?_, hK _ ?_⟩); ((obtain ⟨f0, f1, f2⟩ := hw'.1.1.cells; obtain ⟨f3, f4⟩ := hw'.1.2.cells; have f5 := hw'.2 0 (by decide); have f6 := hw'.2 1 (by decide); simp only [RCt, Nat.add_zero, List.getElem?_cons_zero, List.getElem?_cons_succ] at f5 f6; go_simp; first | exact rfl | exact ⟨rfl, rfl⟩)); clear hK K))
          ((with_reducible refine wpRead_step (fun K hK => ?_)); go_simp; first | ((with_reducible refine hK _ ?_); clear hK K) | (apply Exists.intro; (with_reducible refine ⟨fun w' hw' => ?_, hK _ ?_⟩); (first | exact rfl | exact ⟨rfl, rfl⟩); clear hK K))
          ((with_reducible refine wpRead_step (fun K hK => ?_)); go_simp; first | ((with_reducible refine hK _ ?_); clear hK K) | (apply Exists.intro; (with_reducible refine ⟨fun w' hw' => ?_, hK _ ?_⟩); (first | exact rfl | exact ⟨rfl, rfl⟩); clear hK K))
          ((with_reducible refine wpRead_step (fun K hK => ?_)); go_simp; first | ((with_reducible refine hK _ ?_); clear hK K) | (apply Exists.intro; (with_reducible refine ⟨fun w' hw' => ?_, hK _ ?_⟩); (first | exact rfl | exact ⟨rfl, rfl⟩); clear hK K))
          ((with_reducible refine wpRead_step (fun K hK => ?_)); go_simp; first | ((with_reducible refine hK _ ?_); clear hK K) | (apply Exists.intro; (with_reducible refine ⟨fun w' hw' => ?_, hK _ ?_⟩); ((obtain ⟨f0, f1, f2⟩ := hw'.1.1.cells; obtain ⟨f3, f4⟩ := hw'.1.2.cells; have f5 := hw'.2 0 (by decide); have f6 := hw'.2 1 (by decide); simp only [RCt, Nat.add_zero, List.getElem?_cons_zero, List.getElem?_cons_succ] at f5 f6; go_simp; first | exact rfl | exact ⟨rfl, rfl⟩)); clear hK K))
          ((with_reducible refine wpRead_step (fun K hK => ?_)); go_simp; first | ((with_reducible refine hK _ ?_); clear hK K) | (apply Exists.intro; (with_reducible refine ⟨fun w' hw' => ?_, hK _ ?_⟩); ((obtain ⟨f0, f1, f2⟩ := hw'.1.1.cells; obtain ⟨f3, f4⟩ := hw'.1.2.cells; have f5 := hw'.2 0 (by decide); have f6 := hw'.2 1 (by decide); simp only [RCt, Nat.add_zero, List.getElem?_cons_zero, List.getElem?_cons_succ] at f5 f6; go_simp; first | exact rfl | exact ⟨rfl, rfl⟩)); clear hK K))
          ((with_reducible refine wpRead_step (fun K hK => ?_)); go_simp; first | ((with_reducible refine hK _ ?_); clear hK K) | (apply Exists.intro; (with_reducible refine ⟨fun w' hw' => ?_, hK _ ?_⟩); (first | exact rfl | exact ⟨rfl, rfl⟩); clear hK K))
          with_reducible refine wpRead_nil ?_
          refine wpAnyH_done (by kernel_rfl) ?_ _
          go_wp2_with fail
          exact ⟨⟨i + 1, hlt, by first | rw [hw3] | rw [Int.natCast_succ], HNO.out, G2.out.2.1, G2.out.1⟩, by first | (rw [hw3]; exact mSucc hlt) | (rw [← Int.natCast_succ]; exact mSucc hlt)⟩
        · have e1 : (((y.p.1 : Nat) : Int) == (k.1 : Int)) = false := by simpa using fun h : ((y.p.1 : Nat) : Int) = (k.1 : Int) => hae (by omega)
          clear hpk hae
          go_wp2_with fail
          clear z0 z1 z2
          refine wp_region_heldP (CeC q2 q3 b (o + i * 3) src seq (some ⟨b, o, none⟩) n c k y) (by kernel_rfl) ?_
          have hd := (Below.refl w2.heap.size w2).drew
          have G2 := Lib.hid (And.intro (bcall G.out.1 (Nat.le_refl _) hd) (show CeC q2 q3 b (o + i * 3) src seq (some ⟨b, o, none⟩) n c k y w2.drew from ⟨G.out.2.2.2.1.keep hd, G.out.2.2.2.2.1.keep (hd.block _ G.out.2.2.2.2.2)⟩))
          clear hd
          generalize w2.drew = V at *
          refine held_reads [0, 1, 2, 3, 4, 5, 6, 7] (g := 0) rfl (by kernel_rfl) G2.out.2 (fun _ _ d _ _ h => by cases d <;> exact h) ?_
          simp only [pick, List.getD_cons_zero, List.getD_cons_succ]
          ((with_reducible refine wpRead_step (fun K hK => ?_)); go_simp; first | ((with_reducible refine hK _ ?_); clear hK K) | (apply Exists.intro; (with_reducible refine ⟨fun w' hw' => ?_, hK _ ?_⟩); (first | exact rfl | exact ⟨rfl, rfl⟩); clear hK K))
          ((with_reducible refine wpRead_step (fun K hK => ?_)); go_simp; first | ((with_reducible refine hK _ ?_); clear hK K) | (apply Exists.intro; (with_reducible refine ⟨fun w' hw' => ?_, hK _ ?_⟩); ((obtain ⟨f0, f1, f2⟩ := hw'.1.1.cells; obtain ⟨f3, f4⟩ := hw'.1.2.cells; have f5 := hw'.2 0 (by decide); have f6 := hw'.2 1 (by decide); simp only [RCt, Nat.add_zero, List.getElem?_cons_zero, List.getElem?_cons_succ] at f5 f6; go_simp; first | exact rfl | exact ⟨rfl, rfl⟩)); clear hK K))
          ((with_reducible refine wpRead_step (fun K hK => ?_)); go_simp; first | ((with_reducible refine hK _ ?_); clear hK K) | (apply Exists.intro; (with_reducible refine ⟨fun w' hw' => ?_, hK _ ?_⟩); (first | exact rfl | exact ⟨rfl, rfl⟩); clear hK K))
          ((with_reducible refine wpRead_step (fun K hK => ?_)); go_simp; first | ((with_reducible refine hK _ ?_); clear hK K) | (apply Exists.intro; (with_reducible refine ⟨fun w' hw' => ?_, hK _ ?_⟩); (first | exact rfl | exact ⟨rfl, rfl⟩); clear hK K))
          ((with_reducible refine wpRead_step (fun K hK => ?_)); go_simp; first | ((with_reducible refine hK _ ?_); clear hK K) | (apply Exists.intro; (with_reducible refine ⟨fun w' hw' => ?_, hK _ ?_⟩); (first | exact rfl | exact ⟨rfl, rfl⟩); clear hK K))
          ((with_reducible refine wpRead_step (fun K hK => ?_)); go_simp; first | ((with_reducible refine hK _ ?_); clear hK K) | (apply Exists.intro; (with_reducible refine ⟨fun w' hw' => ?_, hK _ ?_⟩); ((obtain ⟨f0, f1, f2⟩ := hw'.1.1.cells; obtain ⟨f3, f4⟩ := hw'.1.2.cells; have f5 := hw'.2 0 (by decide); have f6 := hw'.2 1 (by decide); simp only [RCt, Nat.add_zero, List.getElem?_cons_zero, List.getElem?_cons_succ] at f5 f6; go_simp; first | exact rfl | exact ⟨rfl, rfl⟩)); clear hK K))
          ((with_reducible refine wpRead_step (fun K hK => ?_)); go_simp; first | ((with_reducible refine hK _ ?_); clear hK K) | (apply Exists.intro; (with_reducible refine ⟨fun w' hw' => ?_, hK _ ?_⟩); ((obtain ⟨f0, f1, f2⟩ := hw'.1.1.cells; obtain ⟨f3, f4⟩ := hw'.1.2.cells; have f5 := hw'.2 0 (by decide); have f6 := hw'.2 1 (by decide); simp only [RCt, Nat.add_zero, List.getElem?_cons_zero, List.getElem?_cons_succ] at f5 f6; go_simp; first | exact rfl | exact ⟨rfl, rfl⟩)); clear hK K))
          ((with_reducible refine wpRead_step (fun K hK => ?_)); go_simp; first | ((with_reducible refine hK _ ?_); clear hK K) | (apply Exists.intro; (with_reducible refine ⟨fun w' hw' => ?_, hK _ ?_⟩); (first | exact rfl | exact ⟨rfl, rfl⟩); clear hK K))
          with_reducible refine wpRead_nil ?_
          refine wpAnyH_done (by kernel_rfl) ?_ _
          go_wp2_with fail
          exact ⟨⟨i + 1, hlt, by first | rw [hw3] | rw [Int.natCast_succ], HNO.out, G2.out.2.1, G2.out.1⟩, by first | (rw [hw3]; exact mSucc hlt) | (rw [← Int.natCast_succ]; exact mSucc hlt)⟩
    · obtain rfl : n = i := by omega
      have hil : ((n : Int) < (n : Int)) = False := by simp
      have HR := Lib.hid (show (-1 : Int) = kr from by rw [← HK.out]; unfold cntR; rw [look_off (by rw [HS.out.2]; exact hno)])
      have G := Lib.hid hb
      clear hb hno hcc
      go_wp2_with fail
      go_ret
      exact ⟨ret_int HR.out, G.out⟩
end Go.Proofs.Ytfmehahjjgalfaa.Me
/- The reference's meter: rate, Demand, Stamp. -/
namespace Go.Proofs.Ytfmehahjjgalfaa.Me
open Go.RowKit

structure RrC (w0 : World) (q2 q3 : Nat) (y : Ls) (k : PK) (w : World) : Prop where
  blk : w.heap[q2]? = some (.cells #[.int .i64 y.is, .int .i64 y.src, .int .i64 y.seq, .slice y.s.a y.s.n y.s.c, .int .i64 y.at', .int .i64 y.wsrc, .int .i64 y.wseq, .slice y.ws.a y.ws.n y.ws.c, .int .i64 y.wat] 84)
  key : BxP q3 k w
  old : Below w0.heap.size w0 w
theorem RrC.cells {w0 : World} {q2 q3 : Nat} {y : Ls} {k : PK} {w : World} (h : RrC w0 q2 q3 y k w) : (w.cell? ⟨q2, 0, none⟩ = some (.int .i64 y.is) ∧ w.cell? ⟨q2, 1, none⟩ = some (.int .i64 y.src) ∧ w.cell? ⟨q2, 2, none⟩ = some (.int .i64 y.seq) ∧ w.cell? ⟨q2, 3, none⟩ = some (.slice y.s.a y.s.n y.s.c) ∧ w.cell? ⟨q2, 4, none⟩ = some (.int .i64 y.at') ∧ w.cell? ⟨q2, 5, none⟩ = some (.int .i64 y.wsrc) ∧ w.cell? ⟨q2, 6, none⟩ = some (.int .i64 y.wseq) ∧ w.cell? ⟨q2, 7, none⟩ = some (.slice y.ws.a y.ws.n y.ws.c) ∧ w.cell? ⟨q2, 8, none⟩ = some (.int .i64 y.wat)) ∧ w.cell? ⟨q3, 0, none⟩ = some (.int .u32 (k.1 : Int)) ∧ w.cell? ⟨q3, 1, none⟩ = some (.int .i64 k.2) :=
  ⟨⟨cell_of h.blk rfl, cell_of h.blk rfl, cell_of h.blk rfl, cell_of h.blk rfl, cell_of h.blk rfl, cell_of h.blk rfl, cell_of h.blk rfl, cell_of h.blk rfl, cell_of h.blk rfl⟩, h.key.cells⟩
theorem RrC.keep {w0 : World} {q2 q3 : Nat} {y : Ls} {k : PK} {w w' : World} (h : RrC w0 q2 q3 y k w) (hb : Below w.heap.size w w') : RrC w0 q2 q3 y k w' := ⟨(hb.block _ (lt_of_blk h.blk)).trans h.blk, h.key.keep hb, bcall h.old (Nat.le_refl _) hb⟩
theorem cntR_eq {L : List Ct} {k : PK} : cntR L k = if hasC L k then cnt L k else -1 := by
  unfold cntR hasC cnt
  cases look L k <;> rfl
def refV (s : Src) (a b ta tb : Int) : Int := if isN s < 2 ∨ a < 0 ∨ b < a ∨ ta ≤ tb then 0 else (b - a).tdiv (ta - tb)
theorem ref_rate {s : Src} (hok : s.ok) {k : PK} {w0 : World} {y : Ls} (h : LsRel w0 y s) : rateS s k = refV s (cntR y.ws.l k) (cntR y.s.l k) y.at' y.wat := by
  unfold refV
  cases ha : s.ahead with
  | none =>
    rw [if_pos]
    · unfold rateS; rw [ha]
    · left
      unfold isN
      rw [ha]
      cases s.last with
      | none => show (0 : Int) < 2; decide
      | some _ => show (1 : Int) < 2; decide
  | some ra =>
    cases hl : s.last with
    | none => rw [hok.two hl] at ha; cases ha
    | some rb =>
      have hn : isN s = 2 := by unfold isN; rw [ha, hl]
      have hr : rateS s k = rateR ra rb k := by unfold rateS; rw [ha, hl]
      obtain ⟨-, h2, h3⟩ := h.l1 rb hl
      obtain ⟨h4, h5⟩ := h.a1 ra ha
      rw [hr, hn, h2, h3, h4, h5, cntR_eq, cntR_eq]
      have b1 := cnt_in (hok.ahead _ ha).chk k
      have b2 := cnt_in (hok.last _ hl).chk k
      unfold rateR rateV
      cases hasC ra.cs k with
      | false => rw [if_pos (.inl rfl), if_pos]; right; left; show (-1 : Int) < 0; decide
      | true =>
        cases hasC rb.cs k with
        | false =>
          rw [if_pos (.inr (.inl rfl)), if_pos]
          right; right; left
          simp only [if_true]
          show (-1 : Int) < cnt ra.cs k
          omega
        | true =>
          simp only [if_true]
          by_cases hc : cnt rb.cs k < cnt ra.cs k ∨ rb.at' ≤ ra.at'
          · rw [if_pos (.inr (.inr hc)), if_pos (.inr (.inr hc))]
          · rw [if_neg, if_neg]
            · rintro (h | h | h)
              · exact absurd h (by decide)
              · omega
              · exact hc h
            · rintro (h | h | h)
              · cases h
              · cases h
              · exact hc h
theorem cntR_in {L : List Ct} (h : ∀ x ∈ L, inM x.n = true) (k : PK) : -1 ≤ cntR L k ∧ cntR L k ≤ 9007199254740991 := by
  unfold cntR look
  cases hl : Kl.look Ct.p L k with
  | none => exact ⟨Int.le_refl _, by decide⟩
  | some x =>
    have := inM_iff.1 (h x (Kl.look_mem hl).1)
    constructor
    · show -1 ≤ x.n
      omega
    · exact this.2
theorem ok_in {L : List Ct} (h : chkL L = true) : ∀ x ∈ L, inM x.n = true := fun x hx => by
  have := chkL_ok h hx
  unfold okC at this
  rw [Bool.and_eq_true] at this
  exact this.2
set_option maxRecDepth 100000 in
set_option maxHeartbeats 4000000 in
theorem rrate_any {w0 w : World} (hb0 : Below w0.heap.size w0 w) {y : Ls} {s : Src} (h : LsRel w0 y s) (hok : s.ok) (k : PK) : Calls Try.prog 80 #[.agg #[.int .i64 y.is, .int .i64 y.src, .int .i64 y.seq, .slice y.s.a y.s.n y.s.c, .int .i64 y.at', .int .i64 y.wsrc, .int .i64 y.wseq, .slice y.ws.a y.ws.n y.ws.c, .int .i64 y.wat], .agg #[.int .u32 (k.1 : Int), .int .i64 k.2]] w fun e w' => e = .returned (.int .i64 (rateS s k)) ∧ Below w.heap.size w w' := by
  rw [ref_rate hok h]
  have hal := ((Below.refl w.heap.size w).alloc (Nat.le_refl _) (.cells #[.int .i64 y.is, .int .i64 y.src, .int .i64 y.seq, .slice y.s.a y.s.n y.s.c, .int .i64 y.at', .int .i64 y.wsrc, .int .i64 y.wseq, .slice y.ws.a y.ws.n y.ws.c, .int .i64 y.wat] 84)).alloc (by simp) (.cells #[.int .u32 (k.1 : Int), .int .i64 k.2] 58)
  have hC : RrC w0 w.heap.size (w.heap.size + 1) y k ((w.alloc (.cells #[.int .i64 y.is, .int .i64 y.src, .int .i64 y.seq, .slice y.s.a y.s.n y.s.c, .int .i64 y.at', .int .i64 y.wsrc, .int .i64 y.wseq, .slice y.ws.a y.ws.n y.ws.c, .int .i64 y.wat] 84)).alloc (.cells #[.int .u32 (k.1 : Int), .int .i64 k.2] 58)) := ⟨hold (hnew _ _), hnewAt (by simp), bcall hb0 (Nat.le_refl _) hal⟩
  have F := Lib.hid (And.intro hal hC)
  have HC1 := Lib.hid (And.intro h.cur h.was)
  have hbd : isN s < 2 ∨ (isN s = 2 ∧ (0 ≤ y.at' ∧ y.at' ≤ 9007199254740991) ∧ (0 ≤ y.wat ∧ y.wat ≤ 9007199254740991) ∧ cntR y.ws.l k ≤ 9007199254740991 ∧ cntR y.s.l k ≤ 9007199254740991) := by
    cases ha : s.ahead with
    | none =>
      left
      unfold isN
      rw [ha]
      cases s.last with
      | none => show (0 : Int) < 2; decide
      | some _ => show (1 : Int) < 2; decide
    | some ra =>
      cases hl : s.last with
      | none => rw [hok.two hl] at ha; cases ha
      | some rb =>
        right
        obtain ⟨-, h2, h3⟩ := h.l1 rb hl
        obtain ⟨h4, h5⟩ := h.a1 ra ha
        rw [h2, h3, h4, h5]
        exact ⟨by unfold isN; rw [ha, hl], inM_iff.1 (hok.last _ hl).at', inM_iff.1 (hok.ahead _ ha).at', (cntR_in (ok_in (hok.ahead _ ha).chk) k).2, (cntR_in (ok_in (hok.last _ hl).chk) k).2⟩
  have HIS := Lib.hid h.is
  obtain ⟨rr, hrr⟩ : ∃ rr, refV s (cntR y.ws.l k) (cntR y.s.l k) y.at' y.wat = rr := ⟨_, rfl⟩
  rw [hrr]
  have HR := Lib.hid hrr
  have HA := Lib.hid (fun (W : World) (hW : Below w0.heap.size w0 W) => rcount_any (HC1.out.2.keep hW) y.wsrc y.wseq k)
  have HB := Lib.hid (fun (W : World) (hW : Below w0.heap.size w0 W) => rcount_any (HC1.out.1.keep hW) y.src y.seq k)
  generalize cntR y.ws.l k = ca at *
  generalize cntR y.s.l k = cb at *
  have HD := Lib.hid hbd
  clear hal hC h hok hbd hrr hb0
  go_enter Try.func80, Try.ntmps80
  go_wp2_with fail
  obtain ⟨W1, hW1⟩ : ∃ W, (w.alloc (.cells #[.int .i64 y.is, .int .i64 y.src, .int .i64 y.seq, .slice y.s.a y.s.n y.s.c, .int .i64 y.at', .int .i64 y.wsrc, .int .i64 y.wseq, .slice y.ws.a y.ws.n y.ws.c, .int .i64 y.wat] 84)).alloc (.cells #[.int .u32 (k.1 : Int), .int .i64 k.2] 58) = W := ⟨_, rfl⟩
  obtain ⟨q2, hq2⟩ : ∃ q, w.heap.size = q := ⟨_, rfl⟩
  have F1 := Lib.hid (show Below w.heap.size w W1 ∧ RrC w0 q2 (q2 + 1) y k W1 from hq2 ▸ hW1 ▸ F.out)
  rw [hW1]
  simp only [hq2]
  clear hW1 hq2 F
  generalize q2 + 1 = q3 at *
  refine wp_region_heldP (RrC w0 q2 q3 y k) (by kernel_rfl) ?_
  have hd := (Below.refl W1.heap.size W1).drew
  have G1 := Lib.hid (And.intro (bcall F1.out.1 (Nat.le_refl _) hd) (RrC.keep F1.out.2 hd))
  clear hd F1
  generalize W1.drew = V1 at *
  refine held_reads [0, 1, 2, 4, 5, 6] (g := 4) rfl (by kernel_rfl) G1.out.2 (fun _ _ d _ _ h => by cases d <;> exact h) ?_
  simp only [pick, List.getD_cons_zero, List.getD_cons_succ]
  ((with_reducible refine wpRead_step (fun K hK => ?_)); go_simp; first | ((with_reducible refine hK _ ?_); clear hK K) | (apply Exists.intro; (with_reducible refine ⟨fun w' hw' => ?_, hK _ ?_⟩); (first | exact rfl | exact ⟨rfl, rfl⟩); clear hK K))
  ((with_reducible refine wpRead_step (fun K hK => ?_)); go_simp; first | ((with_reducible refine hK _ ?_); clear hK K) | (apply Exists.intro; (with_reducible refine ⟨fun w' hw' => ?_, hK _ ?_⟩); ((obtain ⟨⟨f0, f1, f2, f3, f4, f5, f6, f7, f8⟩, f9, f10⟩ := hw'.cells; go_simp; first | exact rfl | exact ⟨rfl, rfl⟩)); clear hK K))
  ((with_reducible refine wpRead_step (fun K hK => ?_)); go_simp; first | ((with_reducible refine hK _ ?_); clear hK K) | (apply Exists.intro; (with_reducible refine ⟨fun w' hw' => ?_, hK _ ?_⟩); ((obtain ⟨⟨f0, f1, f2, f3, f4, f5, f6, f7, f8⟩, f9, f10⟩ := hw'.cells; go_simp; first | exact rfl | exact ⟨rfl, rfl⟩)); clear hK K))
  ((with_reducible refine wpRead_step (fun K hK => ?_)); go_simp; first | ((with_reducible refine hK _ ?_); clear hK K) | (apply Exists.intro; (with_reducible refine ⟨fun w' hw' => ?_, hK _ ?_⟩); (first | exact rfl | exact ⟨rfl, rfl⟩); clear hK K))
  ((with_reducible refine wpRead_step (fun K hK => ?_)); go_simp; first | ((with_reducible refine hK _ ?_); clear hK K) | (apply Exists.intro; (with_reducible refine ⟨fun w' hw' => ?_, hK _ ?_⟩); ((obtain ⟨⟨f0, f1, f2, f3, f4, f5, f6, f7, f8⟩, f9, f10⟩ := hw'.cells; go_simp; first | exact rfl | exact ⟨rfl, rfl⟩)); clear hK K))
  ((with_reducible refine wpRead_step (fun K hK => ?_)); go_simp; first | ((with_reducible refine hK _ ?_); clear hK K) | (apply Exists.intro; (with_reducible refine ⟨fun w' hw' => ?_, hK _ ?_⟩); ((obtain ⟨⟨f0, f1, f2, f3, f4, f5, f6, f7, f8⟩, f9, f10⟩ := hw'.cells; go_simp; first | exact rfl | exact ⟨rfl, rfl⟩)); clear hK K))
  with_reducible refine wpRead_nil ?_
  refine held_one 3 (by kernel_rfl) ?_
  simp only [pick, List.getD_cons_zero, List.getD_cons_succ]
  go_wp2_with fail
  refine (HA.out _ G1.out.2.old).mono ?_
  rintro e V2 ⟨rfl, hb⟩
  have G2 := Lib.hid (And.intro (bcall G1.out.1 (Nat.le_refl _) hb) (RrC.keep G1.out.2 hb))
  clear hb G1
  go_wp2_with fail
  refine ⟨G2.out.2, ?_⟩
  refine held_one 7 (by kernel_rfl) ?_
  simp only [pick, List.getD_cons_zero, List.getD_cons_succ]
  go_wp2_with fail
  refine (HB.out _ G2.out.2.old).mono ?_
  rintro e V3 ⟨rfl, hb⟩
  have G3 := Lib.hid (And.intro (bcall G2.out.1 (Nat.le_refl _) hb) (RrC.keep G2.out.2 hb))
  clear hb G2
  go_wp2_with fail
  refine ⟨G3.out.2, ?_⟩
  refine held_one 8 (by kernel_rfl) ?_
  simp only [pick, List.getD_cons_zero, List.getD_cons_succ]
  go_wp2_with fail
  refine ⟨G3.out.2, ?_⟩
  refine held_one 9 (by kernel_rfl) ?_
  simp only [pick, List.getD_cons_zero, List.getD_cons_succ]
  go_wp2_with fail
  refine ⟨G3.out.2, ?_⟩
  refine wpAnyH_done (by kernel_rfl) ?_ _
  obtain ⟨⟨z0, z1, z2, z3, z4, z5, z6, z7, z8⟩, z9, z10⟩ := G3.out.2.cells
  rw [HIS.out] at z0
  by_cases h2 : isN s < 2
  · have e1 := eq_true h2
    have HZ := Lib.hid (show 0 = rr from by rw [← HR.out]; exact (if_pos (.inl h2)).symm)
    clear h2
    generalize isN s = z at *
    go_wp2_with fail
    go_ret
    exact ⟨ret_int HZ.out, G3.out.1⟩
  obtain ⟨hi2, ⟨hta, hta2⟩, ⟨htb, htb2⟩, hca, hcb⟩ := HD.out.resolve_left h2
  rw [hi2] at z0
  by_cases h3 : ca < 0
  · have e1 := eq_true h3
    have HZ := Lib.hid (show 0 = rr from by rw [← HR.out]; exact (if_pos (.inr (.inl h3))).symm)
    clear h2 h3 hi2 hta hta2 htb htb2 hca hcb
    go_wp2_with fail
    go_ret
    exact ⟨ret_int HZ.out, G3.out.1⟩
  have e1 := eq_false h3
  by_cases h4 : cb < ca
  · have e2 := eq_true h4
    have HZ := Lib.hid (show 0 = rr from by rw [← HR.out]; exact (if_pos (.inr (.inr (.inl h4)))).symm)
    clear h2 h3 h4 hi2 hta hta2 htb htb2 hca hcb
    go_wp2_with fail
    go_ret
    exact ⟨ret_int HZ.out, G3.out.1⟩
  have e2 := eq_false h4
  by_cases h5 : y.at' ≤ y.wat
  · have e3 := eq_true h5
    have HZ := Lib.hid (show 0 = rr from by rw [← HR.out]; exact (if_pos (.inr (.inr (.inr h5)))).symm)
    clear h2 h3 h4 h5 hi2 hta hta2 htb htb2 hca hcb
    go_wp2_with fail
    go_ret
    exact ⟨ret_int HZ.out, G3.out.1⟩
  have e3 := eq_false h5
  have HZ := Lib.hid (show (cb - ca).tdiv (y.at' - y.wat) = rr from by
    rw [← HR.out]
    exact (if_neg (fun h => h.elim h2 fun h => h.elim h3 fun h => h.elim h4 h5)).symm)
  have b1 : wrap64 (cb - ca) = cb - ca := by unfold wrap64; omega
  have b2 : wrap64 (y.at' - y.wat) = y.at' - y.wat := by unfold wrap64; omega
  have b3 : (y.at' - y.wat = 0) = False := eq_false (by omega)
  have b4 : wrap64 ((cb - ca).tdiv (y.at' - y.wat)) = (cb - ca).tdiv (y.at' - y.wat) := by
    have h8 : 0 ≤ (cb - ca).tdiv (y.at' - y.wat) ∧ (cb - ca).tdiv (y.at' - y.wat) ≤ 9007199254740991 := by
      rw [Int.tdiv_eq_ediv_of_nonneg (by omega)]
      exact ⟨Int.ediv_nonneg (by omega) (by omega), Int.le_trans (Int.ediv_le_self _ (by omega)) (by omega)⟩
    generalize (cb - ca).tdiv (y.at' - y.wat) = z at *
    unfold wrap64; omega
  obtain ⟨d, hd0⟩ : ∃ d, y.at' - y.wat = d := ⟨_, rfl⟩
  obtain ⟨x, hx0⟩ : ∃ x, cb - ca = x := ⟨_, rfl⟩
  replace b1 := b1.trans hx0
  replace b2 := b2.trans hd0
  rw [hd0] at b3 b4 HZ
  rw [hx0] at b4 HZ
  obtain ⟨z, hz0⟩ : ∃ z, x.tdiv d = z := ⟨_, rfl⟩
  rw [hz0] at b4 HZ
  clear h2 h3 h4 h5 hi2 hta hta2 htb htb2 hca hcb hd0 hx0
  go_wp2_with fail
  go_ret
  exact ⟨ret_int (by first | exact HZ.out | exact b4.trans HZ.out), G3.out.1⟩
structure RdC (w0 : World) (x q3 i : Nat) (y : Ls) (k : PK) (X : Nat → Src) (w : World) : Prop where
  met : RMet w0 w x X
  cell : ∀ j, j < 9 → w.cell? ⟨x, i * 9 + j, none⟩ = (lsC y)[j]?
  key : BxP q3 k w
  old : Below w0.heap.size w0 w
theorem RdC.keep {w0 : World} {x q3 i : Nat} {y : Ls} {k : PK} {X : Nat → Src} {w w' : World} (h : RdC w0 x q3 i y k X w) (hb : Below w.heap.size w w') : RdC w0 x q3 i y k X w' := ⟨h.met.keep hb, fun j hj => (cell_same (hb.block _ h.met.lt)).trans (h.cell j hj), h.key.keep hb, bcall h.old (Nat.le_refl _) hb⟩
theorem RMet.at {w0 w : World} {x : Nat} {X : Nat → Src} (H : RMet w0 w x X) {i : Nat} (hi : i < 16) : ∃ y, (∀ j, j < 9 → w.cell? ⟨x, i * 9 + j, none⟩ = (lsC y)[j]?) ∧ LsRel w0 y (X i) := by
  obtain ⟨A, h1, h2, h3⟩ := H.out
  obtain ⟨y, h4, h5⟩ := h3 i hi
  refine ⟨y, fun j hj => ?_, h5⟩
  have h6 := h4 j hj
  have h7 : (lsC y)[j]? = some ((lsC y).getD j .nilIface) := by
    have : j < (lsC y).length := hj
    rw [List.getD_eq_getElem?_getD, List.getElem?_eq_getElem this]; rfl
  rw [h7] at h6 ⊢
  exact cell_of h2 h6
set_option maxRecDepth 100000 in
set_option maxHeartbeats 4000000 in
theorem rdemand_any {w0 w : World} (hb0 : Below w0.heap.size w0 w) {x : Nat} {X : Nat → Src} (H : RMet w0 w x X) (k : PK) : Calls Try.prog 53 #[.pointer (some ⟨x, 0, none⟩), .agg #[.int .u32 (k.1 : Int), .int .i64 k.2]] w fun e w' => e = .returned (.int .i64 (demI X k 16)) ∧ Below w.heap.size w w' := by
  have hal := (Below.refl w.heap.size w).alloc (Nat.le_refl _) (.cells #[.int .u32 (k.1 : Int), .int .i64 k.2] 58)
  have F := Lib.hid (And.intro hal (And.intro (H.keep hal) (And.intro (show BxP w.heap.size k (w.alloc (.cells #[.int .u32 (k.1 : Int), .int .i64 k.2] 58)) from hnew _ _) (bcall hb0 (Nat.le_refl _) hal))))
  clear hal H hb0
  go_enter Try.func53, Try.ntmps53
  go_wp2_with fail
  obtain ⟨W1, hW1⟩ : ∃ W, w.alloc (.cells #[.int .u32 (k.1 : Int), .int .i64 k.2] 58) = W := ⟨_, rfl⟩
  obtain ⟨q3, hq3⟩ : ∃ q, w.heap.size = q := ⟨_, rfl⟩
  have F1 := Lib.hid (show Below w.heap.size w W1 ∧ RMet w0 W1 x X ∧ BxP q3 k W1 ∧ Below w0.heap.size w0 W1 from hq3 ▸ hW1 ▸ F.out)
  rw [hW1]
  simp only [hq3]
  clear hW1 hq3 F
  go_loopw [5, 6] (fun nv iv wr => ∃ i : Nat, i ≤ 16 ∧ iv = .int .i64 i ∧ nv = .int .i64 (demI X k i) ∧ Below W1.heap.size W1 wr) (fun _ iv _ => 16 - (intOf iv).toNat)
  case atStart => exact ⟨0, Nat.zero_le _, rfl, rfl, Below.refl _ _⟩
  case round =>
    obtain ⟨i, hi, rfl, rfl, hb⟩ := hrel
    obtain ⟨w2, rfl⟩ : ∃ w2 : World, w2 = wr := ⟨_, rfl⟩
    by_cases hlt : i < 16
    · have hil : ((i : Int) < 16) = True := by simp; omega
      have hi0 : ((0 : Int) ≤ (i : Int)) = True := by simp
      have hw3 := wrapS hlt (show 16 ≤ maxLen by unfold maxLen; omega)
      obtain ⟨y, hyc, hyr⟩ := (F1.out.2.1.keep hb).at hlt
      have hd := (Below.refl w2.heap.size w2).drew
      have hrd : RdC w0 x q3 i y k X w2.drew := RdC.keep ⟨F1.out.2.1.keep hb, hyc, F1.out.2.2.1.keep hb, bcall F1.out.2.2.2 (Nat.le_refl _) hb⟩ hd
      have G1 := Lib.hid (And.intro (bcall hb (Nat.le_refl _) hd) hrd)
      have HR := Lib.hid (rrate_any hrd.old hyr (F1.out.2.1.ok i hlt) k)
      have HD := Lib.hid (show demI X k (i + 1) = addI (demI X k i) (rateS (X i) k) from rfl)
      have HA := Lib.hid (radd_any (demI X k i) (rateS (X i) k))
      clear hyc hyr hd hrd hb
      generalize rateS (X i) k = rv at *
      generalize demI X k i = dv at *
      generalize addI dv rv = av at *
      go_wp2_with fail
      refine wp_region_heldP (RdC w0 x q3 i y k X) (by kernel_rfl) ?_
      generalize w2.drew = V at *
      refine held_reads [0, 1, 2, 3, 4, 5, 6, 7] (g := 3) rfl (by kernel_rfl) G1.out.2 (fun _ _ d _ _ h => by cases d <;> exact h) ?_
      simp only [pick, List.getD_cons_zero, List.getD_cons_succ]
      ((with_reducible refine wpRead_step (fun K hK => ?_)); go_simp; first | ((with_reducible refine hK _ ?_); clear hK K) | (apply Exists.intro; (with_reducible refine ⟨fun w' hw' => ?_, hK _ ?_⟩); (first | exact rfl | exact ⟨rfl, rfl⟩); clear hK K))
      ((with_reducible refine wpRead_step (fun K hK => ?_)); go_simp; first | ((with_reducible refine hK _ ?_); clear hK K) | (apply Exists.intro; (with_reducible refine ⟨fun w' hw' => ?_, hK _ ?_⟩); (first | exact rfl | exact ⟨rfl, rfl⟩); clear hK K))
      ((with_reducible refine wpRead_step (fun K hK => ?_)); go_simp; first | ((with_reducible refine hK _ ?_); clear hK K) | (apply Exists.intro; (with_reducible refine ⟨fun w' hw' => ?_, hK _ ?_⟩); (first | exact rfl | exact ⟨rfl, rfl⟩); clear hK K))
      ((with_reducible refine wpRead_step (fun K hK => ?_)); go_simp; first | ((with_reducible refine hK _ ?_); clear hK K) | (apply Exists.intro; (with_reducible refine ⟨fun w' hw' => ?_, hK _ ?_⟩); (first | exact rfl | exact ⟨rfl, rfl⟩); clear hK K))
      ((with_reducible refine wpRead_step (fun K hK => ?_)); go_simp; first | ((with_reducible refine hK _ ?_); clear hK K) | (apply Exists.intro; (with_reducible refine ⟨fun w' hw' => ?_, hK _ ?_⟩); (first | exact rfl | exact ⟨rfl, rfl⟩); clear hK K))
      ((with_reducible refine wpRead_step (fun K hK => ?_)); go_simp; first | ((with_reducible refine hK _ ?_); clear hK K) | (apply Exists.intro; (with_reducible refine ⟨fun w' hw' => ?_, hK _ ?_⟩); (first | exact rfl | exact ⟨rfl, rfl⟩); clear hK K))
      ((with_reducible refine wpRead_step (fun K hK => ?_)); go_simp; first | ((with_reducible refine hK _ ?_); clear hK K) | (apply Exists.intro; (with_reducible refine ⟨fun w' hw' => ?_, hK _ ?_⟩); ((have f0 := hw'.cell 0 (by decide); have f1 := hw'.cell 1 (by decide); have f2 := hw'.cell 2 (by decide); have f3 := hw'.cell 3 (by decide); have f4 := hw'.cell 4 (by decide); have f5 := hw'.cell 5 (by decide); have f6 := hw'.cell 6 (by decide); have f7 := hw'.cell 7 (by decide); have f8 := hw'.cell 8 (by decide); simp only [lsC, Nat.add_zero, List.getElem?_cons_zero, List.getElem?_cons_succ] at f0 f1 f2 f3 f4 f5 f6 f7 f8; obtain ⟨f9, f10⟩ := hw'.key.cells; go_simp; first | exact rfl | exact ⟨rfl, rfl⟩)); clear hK K))
      ((with_reducible refine wpRead_step (fun K hK => ?_)); go_simp; first | ((with_reducible refine hK _ ?_); clear hK K) | (apply Exists.intro; (with_reducible refine ⟨fun w' hw' => ?_, hK _ ?_⟩); ((have f0 := hw'.cell 0 (by decide); have f1 := hw'.cell 1 (by decide); have f2 := hw'.cell 2 (by decide); have f3 := hw'.cell 3 (by decide); have f4 := hw'.cell 4 (by decide); have f5 := hw'.cell 5 (by decide); have f6 := hw'.cell 6 (by decide); have f7 := hw'.cell 7 (by decide); have f8 := hw'.cell 8 (by decide); simp only [lsC, Nat.add_zero, List.getElem?_cons_zero, List.getElem?_cons_succ] at f0 f1 f2 f3 f4 f5 f6 f7 f8; obtain ⟨f9, f10⟩ := hw'.key.cells; go_simp; first | exact rfl | exact ⟨rfl, rfl⟩)); clear hK K))
      with_reducible refine wpRead_nil ?_
      refine held_one 8 (by kernel_rfl) ?_
      simp only [pick, List.getD_cons_zero, List.getD_cons_succ]
      go_wp2_with fail
      refine HR.out.mono ?_
      rintro e V2 ⟨rfl, hb⟩
      have G2 := Lib.hid (And.intro (bcall G1.out.1 (Nat.le_refl _) hb) (RdC.keep G1.out.2 hb))
      clear hb G1 HR
      go_wp2_with fail
      refine ⟨G2.out.2, ?_⟩
      refine held_one 9 (by kernel_rfl) ?_
      simp only [pick, List.getD_cons_zero, List.getD_cons_succ]
      go_wp2_with fail
      refine (HA.out _).mono ?_
      rintro e V3 ⟨rfl, hw5⟩
      subst hw5
      go_wp2_with fail
      refine ⟨G2.out.2, ?_⟩
      refine held_one 10 (by kernel_rfl) ?_
      simp only [pick, List.getD_cons_zero, List.getD_cons_succ]
      go_wp2_with fail
      refine ⟨G2.out.2, ?_⟩
      refine wpAnyH_done (by kernel_rfl) ?_ _
      go_wp2_with fail
      exact ⟨⟨i + 1, hlt, by first | rw [hw3] | rw [Int.natCast_succ], by rw [HD.out], G2.out.1⟩, by first | (rw [hw3]; exact mSucc hlt) | (rw [← Int.natCast_succ]; exact mSucc hlt)⟩
    · obtain rfl : 16 = i := by omega
      have G := Lib.hid (F1.out.1.trans (hb.mono F1.out.1.size))
      clear hb
      go_wp2_with fail
      go_ret
      exact ⟨rfl, G.out⟩
end Go.Proofs.Ytfmehahjjgalfaa.Me
/- The unlike ones of a list, as a map's keys are laid. -/
namespace Go.Proofs.Ytfmehahjjgalfaa
section
variable {κ : Type} [DecidableEq κ]
def addK (S : List κ) (x : κ) : List κ := if x ∈ S then S else S ++ [x]
def keysOf (L : List κ) : List κ := L.foldl addK []
theorem keysOf_snoc (L : List κ) (x : κ) : keysOf (L ++ [x]) = addK (keysOf L) x := by unfold keysOf; rw [List.foldl_append]; rfl
theorem keysOf_succ {α : Type} [Inhabited α] (f : α → κ) {L : List α} {i : Nat} (h : i < L.length) : keysOf ((L.take (i + 1)).map f) = addK (keysOf ((L.take i).map f)) (f (L.getD i default)) := by
  rw [List.take_succ_eq_append_getElem h, List.map_append, List.map_singleton, keysOf_snoc]
  simp [List.getD_eq_getElem?_getD, h]
omit [DecidableEq κ] in
theorem snoc_list {P : List κ → Prop} (h0 : P []) (h1 : ∀ L x, P L → P (L ++ [x])) : ∀ L, P L := by
  intro L
  have : ∀ n (L : List κ), L.length = n → P L := by
    intro n
    induction n with
    | zero => intro L h; rw [List.length_eq_zero_iff.1 h]; exact h0
    | succ n ih =>
      intro L h
      have hne : L ≠ [] := by rintro rfl; simp at h
      rw [← List.dropLast_concat_getLast hne]
      exact h1 _ _ (ih _ (by simp; omega))
  exact this _ _ rfl
theorem keysOf_mem : ∀ (L : List κ) (y : κ), y ∈ keysOf L ↔ y ∈ L := by
  refine snoc_list (fun y => Iff.rfl) fun L x ih y => ?_
  rw [keysOf_snoc]
  unfold addK
  split
  · rename_i h
    rw [ih, List.mem_append, List.mem_singleton]
    refine ⟨.inl, ?_⟩
    rintro (h1 | rfl)
    · exact h1
    · exact (ih _).1 h
  · rw [List.mem_append, List.mem_append, ih]
theorem keysOf_len : ∀ L : List κ, (L.Nodup → (keysOf L).length = L.length) ∧ (¬ L.Nodup → (keysOf L).length < L.length) ∧ (keysOf L).length ≤ L.length := by
  refine snoc_list ⟨fun _ => rfl, fun h => absurd List.nodup_nil h, Nat.le_refl _⟩ fun L x ih => ?_
  obtain ⟨h1, h2, h3⟩ := ih
  rw [keysOf_snoc]
  unfold addK
  by_cases hx : x ∈ keysOf L
  · rw [if_pos hx]
    have hm := (keysOf_mem L x).1 hx
    refine ⟨fun h => ?_, fun _ => by simp; omega, by simp; omega⟩
    rw [List.nodup_append] at h
    exact absurd rfl (h.2.2 x hm x (by simp))
  · rw [if_neg hx]
    have hm : x ∉ L := fun h => hx ((keysOf_mem L x).2 h)
    refine ⟨fun h => ?_, fun h => ?_, by simp; omega⟩
    · rw [List.nodup_append] at h
      simp [h1 h.1]
    · have : ¬ L.Nodup := fun hn => h (by rw [List.nodup_append]; exact ⟨hn, by simp, fun a ha b hb => by simp at hb; subst hb; rintro rfl; exact hm ha⟩)
      simp
      exact h2 this
theorem put_keysOf {l : List (MR.Ent κ)} {x : κ} (v : Value) (c : Nat) : (MR.put l x v c).map (·.1) = addK (l.map (·.1)) x := by
  unfold MR.put addK
  split
  · rw [List.map_map]
    refine List.map_congr_left fun e _ => ?_
    simp only [Function.comp]
    split
    · rename_i h; exact h.symm
    · rfl
  · simp

omit [DecidableEq κ] in
theorem nodup_get {α : Type} [Inhabited α] {f : α → κ} {L : List α} : (L.map f).Nodup ↔ ∀ k i, k < i → i < L.length → f (L.getD k default) ≠ f (L.getD i default) := by
  rw [List.nodup_iff_pairwise_ne, List.pairwise_iff_getElem]
  constructor
  · intro h k i hk hi
    have := h k i (by simp; omega) (by simpa using hi) hk
    simpa [List.getD_eq_getElem?_getD, List.getElem?_eq_getElem hi, List.getElem?_eq_getElem (show k < L.length by omega)] using this
  · intro h k i hk hi hki
    have hi' : i < L.length := by simpa using hi
    have := h k i hki hi'
    simpa [List.getD_eq_getElem?_getD, List.getElem?_eq_getElem hi', List.getElem?_eq_getElem (show k < L.length by omega)] using this
end
end Go.Proofs.Ytfmehahjjgalfaa
