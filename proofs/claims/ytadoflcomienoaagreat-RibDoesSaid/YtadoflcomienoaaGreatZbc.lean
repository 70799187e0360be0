/- The reference: Apply. -/
import Derived.Test.YtadoflcomienoaaGreatZbb
import Derived.Test.YtadoflcomienoaaGreatZas
import Derived.Test.YtadoflcomienoaaGreatZat
import Derived.Test.YtadoflcomienoaaGreatZah
namespace Go.Proofs.YtadoflcomienoaaGreat.Rr
open Go.RowKit

theorem may_kok {r : Int} {u : Up} (h : mayR r u = true) : ∀ n ∈ u.routes, n.a < 4294967296 → KOk r n.key n.id := by
  intro n hn ha
  have h1 := h
  unfold mayR oddR at h1
  simp only [Bool.not_not, Bool.and_eq_true, List.all_eq_true] at h1
  obtain ⟨d, -, hkey, hkk⟩ := okN_k (may_range h) ha (h1.2.1.2 n hn)
  rw [hkey]
  exact hkk
theorem come_ref {room router : Int} {loop : Bool} {a : At} (ns : List Nl) : ∀ (s : List Rt × Int), s.2 ≤ (comeR room router loop a ns s).2 ∧ (comeR room router loop a ns s).2 ≤ s.2 + ns.length := by
  unfold comeR
  induction ns with
  | nil => intro s; exact ⟨Int.le_refl _, by simp⟩
  | cons n ns ih =>
    intro s
    have h2 := ih (oneR room router loop a s n)
    have h3 := one_ref (room := room) (router := router) (loop := loop) (a := a) (s := s) (n := n)
    rw [List.foldl_cons, List.length_cons, Int.natCast_succ]
    omega
theorem RefOk.one {L : List RtV} {S : List Rt} {room r rf : Int} {a : AtV} {nn : Nl} (h : RefOk L S) (hS : ROk S) : ∀ (L' : List RtV) (rf' : Int), (L', rf') = (if hasO L (r, nn.key, nn.id) || decide ((L.length : Int) < room) then (setO L ⟨r, nn.key, nn.id, a⟩, rf) else (L, rf + 1)) → RefOk L' (oneR room r false a.at (S, rf) nn).1 ∧ rf' = (oneR room r false a.at (S, rf) nn).2 := by
  intro L' rf' he
  unfold oneR setR
  rw [if_neg Bool.false_ne_true]
  rw [h.has, h.len hS] at he
  dsimp only
  rw [show (⟨r, nn.key, nn.id, a.at⟩ : Rt).key = (r, nn.key, nn.id) from rfl]
  by_cases hc : (hasR S (r, nn.key, nn.id) || decide ((S.length : Int) < room)) = true
  · rw [if_pos hc] at he ⊢
    injection he with h1 h2
    subst h1 h2
    exact ⟨h.put (⟨r, nn.key, nn.id, a⟩ : RtV), rfl⟩
  · rw [if_neg hc] at he ⊢
    injection he with h1 h2
    subst h1 h2
    exact ⟨h, rfl⟩
theorem sl_at {α : Type} [Inhabited α] {R : Rep α} {W : World} {b0 o0 n c i : Nat} {l : List α} (h : R.Sl W (some ⟨b0, o0, none⟩) n c l) (hi : i < n) : R.At W b0 (o0 + i * R.k) (l.getD i default) := by
  obtain ⟨b, o, e, -, hat⟩ := h.at hi
  injection e with e
  injection e with e1 e2
  subst e1 e2
  exact hat
structure ApC (q5 : Nat) (x : UpV) (W : World) : Prop where
  b : BxU q5 x W
  o : UpOk W x
structure ApD (q5 q : Nat) (x : UpV) (asn room rf : Int) (s : SlV RtV) (W : World) : Prop where
  b : BxU q5 x W
  a : W.heap[q]? = some (.cells #[.slice s.a s.n s.c, .int .i64 asn, .int .i64 room, .int .i64 rf] 122)
def ApplyQ (F : Nat → Prop) (w : World) (q : Nat) (asn room rf : Int) (s : SlV RtV) (S : List Rt) (x : UpV) (r : Int) (v : Value) (w' : World) : Prop := ∃ out s' rf', RPk.Own w' w.heap.size v out ∧ ChgL s'.l s.l out ∧ RefF F w' q asn room rf' s' ∧ RefOk s'.l (applyR asn room r x.up (S, rf)).1 ∧ rf' = (applyR asn room r x.up (S, rf)).2 ∧ But w w' [q]
set_option maxRecDepth 100000 in
set_option maxHeartbeats 16000000 in
theorem xapply_any {F : Nat → Prop} {w : World} {q : Nat} {asn room rf : Int} {s : SlV RtV} {S : List Rt} (H : RefF F w q asn room rf s) (hR : RefOk s.l S) (hS : ROk S) {x : UpV} (hx : HoldF F w fun V => UpOk V x) {r : Int} (hm : mayR r x.up = true) (hn : s.n + x.r.n ≤ 7000) (hrf : 0 ≤ rf ∧ rf + x.r.n ≤ 900000000) : Calls Tryz.prog 70 #[.pointer (some ⟨q, 0, none⟩), .int .i64 r, x.v] w fun e w' => ∃ v, e = .returned v ∧ ApplyQ F w q asn room rf s S x r v w' := by
  obtain ⟨⟨ga, gn, gc, gl⟩, ⟨ra, rn, rc, rl⟩, a, so⟩ := x
  unfold UpV.v
  dsimp only at hn hrf ⊢
  have h1 := (Below.refl w.heap.size w).alloc (Nat.le_refl _) (.cells #[.slice ga gn gc, .slice ra rn rc, .int .i64 a.o, .slice a.p.a a.p.n a.p.c, .int .u32 a.nx, .int .i64 a.md, .int .i64 a.pf, .slice a.c.a a.c.n a.c.c, .bool so] 42)
  have h2 := (Below.refl (w.alloc (.cells #[.slice ga gn gc, .slice ra rn rc, .int .i64 a.o, .slice a.p.a a.p.n a.p.c, .int .u32 a.nx, .int .i64 a.md, .int .i64 a.pf, .slice a.c.a a.c.n a.c.c, .bool so] 42)).heap.size (w.alloc (.cells #[.slice ga gn gc, .slice ra rn rc, .int .i64 a.o, .slice a.p.a a.p.n a.p.c, .int .u32 a.nx, .int .i64 a.md, .int .i64 a.pf, .slice a.c.a a.c.n a.c.c, .bool so] 42))).alloc (Nat.le_refl _) (.cells #[.slice s.a s.n s.c, .int .i64 0, .int .i64 0, .int .i64 0] 122)
  have hq1 := (h1.block _ (lt_of_blk H.blk)).trans H.blk
  have d0 : (w.alloc (.cells #[.slice ga gn gc, .slice ra rn rc, .int .i64 a.o, .slice a.p.a a.p.n a.p.c, .int .u32 a.nx, .int .i64 a.md, .int .i64 a.pf, .slice a.c.a a.c.n a.c.c, .bool so] 42)).cell? ⟨q, 0, none⟩ = some (.slice s.a s.n s.c) := cell_of hq1 rfl
  have hqn : w.heap.size ≠ q ∧ w.heap.size + 1 ≠ q := by have := lt_of_blk H.blk; omega
  have h12 := bcall h1 (Nat.le_refl _) h2
  have H1 := Lib.hid (And.intro (But.of_below h12 [q]) (And.intro (show ((w.alloc (.cells #[.slice ga gn gc, .slice ra rn rc, .int .i64 a.o, .slice a.p.a a.p.n a.p.c, .int .u32 a.nx, .int .i64 a.md, .int .i64 a.pf, .slice a.c.a a.c.n a.c.c, .bool so] 42)).alloc (.cells #[.slice s.a s.n s.c, .int .i64 0, .int .i64 0, .int .i64 0] 122)).heap[w.heap.size]? = some (.cells #[.slice ga gn gc, .slice ra rn rc, .int .i64 a.o, .slice a.p.a a.p.n a.p.c, .int .u32 a.nx, .int .i64 a.md, .int .i64 a.pf, .slice a.c.a a.c.n a.c.c, .bool so] 42) from (h2.block _ (by simp)).trans (hnew _ _)) (And.intro (show ((w.alloc (.cells #[.slice ga gn gc, .slice ra rn rc, .int .i64 a.o, .slice a.p.a a.p.n a.p.c, .int .u32 a.nx, .int .i64 a.md, .int .i64 a.pf, .slice a.c.a a.c.n a.c.c, .bool so] 42)).alloc (.cells #[.slice s.a s.n s.c, .int .i64 0, .int .i64 0, .int .i64 0] 122)).heap[w.heap.size + 1]? = some (.cells #[.slice s.a s.n s.c, .int .i64 0, .int .i64 0, .int .i64 0] 122) from hnewAt (by simp)) hqn)))
  have HX := Lib.hid hx
  have H0 := Lib.hid (And.intro H (And.intro hR (And.intro hS (And.intro hm (And.intro hn hrf)))))
  have HW := Lib.hid (H.keep h12)
  have e0 : ((w.alloc (.cells #[.slice ga gn gc, .slice ra rn rc, .int .i64 a.o, .slice a.p.a a.p.n a.p.c, .int .u32 a.nx, .int .i64 a.md, .int .i64 a.pf, .slice a.c.a a.c.n a.c.c, .bool so] 42)).alloc (.cells #[.slice s.a s.n s.c, .int .i64 0, .int .i64 0, .int .i64 0] 122)).cell? ⟨w.heap.size, 0, none⟩ = some (.slice ga gn gc) := cell_of H1.out.2.1 rfl
  clear H hR hS hx hm hn hrf h1 h2 hq1 hqn h12
  go_enter Tryz.func70, Tryz.ntmps70
  go_wp2_with fail
  clear d0 e0
  generalize ((w.alloc (.cells #[.slice ga gn gc, .slice ra rn rc, .int .i64 a.o, .slice a.p.a a.p.n a.p.c, .int .u32 a.nx, .int .i64 a.md, .int .i64 a.pf, .slice a.c.a a.c.n a.c.c, .bool so] 42)).alloc (.cells #[.slice s.a s.n s.c, .int .i64 0, .int .i64 0, .int .i64 0] 122)) = W1 at *
  generalize w.heap.size + 1 = q6 at *
  obtain ⟨q5, hq5⟩ : ∃ q5, w.heap.size = q5 := ⟨_, rfl⟩
  have H1N := Lib.hid (show But w W1 [q] ∧ W1.heap[q5]? = some (.cells #[.slice ga gn gc, .slice ra rn rc, .int .i64 a.o, .slice a.p.a a.p.n a.p.c, .int .u32 a.nx, .int .i64 a.md, .int .i64 a.pf, .slice a.c.a a.c.n a.c.c, .bool so] 42) ∧ W1.heap[q6]? = some (.cells #[.slice s.a s.n s.c, .int .i64 0, .int .i64 0, .int .i64 0] 122) ∧ q5 ≠ q ∧ q6 ≠ q from hq5 ▸ H1.out)
  rw [show (⟨w.heap.size, 0, none⟩ : Addr) = ⟨q5, 0, none⟩ by rw [hq5]]
  have HQ5 := Lib.hid hq5
  clear hq5 H1
  have H1 := H1N
  clear H1N
  go_loopw [8] (fun iv wr => ∃ (i : Nat) (si : SlV RtV), i ≤ gn ∧ iv = .int .i64 i ∧ RefF F wr q asn room rf si ∧ RefOk si.l (goneR r (gl.take i) S) ∧ But W1 wr [q]) (fun iv _ => gn - (intOf iv).toNat)
  case atStart => exact ⟨0, s, Nat.zero_le _, rfl, HW.out, H0.out.2.1, But.refl _ _⟩
  case round =>
    obtain ⟨i, si, hi, rfl, hrf, hro, hb⟩ := hrel
    obtain ⟨w2, rfl⟩ : ∃ w2 : World, w2 = wr := ⟨_, rfl⟩
    have hup : UpOk w2 (⟨⟨ga, gn, gc, gl⟩, ⟨ra, rn, rc, rl⟩, a, so⟩ : UpV) := (hold_but HX.out H0.out.1.fq (H1.out.1.trans hb)).now
    have h5 := (hb.block _ (lt_of_blk H1.out.2.1) (by rw [List.mem_singleton]; exact H1.out.2.2.2.1)).trans H1.out.2.1
    have c0 : w2.cell? ⟨q5, 0, none⟩ = some (.slice ga gn gc) := cell_of h5 rfl
    have c1 : w2.cell? ⟨q5, 1, none⟩ = some (.slice ra rn rc) := cell_of h5 rfl
    by_cases hlt : i < gn
    · have hil : ((i : Int) < (gn : Int)) = True := by simp; omega
      have hi0 : ((0 : Int) ≤ (i : Int)) = True := by simp
      have hw3 := wrapS hlt hup.g.sl.max
      obtain ⟨b0, o0, ea, hbb, -⟩ := hup.g.sl.at hlt
      dsimp only at ea
      subst ea
      have hmem := getD_mem (M := gl) (i := i) (by have := hup.g.sl.len; dsimp only at this; omega)
      have hli : i < gl.length := by have := hup.g.sl.len; dsimp only at this; omega
      have hsn : si.n ≤ 3000000 := by
        have h1 : si.n = si.l.length := hrf.hd.now.sl.len
        have h2 := hro.len (H0.out.2.2.1.gone _)
        have h3 : (goneR r (gl.take i) S).length ≤ S.length := gone_len
        have h4 := H0.out.2.1.len H0.out.2.2.1
        have h5 : s.n = s.l.length := H0.out.1.hd.now.sl.len
        have h6 := H0.out.2.2.2.2.1
        omega
      have hgt := goneR_take (router := r) (S := S) hli
      have hAT : ∀ W, UpOk W (⟨⟨some ⟨b0, o0, none⟩, gn, gc, gl⟩, ⟨ra, rn, rc, rl⟩, a, so⟩ : UpV) → RNl.At W b0 (o0 + i * 3) (gl.getD i default) := fun W h => sl_at h.g.sl hlt
      generalize gl.getD i default = nn at *
      have hd := (Below.refl w2.heap.size w2).drew
      have HD := rdrop_any (hrf.keep hd) hro.ord hsn (r, nn.key, nn.id)
      unfold Nl.key at HD
      dsimp only at HD
      have HD := Lib.hid HD
      have HAT := Lib.hid hAT
      have HS := Lib.hid (show ApC q5 (⟨⟨some ⟨b0, o0, none⟩, gn, gc, gl⟩, ⟨ra, rn, rc, rl⟩, a, so⟩ : UpV) w2.drew from ⟨h5, hup.keep hd⟩)
      have G := Lib.hid (And.intro hro (And.intro (hb.trans (But.of_below hd [q])) hgt))
      clear hup h5 hbb hmem hli hsn hgt hAT hd hrf hro hb
      go_wp2_with fail
      clear c0 c1
      refine wp_region_heldP (ApC q5 (⟨⟨some ⟨b0, o0, none⟩, gn, gc, gl⟩, ⟨ra, rn, rc, rl⟩, a, so⟩ : UpV)) (by kernel_rfl) ?_
      generalize w2.drew = w3 at *
      refine held_reads [0, 1, 2, 3, 4, 5, 6, 7, 8, 9, 10, 11, 12, 13, 14] (g := 1) rfl (by kernel_rfl) HS.out (fun _ _ d _ _ h => by cases d <;> exact h) ?_
      simp only [pick, List.getD_cons_zero, List.getD_cons_succ]
      iterate 3 ((with_reducible refine wpRead_step (fun K hK => ?_)); go_simp; first | ((with_reducible refine hK _ ?_); clear hK K) | (apply Exists.intro; (with_reducible refine ⟨fun w' hw' => ?_, hK _ ?_⟩); (first | exact rfl | exact ⟨rfl, rfl⟩); clear hK K))
      ((with_reducible refine wpRead_step (fun K hK => ?_)); go_simp; first | ((with_reducible refine hK _ ?_); clear hK K) | (apply Exists.intro; (with_reducible refine ⟨fun w' hw' => ?_, hK _ ?_⟩); ((have f0 := cell_of (o := 0) hw'.b rfl; dsimp only at f0; go_simp; first | exact rfl | exact ⟨rfl, rfl⟩)); clear hK K))
      iterate 3 ((with_reducible refine wpRead_step (fun K hK => ?_)); go_simp; first | ((with_reducible refine hK _ ?_); clear hK K) | (apply Exists.intro; (with_reducible refine ⟨fun w' hw' => ?_, hK _ ?_⟩); (first | exact rfl | exact ⟨rfl, rfl⟩); clear hK K))
      with_reducible refine wpRead_yes ?_ ?_
      rotate_left
      rfl
      intro K hK
      refine read_load 58 _ rfl b0 (o0 + i * 3 + 1) #[.int .u32 (nn.a : Int), .int .i64 nn.ln] rfl (fun w' hw' => at_rangeN (HAT.out w' hw'.o)) Tryz.underlying58 rfl (by kernel_rfl) (hK _ ?_)
      clear hK K
      ((with_reducible refine wpRead_step (fun K hK => ?_)); go_simp; first | ((with_reducible refine hK _ ?_); clear hK K) | (apply Exists.intro; (with_reducible refine ⟨fun w' hw' => ?_, hK _ ?_⟩); (first | exact rfl | exact ⟨rfl, rfl⟩); clear hK K))
      ((with_reducible refine wpRead_step (fun K hK => ?_)); go_simp; first | ((with_reducible refine hK _ ?_); clear hK K) | (apply Exists.intro; (with_reducible refine ⟨fun w' hw' => ?_, hK _ ?_⟩); ((have f0 := cell_of (o := 0) hw'.b rfl; dsimp only at f0; go_simp; first | exact rfl | exact ⟨rfl, rfl⟩)); clear hK K))
      iterate 3 ((with_reducible refine wpRead_step (fun K hK => ?_)); go_simp; first | ((with_reducible refine hK _ ?_); clear hK K) | (apply Exists.intro; (with_reducible refine ⟨fun w' hw' => ?_, hK _ ?_⟩); (first | exact rfl | exact ⟨rfl, rfl⟩); clear hK K))
      ((with_reducible refine wpRead_step (fun K hK => ?_)); go_simp; first | ((with_reducible refine hK _ ?_); clear hK K) | (apply Exists.intro; (with_reducible refine ⟨fun w' hw' => ?_, hK _ ?_⟩); ((have f0 := (HAT.out w' hw'.o) 0 (by decide); simp only [RNl, List.getElem?_cons_zero, Nat.add_zero] at f0; go_simp; first | exact rfl | exact ⟨rfl, rfl⟩)); clear hK K))
      ((with_reducible refine wpRead_step (fun K hK => ?_)); go_simp; first | ((with_reducible refine hK _ ?_); clear hK K) | (apply Exists.intro; (with_reducible refine ⟨fun w' hw' => ?_, hK _ ?_⟩); (first | exact rfl | exact ⟨rfl, rfl⟩); clear hK K))
      with_reducible refine wpRead_nil ?_
      refine held_one 15 (by kernel_rfl) ?_
      simp only [pick, List.getD_cons_zero, List.getD_cons_succ]
      go_wp2_with fail
      refine (HD.out).mono ?_
      rintro e w4 ⟨rfl, s', hrf', hl', hb'⟩
      have HS4 := Lib.hid (show ApC q5 _ w4 from ⟨(hb'.block _ (lt_of_blk HS.out.b) (by rw [List.mem_singleton]; exact H1.out.2.2.2.1)).trans HS.out.b, (hold_but HX.out H0.out.1.fq (H1.out.1.trans (G.out.2.1.trans hb'))).now⟩)
      have G4 := Lib.hid (And.intro hrf' (And.intro (show RefOk s'.l (goneR r (gl.take (i + 1)) S) by rw [hl', G.out.2.2]; exact G.out.1.drop _) (G.out.2.1.trans hb')))
      clear hrf' hl' hb' HD
      go_wp2_with fail
      refine ⟨HS4.out, ?_⟩
      refine wpAnyH_done (by kernel_rfl) ?_ _
      go_wp2_with fail
      exact ⟨⟨i + 1, s', hlt, by first | rw [hw3] | rw [Int.natCast_succ], G4.out⟩, by first | (rw [hw3]; exact mSucc hlt) | (rw [← Int.natCast_succ]; exact mSucc hlt)⟩
    · obtain rfl : gn = i := by omega
      have hil : ((gn : Int) < (gn : Int)) = False := by simp
      rw [show gl.take gn = gl from List.take_of_length_le (by have := hup.g.sl.len; dsimp only at this; omega)] at hro
      obtain ⟨S1, hS1⟩ : ∃ S1, goneR r gl S = S1 := ⟨_, rfl⟩
      rw [hS1] at hro
      have hok1 : ROk S1 := by rw [← hS1]; exact H0.out.2.2.1.gone _
      obtain ⟨lp, hlp⟩ : ∃ lp, hasAS a.at asn = lp := ⟨_, rfl⟩
      have hl1 : S1.length ≤ s.n := by
        rw [← hS1]
        have h3 : (goneR r gl S).length ≤ S.length := gone_len
        have h4 := H0.out.2.1.len H0.out.2.2.1
        have h5 : s.n = s.l.length := H0.out.1.hd.now.sl.len
        omega
      have HS1 := Lib.hid (And.intro hS1 (And.intro hok1 (And.intro hlp hl1)))
      have J := Lib.hid (And.intro hrf (And.intro hro hb))
      clear hup hrf hro hb hS1 hok1 hlp hl1 hi h5
      go_wp2_with fail
      clear c0 c1
      go_loopw [9] (fun iv wr => ∃ (i : Nat) (si : SlV RtV) (rfi : Int), i ≤ rn ∧ iv = .int .i64 i ∧ RefF F wr q asn room rfi si ∧ RefOk si.l (comeR room r lp a.at (rl.take i) (S1, rf)).1 ∧ rfi = (comeR room r lp a.at (rl.take i) (S1, rf)).2 ∧ But W1 wr [q]) (fun iv _ => rn - (intOf iv).toNat)
      case atStart => exact ⟨0, _, rf, Nat.zero_le _, rfl, J.out.1, J.out.2.1, rfl, J.out.2.2⟩
      case round =>
        obtain ⟨i, si, rfi, hi, rfl, hrf, hro, hre, hb⟩ := hrel
        obtain ⟨w2, rfl⟩ : ∃ w2 : World, w2 = wr := ⟨_, rfl⟩
        have hup : UpOk w2 (⟨⟨ga, gn, gc, gl⟩, ⟨ra, rn, rc, rl⟩, a, so⟩ : UpV) := (hold_but HX.out H0.out.1.fq (H1.out.1.trans hb)).now
        have h5 := (hb.block _ (lt_of_blk H1.out.2.1) (by rw [List.mem_singleton]; exact H1.out.2.2.2.1)).trans H1.out.2.1
        have c0 : w2.cell? ⟨q5, 0, none⟩ = some (.slice ga gn gc) := cell_of h5 rfl
        have c1 : w2.cell? ⟨q5, 1, none⟩ = some (.slice ra rn rc) := cell_of h5 rfl
        by_cases hlt : i < rn
        · have hil : ((i : Int) < (rn : Int)) = True := by simp; omega
          have hi0 : ((0 : Int) ≤ (i : Int)) = True := by simp
          have hw3 := wrapS hlt hup.r.sl.max
          obtain ⟨b0, o0, ea, hbb, -⟩ := hup.r.sl.at hlt
          dsimp only at ea
          subst ea
          have hmem := getD_mem (M := rl) (i := i) (by have := hup.r.sl.len; dsimp only at this; omega)
          have hli : i < rl.length := by have := hup.r.sl.len; dsimp only at this; omega
          obtain ⟨St, hSt⟩ : ∃ St, comeR room r lp a.at (rl.take i) (S1, rf) = St := ⟨_, rfl⟩
          rw [hSt] at hro hre
          have hr0 := (may_range H0.out.2.2.2.1).1
          have hokt : ROk St.1 := by rw [← hSt]; exact ROk.come (s := (S1, rf)) HS1.out.2.1 hr0 _
          have hsn : si.n ≤ 3000000 := by
            have h1 : si.n = si.l.length := hrf.hd.now.sl.len
            have h2 := hro.len hokt
            have h3 := come_len (room := room) (router := r) (loop := lp) (a := a.at) (s := (S1, rf)) HS1.out.2.1 hr0 (rl.take i)
            rw [hSt, List.length_take] at h3
            have h4 := HS1.out.2.2.2
            have h6 := H0.out.2.2.2.2.1
            dsimp only at h3
            omega
          have hrfb : 0 ≤ rfi ∧ rfi ≤ 900000000 := by
            have h1 := come_ref (room := room) (router := r) (loop := lp) (a := a.at) (rl.take i) (S1, rf)
            rw [hSt, List.length_take] at h1
            have h2 := H0.out.2.2.2.2.2
            dsimp only at h1
            omega
          have hct := comeR_take (room := room) (router := r) (loop := lp) (a := a.at) (s := (S1, rf)) hli
          rw [hSt] at hct
          have hAT : ∀ W, UpOk W (⟨⟨ga, gn, gc, gl⟩, ⟨some ⟨b0, o0, none⟩, rn, rc, rl⟩, a, so⟩ : UpV) → RNl.At W b0 (o0 + i * 3) (rl.getD i default) := fun W h => sl_at h.r.sl hlt
          have hkok := may_kok H0.out.2.2.2.1 (rl.getD i default) hmem (hup.r.all _ hmem).1
          generalize rl.getD i default = nn at *
          have hd := (Below.refl w2.heap.size w2).drew
          have HAT := Lib.hid hAT
          have HS := Lib.hid (show ApC q5 (⟨⟨ga, gn, gc, gl⟩, ⟨some ⟨b0, o0, none⟩, rn, rc, rl⟩, a, so⟩ : UpV) w2.drew from ⟨h5, hup.keep hd⟩)
          have G := Lib.hid (And.intro (hrf.keep hd) (And.intro hro (And.intro hre (And.intro (hb.trans (But.of_below hd [q])) (And.intro hct (And.intro hokt (And.intro hsn (And.intro hrfb hkok))))))))
          clear hup h5 hbb hmem hli hsn hct hAT hd hrf hro hb hokt hrfb hkok hSt hre
          go_wp2_with fail
          clear c0 c1
          refine wp_region_T 15 (ApC q5 (⟨⟨ga, gn, gc, gl⟩, ⟨some ⟨b0, o0, none⟩, rn, rc, rl⟩, a, so⟩ : UpV)) (by kernel_rfl) ?_
          generalize w2.drew = w3 at *
          refine T_reads [0, 1, 2, 3, 4, 5, 6, 7, 8, 9, 10, 11, 12, 13] (g := 2) rfl (by kernel_rfl) HS.out (fun _ _ d _ _ h => by cases d <;> exact h) ?_
          simp only [pick, List.getD_cons_zero, List.getD_cons_succ]
          iterate 2 ((with_reducible refine wpRead_step (fun K hK => ?_)); go_simp; first | ((with_reducible refine hK _ ?_); clear hK K) | (apply Exists.intro; (with_reducible refine ⟨fun w' hw' => ?_, hK _ ?_⟩); (first | exact rfl | exact ⟨rfl, rfl⟩); clear hK K))
          ((with_reducible refine wpRead_step (fun K hK => ?_)); go_simp; first | ((with_reducible refine hK _ ?_); clear hK K) | (apply Exists.intro; (with_reducible refine ⟨fun w' hw' => ?_, hK _ ?_⟩); ((have f0 := cell_of (o := 1) hw'.b rfl; dsimp only at f0; go_simp; first | exact rfl | exact ⟨rfl, rfl⟩)); clear hK K))
          iterate 3 ((with_reducible refine wpRead_step (fun K hK => ?_)); go_simp; first | ((with_reducible refine hK _ ?_); clear hK K) | (apply Exists.intro; (with_reducible refine ⟨fun w' hw' => ?_, hK _ ?_⟩); (first | exact rfl | exact ⟨rfl, rfl⟩); clear hK K))
          with_reducible refine wpRead_yes ?_ ?_
          rotate_left
          rfl
          intro K hK
          refine read_load 58 _ rfl b0 (o0 + i * 3 + 1) #[.int .u32 (nn.a : Int), .int .i64 nn.ln] rfl (fun w' hw' => at_rangeN (HAT.out w' hw'.o)) Tryz.underlying58 rfl (by kernel_rfl) (hK _ ?_)
          clear hK K
          ((with_reducible refine wpRead_step (fun K hK => ?_)); go_simp; first | ((with_reducible refine hK _ ?_); clear hK K) | (apply Exists.intro; (with_reducible refine ⟨fun w' hw' => ?_, hK _ ?_⟩); (first | exact rfl | exact ⟨rfl, rfl⟩); clear hK K))
          ((with_reducible refine wpRead_step (fun K hK => ?_)); go_simp; first | ((with_reducible refine hK _ ?_); clear hK K) | (apply Exists.intro; (with_reducible refine ⟨fun w' hw' => ?_, hK _ ?_⟩); ((have f0 := cell_of (o := 1) hw'.b rfl; dsimp only at f0; go_simp; first | exact rfl | exact ⟨rfl, rfl⟩)); clear hK K))
          iterate 3 ((with_reducible refine wpRead_step (fun K hK => ?_)); go_simp; first | ((with_reducible refine hK _ ?_); clear hK K) | (apply Exists.intro; (with_reducible refine ⟨fun w' hw' => ?_, hK _ ?_⟩); (first | exact rfl | exact ⟨rfl, rfl⟩); clear hK K))
          ((with_reducible refine wpRead_step (fun K hK => ?_)); go_simp; first | ((with_reducible refine hK _ ?_); clear hK K) | (apply Exists.intro; (with_reducible refine ⟨fun w' hw' => ?_, hK _ ?_⟩); ((have f0 := (HAT.out w' hw'.o) 0 (by decide); simp only [RNl, List.getElem?_cons_zero, Nat.add_zero] at f0; go_simp; first | exact rfl | exact ⟨rfl, rfl⟩)); clear hK K))
          ((with_reducible refine wpRead_step (fun K hK => ?_)); go_simp; first | ((with_reducible refine hK _ ?_); clear hK K) | (apply Exists.intro; (with_reducible refine ⟨fun w' hw' => ?_, hK _ ?_⟩); (first | exact rfl | exact ⟨rfl, rfl⟩); clear hK K))
          with_reducible refine wpRead_nil ?_
          have hal := (Below.refl w3.heap.size w3).alloc (Nat.le_refl _) (.cells #[.int .i64 0, .int .u32 0, .int .i64 0, .int .i64 0] 62)
          have HS4 := Lib.hid (show ApC q5 _ (w3.alloc (.cells #[.int .i64 0, .int .u32 0, .int .i64 0, .int .i64 0] 62)) from ⟨(hal.block _ (lt_of_blk HS.out.b)).trans HS.out.b, HS.out.o.keep hal⟩)
          refine T_one 14 (by kernel_rfl) ?_
          simp only [pick, List.getD_cons_zero, List.getD_cons_succ]
          go_wp2_with fail
          refine ⟨fun _ => HS4.out, ?_⟩
          refine T_one 15 (by kernel_rfl) ?_
          simp only [pick, List.getD_cons_zero, List.getD_cons_succ]
          go_wp2_with (with_reducible refine halt_store 62 (x := .tmp 10) rfl ?_)
          refine Halted.go ?_
          refine store_whole rfl 62 _ _ rfl w3.heap.size #[.int .i64 r, .int .u32 (nn.a : Int), .int .i64 nn.ln, .int .i64 nn.id] rfl rfl (hnew _ _) rfl (by kernel_rfl) (by simp [Value.oneCell']) ?_
          intro w4 hwz hsz
          have hzb : Below w3.heap.size w3 w4 := Below.trans hal (hsz.below (Nat.le_refl _))
          have hd4 := (Below.refl w4.heap.size w4).drew
          have hz4 := bcall (Below.refl w3.heap.size w3) (Nat.le_refl _) hzb
          have hz5 := bcall hz4 (Nat.le_refl _) hd4
          have hzk := (hd4.block _ (lt_of_blk hwz)).trans hwz
          obtain ⟨qk, hqk⟩ : ∃ qk, w3.heap.size = qk := ⟨_, rfl⟩
          rw [show (⟨w3.heap.size, 0, none⟩ : Addr) = ⟨qk, 0, none⟩ by rw [hqk]]
          rw [hqk] at hzk
          have G2 := Lib.hid (And.intro (G.out.1.keep hz5) (And.intro (G.out.2.2.2.1.trans (But.of_below hz5 [q])) (And.intro ((hz5.block _ (lt_of_blk HS.out.b)).trans HS.out.b) hzk)))
          have HH := rhas_any (HS.out.o.keep hz5).a asn
          rw [HS1.out.2.2.1] at HH
          unfold AtV.v at HH
          have HH := Lib.hid HH
          clear hal hwz hsz hzb HS4 hd4 hz4 hz5 hzk hqk
          go_wp2_with fail
          refine ⟨by kernel_rfl, ?_⟩
          go_wp2_with fail
          refine wp_region_heldP (ApD q5 q (⟨⟨ga, gn, gc, gl⟩, ⟨some ⟨b0, o0, none⟩, rn, rc, rl⟩, a, so⟩ : UpV) asn room rfi si) (by kernel_rfl) ?_
          have HS5 := Lib.hid (show ApD q5 q (⟨⟨ga, gn, gc, gl⟩, ⟨some ⟨b0, o0, none⟩, rn, rc, rl⟩, a, so⟩ : UpV) asn room rfi si w4.drew from ⟨G2.out.2.2.1, G2.out.1.blk⟩)
          generalize w4.drew = w5 at *
          refine held_reads [0, 1, 2, 3, 4, 5] (g := 1) rfl (by kernel_rfl) HS5.out (fun _ _ d _ _ h => by cases d <;> exact h) ?_
          simp only [pick, List.getD_cons_zero, List.getD_cons_succ]
          ((with_reducible refine wpRead_step (fun K hK => ?_)); go_simp; first | ((with_reducible refine hK _ ?_); clear hK K) | (apply Exists.intro; (with_reducible refine ⟨fun w' hw' => ?_, hK _ ?_⟩); (first | exact rfl | exact ⟨rfl, rfl⟩); clear hK K))
          with_reducible refine wpRead_yes ?_ ?_
          rotate_left
          rfl
          intro K hK
          refine read_load 40 _ rfl q5 2 #[.int .i64 a.o, .slice a.p.a a.p.n a.p.c, .int .u32 a.nx, .int .i64 a.md, .int .i64 a.pf, .slice a.c.a a.c.n a.c.c] rfl (fun w' hw' => rangeAt_block hw'.b 2 _ rfl) Tryz.underlying40 rfl (by kernel_rfl) (hK _ ?_)
          clear hK K
          iterate 3 ((with_reducible refine wpRead_step (fun K hK => ?_)); go_simp; first | ((with_reducible refine hK _ ?_); clear hK K) | (apply Exists.intro; (with_reducible refine ⟨fun w' hw' => ?_, hK _ ?_⟩); (first | exact rfl | exact ⟨rfl, rfl⟩); clear hK K))
          ((with_reducible refine wpRead_step (fun K hK => ?_)); go_simp; first | ((with_reducible refine hK _ ?_); clear hK K) | (apply Exists.intro; (with_reducible refine ⟨fun w' hw' => ?_, hK _ ?_⟩); ((have f0 := cell_of (o := 1) hw'.a rfl; go_simp; first | exact rfl | exact ⟨rfl, rfl⟩)); clear hK K))
          with_reducible refine wpRead_nil ?_
          refine held_one 6 (by kernel_rfl) ?_
          simp only [pick, List.getD_cons_zero, List.getD_cons_succ]
          go_wp2_with fail
          refine (HH.out).mono ?_
          rintro e w6 ⟨rfl, hb⟩
          have G3 := Lib.hid (And.intro (G2.out.1.keep hb) (And.intro (G2.out.2.1.trans (But.of_below hb [q])) (And.intro ((hb.block _ (lt_of_blk G2.out.2.2.1)).trans G2.out.2.2.1) ((hb.block _ (lt_of_blk G2.out.2.2.2)).trans G2.out.2.2.2))))
          clear hb HH G2 HS5
          go_wp2_with fail
          refine ⟨⟨G3.out.2.2.1, G3.out.1.blk⟩, ?_⟩
          refine wpAnyH_done (by kernel_rfl) ?_ _
          have z0 := cell_of (o := 0) G3.out.2.2.2 rfl
          have z1 := cell_of (o := 1) G3.out.2.2.2 rfl
          have z2 := cell_of (o := 2) G3.out.2.2.2 rfl
          have z3 := cell_of (o := 3) G3.out.2.2.2 rfl
          cases lp with
          | true =>
            have HD := rdrop_any G3.out.1 G.out.2.1.ord G.out.2.2.2.2.2.2.1 (r, nn.key, nn.id)
            unfold Nl.key at HD
            dsimp only at HD
            have HD := Lib.hid HD
            go_wp2_with fail
            refine (HD.out).mono ?_
            rintro e w7 ⟨rfl, s', hrf', hl', hb'⟩
            have G4 := Lib.hid (And.intro hrf' (And.intro (show RefOk s'.l (comeR room r true a.at (rl.take (i + 1)) (S1, rf)).1 by rw [G.out.2.2.2.2.1]; unfold oneR; rw [if_pos rfl, hl']; exact G.out.2.1.drop _) (And.intro (show rfi = (comeR room r true a.at (rl.take (i + 1)) (S1, rf)).2 by rw [G.out.2.2.2.2.1]; unfold oneR; rw [if_pos rfl]; exact G.out.2.2.1) (G3.out.2.1.trans hb'))))
            clear hrf' hl' hb' HD z0 z1 z2 z3
            go_wp2_with fail
            exact ⟨⟨i + 1, s', rfi, hlt, by first | rw [hw3] | rw [Int.natCast_succ], G4.out⟩, by first | (rw [hw3]; exact mSucc hlt) | (rw [← Int.natCast_succ]; exact mSucc hlt)⟩
          | false =>
            obtain ⟨c0, c1, c2, c3, c4, c5, c6, c7, c8⟩ := BxU.cells (x := (⟨⟨ga, gn, gc, gl⟩, ⟨some ⟨b0, o0, none⟩, rn, rc, rl⟩, a, so⟩ : UpV)) G3.out.2.2.1
            dsimp only at c0 c1 c2 c3 c4 c5 c6 c7 c8
            have HD := rset_any G3.out.1 G.out.2.1.ord G.out.2.2.2.2.2.2.1 G.out.2.2.2.2.2.2.2.1 (k := (r, nn.key, nn.id)) (a := a) G.out.2.2.2.2.2.2.2.2 ((hold_but HX.out H0.out.1.fq (H1.out.1.trans G3.out.2.1)).imp fun _ h => h.a)
            unfold Nl.key at HD
            dsimp only at HD
            have HD := Lib.hid HD
            go_wp2_with fail
            refine (HD.out).mono ?_
            rintro e w7 ⟨rfl, s', rf', hrf', hl', hb'⟩
            have hone := RefOk.one (nn := nn) (a := a) G.out.2.1 G.out.2.2.2.2.2.1 s'.l rf' hl'
            rw [G.out.2.2.1, show (St.1, St.2) = St from rfl, ← G.out.2.2.2.2.1] at hone
            have G4 := Lib.hid (And.intro hrf' (And.intro hone.1 (And.intro hone.2 (G3.out.2.1.trans hb'))))
            clear hrf' hl' hb' HD hone z0 z1 z2 z3 c0 c1 c2 c3 c4 c5 c6 c7 c8
            go_wp2_with fail
            exact ⟨⟨i + 1, s', rf', hlt, by first | rw [hw3] | rw [Int.natCast_succ], G4.out⟩, by first | (rw [hw3]; exact mSucc hlt) | (rw [← Int.natCast_succ]; exact mSucc hlt)⟩
        · obtain rfl : rn = i := by omega
          have hil : ((rn : Int) < (rn : Int)) = False := by simp
          rw [show rl.take rn = rl from List.take_of_length_le (by have := hup.r.sl.len; dsimp only at this; omega)] at hro hre
          have hr0 := (may_range H0.out.2.2.2.1).1
          have happ : comeR room r lp a.at rl (S1, rf) = applyR asn room r (⟨gl, rl, a.at, so⟩ : Up) (S, rf) := by
            rw [← HS1.out.1, ← HS1.out.2.2.1]
            rfl
          have hns : si.n ≤ 8000 := by
            have h1 : si.n = si.l.length := hrf.hd.now.sl.len
            have h2 := hro.len (ROk.come (s := (S1, rf)) HS1.out.2.1 hr0 _)
            have h3 := come_len (room := room) (router := r) (loop := lp) (a := a.at) (s := (S1, rf)) HS1.out.2.1 hr0 rl
            have h4 := HS1.out.2.2.2
            have h5 := H0.out.2.2.2.2.1
            have h6 := hup.r.sl.len
            dsimp only at h3 h6
            omega
          rw [happ] at hro hre
          have hww := H1.out.1.trans hb
          have h6 := (hb.block _ (lt_of_blk H1.out.2.2.1) (by rw [List.mem_singleton]; exact H1.out.2.2.2.2)).trans H1.out.2.2.1
          have hR6 : RefX w2 q6 0 0 0 s := ⟨h6, (hold_but H0.out.1.hd H0.out.1.fq hww).now⟩
          have HOX := Lib.hid (xothers_any hrf.x hR6 hro.ord H0.out.2.1.ord ⟨hns, by have := H0.out.2.2.2.2.1; omega⟩)
          have HF := Lib.hid (And.intro hrf (And.intro hro (And.intro hre hww)))
          clear hup hrf hro hre hb happ hns hww h6 hR6 hr0 hi h5
          go_wp2_with fail
          refine (HOX.out).mono ?_
          rintro e w9 ⟨v, out, rfl, hown, hch, hb⟩
          have HE := Lib.hid (show ApplyQ F w q asn room rf s S ((⟨⟨ga, gn, gc, gl⟩, ⟨ra, rn, rc, rl⟩, a, so⟩ : UpV)) r v w9 from ⟨out, si, rfi, hown.mono HF.out.2.2.2.size, hch, HF.out.1.keep hb, HF.out.2.1, HF.out.2.2.1, HF.out.2.2.2.trans (But.of_below hb [q])⟩)
          clear hown hch hb HOX
          go_wp2_with fail
          go_ret
          exact ⟨_, rfl, HE.out⟩
end Go.Proofs.YtadoflcomienoaaGreat.Rr
/- Which lists of prefixes are the same, as the reference of tries tells. -/
namespace Go.Proofs.YtadoflcomienoaaGreat
open Go.RowKit

theorem at_rangeP {W : World} {b o : Nat} {z : PK} (h : RPk.At W b o z) : W.rangeAt b o (#[Value.int .u32 (z.1 : Int), .int .i64 z.2] : Array Value).toList := by
  intro j v hv
  have hj : j < 2 := (List.getElem?_eq_some_iff.1 hv).1
  exact (h j hj).trans hv
theorem pk_ne14 {x y : PK} (h : x ≠ y) : ((x.1 : Int) == (y.1 : Int)) = false ∨ (((x.1 : Int) == (y.1 : Int)) = true ∧ (x.2 == y.2) = false) := by
  by_cases h1 : x.1 = y.1
  · refine .inr ⟨by simp [h1], ?_⟩
    rw [beq_eq_false_iff_ne]
    exact fun e => h (Prod.ext h1 e)
  · left
    rw [beq_eq_false_iff_ne]
    omega
structure TwoP2 (b0 o0 b1 o1 : Nat) (x y : PK) (W : World) : Prop where
  l : RPk.At W b0 o0 x
  r : RPk.At W b1 o1 y
set_option maxRecDepth 100000 in
set_option maxHeartbeats 2000000 in
theorem psame_any {w : World} {oa ob : Option Addr} {n c m d : Nat} {L M : List PK} (h : RPk.Sl w oa n c L) (k : RPk.Sl w ob m d M) : Calls Tryz.prog 37 #[.slice oa n c, .slice ob m d] w fun e w' => e = .returned (.bool (decide (L = M))) ∧ Below w.heap.size w w' := by
  by_cases hnm : n = m
  · subst hnm
    have HL := Lib.hid h.len
    have HM := Lib.hid k.len
    have hmax := h.max
    have F := Lib.hid (And.intro h k)
    obtain ⟨v, hv⟩ : ∃ v, decide (L = M) = v := ⟨_, rfl⟩
    rw [hv]
    have HV := Lib.hid hv
    have e0 : ((n : Int) == (n : Int)) = true := by simp
    clear h k hv
    go_enter Tryz.func37, Tryz.ntmps37
    go_wp2_with fail
    go_loopw [5] (fun iv wr => ∃ i : Nat, i ≤ n ∧ iv = .int .i64 i ∧ (∀ j, j < i → L.getD j default = M.getD j default) ∧ Below w.heap.size w wr) (fun iv _ => n - (intOf iv).toNat)
    case atStart => exact ⟨0, Nat.zero_le _, rfl, fun j hj => absurd hj (Nat.not_lt_zero _), Below.refl _ _⟩
    case round =>
      obtain ⟨i, hi, rfl, hall, hb⟩ := hrel
      obtain ⟨w2, rfl⟩ : ∃ w2 : World, w2 = wr := ⟨_, rfl⟩
      by_cases hlt : i < n
      · have hil : ((i : Int) < (n : Int)) = True := by simp; omega
        have hi0 : ((0 : Int) ≤ (i : Int)) = True := by simp
        have hw3 := wrapS hlt hmax
        obtain ⟨b0, o0, rfl, hbb, hat⟩ := (F.out.1.keep hb).at hlt
        obtain ⟨b1, o1, rfl, hbb1, hat1⟩ := (F.out.2.keep hb).at hlt
        obtain ⟨x, hx⟩ : ∃ x, L.getD i default = x := ⟨_, rfl⟩
        obtain ⟨y, hy⟩ : ∃ y, M.getD i default = y := ⟨_, rfl⟩
        rw [hx] at hat
        rw [hy] at hat1
        have hd := (Below.refl w2.heap.size w2).drew
        have K := Lib.hid (And.intro (show TwoP2 b0 (o0 + i * 2) b1 (o1 + i * 2) x y w2.drew from ⟨hat, hat1⟩) (And.intro (bcall hb (Nat.le_refl _) hd) (And.intro hall (And.intro hx hy))))
        clear hb hat hat1 hall hx hy hd hbb hbb1
        by_cases hxy : x = y
        · subst hxy
          go_wp2_with fail
          refine wp_region_heldP (TwoP2 b0 (o0 + i * 2) b1 (o1 + i * 2) x x) (by kernel_rfl) ?_
          generalize w2.drew = V at *
          refine held_reads [0, 1, 2, 3, 4, 5, 6, 7, 8] (g := 0) rfl (by kernel_rfl) K.out.1 (fun _ _ d _ _ h => by cases d <;> exact h) ?_
          simp only [pick, List.getD_cons_zero, List.getD_cons_succ]
          iterate 3 ((with_reducible refine wpRead_step (fun K hK => ?_)); go_simp; first | ((with_reducible refine hK _ ?_); clear hK K) | (apply Exists.intro; (with_reducible refine ⟨fun w' hw' => ?_, hK _ ?_⟩); (first | exact rfl | exact ⟨rfl, rfl⟩); clear hK K))
          with_reducible refine wpRead_yes ?_ ?_
          rotate_left
          rfl
          intro K hK
          refine read_load 58 _ rfl b0 (o0 + i * 2) #[.int .u32 (x.1 : Int), .int .i64 x.2] rfl (fun w' hw' => at_rangeP hw'.l) Tryz.underlying58 rfl (by kernel_rfl) (hK _ ?_)
          clear hK K
          iterate 3 ((with_reducible refine wpRead_step (fun K hK => ?_)); go_simp; first | ((with_reducible refine hK _ ?_); clear hK K) | (apply Exists.intro; (with_reducible refine ⟨fun w' hw' => ?_, hK _ ?_⟩); (first | exact rfl | exact ⟨rfl, rfl⟩); clear hK K))
          with_reducible refine wpRead_yes ?_ ?_
          rotate_left
          rfl
          intro K hK
          refine read_load 58 _ rfl b1 (o1 + i * 2) #[.int .u32 (x.1 : Int), .int .i64 x.2] rfl (fun w' hw' => at_rangeP hw'.r) Tryz.underlying58 rfl (by kernel_rfl) (hK _ ?_)
          clear hK K
          ((with_reducible refine wpRead_step (fun K hK => ?_)); go_simp; first | ((with_reducible refine hK _ ?_); clear hK K) | (apply Exists.intro; (with_reducible refine ⟨fun w' hw' => ?_, hK _ ?_⟩); (first | exact rfl | exact ⟨rfl, rfl⟩); clear hK K))
          with_reducible refine wpRead_nil ?_
          refine wpAnyH_done (by kernel_rfl) ?_ _
          go_wp2_with fail
          exact ⟨⟨i + 1, hlt, by first | rw [hw3] | rw [Int.natCast_succ], fun j hj => (Nat.lt_succ_iff_lt_or_eq.1 hj).elim (K.out.2.2.1 j) (fun e => by rw [e, K.out.2.2.2.1, K.out.2.2.2.2]), K.out.2.1⟩, by first | (rw [hw3]; exact mSucc hlt) | (rw [← Int.natCast_succ]; exact mSucc hlt)⟩
        · have HXY := Lib.hid hxy
          rcases pk_ne14 hxy with e1 | ⟨e1, e2⟩
          all_goals
            clear hxy
            go_wp2_with fail
            refine wp_region_heldP (TwoP2 b0 (o0 + i * 2) b1 (o1 + i * 2) x y) (by kernel_rfl) ?_
            generalize w2.drew = V at *
            refine held_reads [0, 1, 2, 3, 4, 5, 6, 7, 8] (g := 0) rfl (by kernel_rfl) K.out.1 (fun _ _ d _ _ h => by cases d <;> exact h) ?_
            simp only [pick, List.getD_cons_zero, List.getD_cons_succ]
            iterate 3 ((with_reducible refine wpRead_step (fun K hK => ?_)); go_simp; first | ((with_reducible refine hK _ ?_); clear hK K) | (apply Exists.intro; (with_reducible refine ⟨fun w' hw' => ?_, hK _ ?_⟩); (first | exact rfl | exact ⟨rfl, rfl⟩); clear hK K))
            with_reducible refine wpRead_yes ?_ ?_
            rotate_left
            rfl
            intro K hK
            refine read_load 58 _ rfl b0 (o0 + i * 2) #[.int .u32 (x.1 : Int), .int .i64 x.2] rfl (fun w' hw' => at_rangeP hw'.l) Tryz.underlying58 rfl (by kernel_rfl) (hK _ ?_)
            clear hK K
            iterate 3 ((with_reducible refine wpRead_step (fun K hK => ?_)); go_simp; first | ((with_reducible refine hK _ ?_); clear hK K) | (apply Exists.intro; (with_reducible refine ⟨fun w' hw' => ?_, hK _ ?_⟩); (first | exact rfl | exact ⟨rfl, rfl⟩); clear hK K))
            with_reducible refine wpRead_yes ?_ ?_
            rotate_left
            rfl
            intro K hK
            refine read_load 58 _ rfl b1 (o1 + i * 2) #[.int .u32 (y.1 : Int), .int .i64 y.2] rfl (fun w' hw' => at_rangeP hw'.r) Tryz.underlying58 rfl (by kernel_rfl) (hK _ ?_)
            clear hK K
            ((with_reducible refine wpRead_step (fun K hK => ?_)); go_simp; first | ((with_reducible refine hK _ ?_); clear hK K) | (apply Exists.intro; (with_reducible refine ⟨fun w' hw' => ?_, hK _ ?_⟩); (first | exact rfl | exact ⟨rfl, rfl⟩); clear hK K))
            with_reducible refine wpRead_nil ?_
            refine wpAnyH_done (by kernel_rfl) ?_ _
            go_wp2_with fail
            go_ret
            exact ⟨ret_bool (by
              rw [← HV.out]
              refine (decide_eq_false fun h => HXY.out ?_).symm
              rw [← K.out.2.2.2.1, ← K.out.2.2.2.2, h]), K.out.2.1⟩
      · obtain rfl : n = i := by omega
        have hil : ((n : Int) < (n : Int)) = False := by simp
        have HB := Lib.hid (And.intro hb hall)
        clear hb hall
        go_wp2_with fail
        go_ret
        exact ⟨ret_bool (by rw [← HV.out]; exact (decide_eq_true (getD_ext (HL.out.symm.trans HM.out) fun j hj => HB.out.2 j (by rw [HL.out]; exact hj))).symm), HB.out.1⟩
  · have e1 : ((n : Int) == (m : Int)) = false := by simpa using fun e : (n : Int) = m => hnm (by omega)
    have HV := Lib.hid (show decide (L = M) = false from decide_eq_false fun e => hnm (by rw [h.len, k.len, e]))
    generalize decide (L = M) = v at *
    clear h k hnm
    go_enter Tryz.func37, Tryz.ntmps37
    go_wp2_with fail
    go_ret
    exact ⟨ret_bool HV.out.symm, Below.refl _ _⟩
end Go.Proofs.YtadoflcomienoaaGreat
/- May, as the reference tells. -/
namespace Go.Proofs.YtadoflcomienoaaGreat
open Go.RowKit

structure MyS (w : World) (x : UpV) (W : World) : Prop where
  b : Below w.heap.size w W
  ok : UpOk W x
  bx : BxU w.heap.size x W
theorem MyS.keep {w : World} {x : UpV} {W W' : World} (h : MyS w x W) (hb : Below W.heap.size W W') : MyS w x W' := ⟨bcall h.b (Nat.le_refl _) hb, h.ok.keep hb, h.bx.keep hb⟩
set_option maxRecDepth 100000 in
set_option maxHeartbeats 8000000 in
theorem rmay_any {w : World} {x : UpV} (hx : UpOk w x) (r : Int) : Calls Tryz.prog 35 #[.int .i64 r, x.v] w fun e w' => e = .returned (.bool (mayR r x.up)) ∧ Below w.heap.size w w' := by
  have hal := (Below.refl w.heap.size w).alloc (Nat.le_refl _) (.cells #[.slice x.g.a x.g.n x.g.c, .slice x.r.a x.r.n x.r.c, .int .i64 x.a.o, .slice x.a.p.a x.a.p.n x.a.p.c, .int .u32 x.a.nx, .int .i64 x.a.md, .int .i64 x.a.pf, .slice x.a.c.a x.a.c.n x.a.c.c, .bool x.soft] 42)
  have hX : BxU w.heap.size x (w.alloc (.cells #[.slice x.g.a x.g.n x.g.c, .slice x.r.a x.r.n x.r.c, .int .i64 x.a.o, .slice x.a.p.a x.a.p.n x.a.p.c, .int .u32 x.a.nx, .int .i64 x.a.md, .int .i64 x.a.pf, .slice x.a.c.a x.a.c.n x.a.c.c, .bool x.soft] 42)) := hnew _ _
  have G1 := Lib.hid (show MyS w x (w.alloc (.cells #[.slice x.g.a x.g.n x.g.c, .slice x.r.a x.r.n x.r.c, .int .i64 x.a.o, .slice x.a.p.a x.a.p.n x.a.p.c, .int .u32 x.a.nx, .int .i64 x.a.md, .int .i64 x.a.pf, .slice x.a.c.a x.a.c.n x.a.c.c, .bool x.soft] 42)) from ⟨hal, hx.keep hal, hX⟩)
  obtain ⟨v, hv⟩ : ∃ v, mayR r x.up = v := ⟨_, rfl⟩
  rw [hv]
  have HV := Lib.hid hv
  obtain ⟨c0, c1, c2, c3, c4, c5, c6, c7, c8⟩ := hX.cells
  unfold UpV.v
  clear hal hX hv hx
  go_enter Tryz.func35, Tryz.ntmps35
  go_wp2_with fail
  clear c0 c1 c2 c3 c4 c5 c6 c7 c8
  go_loopw [5] (fun iv wr => ∃ i : Nat, i ≤ x.g.n ∧ iv = .int .i64 i ∧ (x.g.l.take i).all (okN true) = true ∧ MyS w x wr) (fun iv _ => x.g.n - (intOf iv).toNat)
  case atStart => exact ⟨0, Nat.zero_le _, rfl, rfl, G1.out⟩
  case round =>
    obtain ⟨i, hi, rfl, hall, hS⟩ := hrel
    obtain ⟨w2, rfl⟩ : ∃ w2 : World, w2 = wr := ⟨_, rfl⟩
    have hbx := hS.bx
    obtain ⟨c0, c1, c2, c3, c4, c5, c6, c7, c8⟩ := hbx.cells
    by_cases hlt : i < x.g.n
    · have hil : ((i : Int) < (x.g.n : Int)) = True := by simp; omega
      have hi0 : ((0 : Int) ≤ (i : Int)) = True := by simp
      have hw3 := wrapS hlt (show x.g.n ≤ maxLen from hS.ok.g.sl.max)
      have hiL : i < x.g.l.length := by have := hS.ok.g.sl.len; omega
      obtain ⟨b, o, ea, hbb, hat⟩ := hS.ok.g.sl.at hlt
      obtain ⟨nn, hnn⟩ : ∃ nn, x.g.l.getD i default = nn := ⟨_, rfl⟩
      rw [hnn] at hat
      have hmem : nn ∈ x.g.l := by rw [← hnn]; exact getD_mem hiL
      have HC := one_any true nn (hS.ok.g.all nn hmem).1 w2
      unfold Nl.v at HC
      have t1 := all_take_s x.g.l (okN true) i hiL
      rw [hall, Bool.true_and, hnn] at t1
      obtain ⟨bo, hbo⟩ : ∃ bo, okN true nn = bo := ⟨_, rfl⟩
      rw [hbo] at HC t1
      have HC := Lib.hid HC
      have HK := Lib.hid (And.intro t1 (And.intro hmem (And.intro hbo hS)))
      have d0 := hat 0 (by decide)
      have d1 := hat 1 (by decide)
      have d2 := hat 2 (by decide)
      simp only [RNl, Nat.add_zero, List.getElem?_cons_zero, List.getElem?_cons_succ] at d0 d1 d2
      rw [ea] at c0
      clear hbx hall hS hiL hbb hat hnn hmem t1 hbo ea
      go_wp2_with fail
      refine (HC.out).mono ?_
      rintro e w5 ⟨rfl, hb⟩
      have HS5 := Lib.hid (HK.out.2.2.2.keep hb)
      clear hb HC c0 c1 c2 c3 c4 c5 c6 c7 c8 d0 d1 d2
      cases bo with
      | true =>
        go_wp2_with fail
        exact ⟨⟨i + 1, hlt, by first | rw [hw3] | rw [Int.natCast_succ], HK.out.1, HS5.out⟩, by first | (rw [hw3]; exact mSucc hlt) | (rw [← Int.natCast_succ]; exact mSucc hlt)⟩
      | false =>
        go_wp2_with fail
        go_ret
        have hno : x.g.l.all (okN true) = false := by
          rw [List.all_eq_false]
          exact ⟨_, HK.out.2.1, by simp [HK.out.2.2.1]⟩
        exact ⟨ret_bool (by rw [← HV.out]; unfold mayR oddR UpV.up; dsimp only; rw [hno]; simp), HS5.out.b⟩
    · obtain rfl : i = x.g.n := by omega
      have hil : ((x.g.n : Int) < (x.g.n : Int)) = False := by simp
      have hal1 : x.g.l.all (okN true) = true := by
        rw [List.take_of_length_le (by have := hS.ok.g.sl.len; omega)] at hall
        exact hall
      have HA1 := Lib.hid hal1
      have G2 := Lib.hid hS
      clear hall hS hal1 hi hbx
      go_wp2_with fail
      clear c0 c1 c2 c3 c4 c5 c6 c7 c8
      go_loopw [6] (fun iv wr => ∃ i : Nat, i ≤ x.r.n ∧ iv = .int .i64 i ∧ (x.r.l.take i).all (okN true) = true ∧ MyS w x wr) (fun iv _ => x.r.n - (intOf iv).toNat)
      case atStart => exact ⟨0, Nat.zero_le _, rfl, rfl, G2.out⟩
      case round =>
        obtain ⟨i, hi, rfl, hall, hS⟩ := hrel
        obtain ⟨w2, rfl⟩ : ∃ w2 : World, w2 = wr := ⟨_, rfl⟩
        have hbx := hS.bx
        obtain ⟨c0, c1, c2, c3, c4, c5, c6, c7, c8⟩ := hbx.cells
        by_cases hlt : i < x.r.n
        · have hil : ((i : Int) < (x.r.n : Int)) = True := by simp; omega
          have hi0 : ((0 : Int) ≤ (i : Int)) = True := by simp
          have hw3 := wrapS hlt (show x.r.n ≤ maxLen from hS.ok.r.sl.max)
          have hiL : i < x.r.l.length := by have := hS.ok.r.sl.len; omega
          obtain ⟨b, o, ea, hbb, hat⟩ := hS.ok.r.sl.at hlt
          obtain ⟨nn, hnn⟩ : ∃ nn, x.r.l.getD i default = nn := ⟨_, rfl⟩
          rw [hnn] at hat
          have hmem : nn ∈ x.r.l := by rw [← hnn]; exact getD_mem hiL
          have HC := one_any true nn (hS.ok.r.all nn hmem).1 w2
          unfold Nl.v at HC
          have t1 := all_take_s x.r.l (okN true) i hiL
          rw [hall, Bool.true_and, hnn] at t1
          obtain ⟨bo, hbo⟩ : ∃ bo, okN true nn = bo := ⟨_, rfl⟩
          rw [hbo] at HC t1
          have HC := Lib.hid HC
          have HK := Lib.hid (And.intro t1 (And.intro hmem (And.intro hbo hS)))
          have d0 := hat 0 (by decide)
          have d1 := hat 1 (by decide)
          have d2 := hat 2 (by decide)
          simp only [RNl, Nat.add_zero, List.getElem?_cons_zero, List.getElem?_cons_succ] at d0 d1 d2
          rw [ea] at c1
          clear hbx hall hS hiL hbb hat hnn hmem t1 hbo ea
          go_wp2_with fail
          refine (HC.out).mono ?_
          rintro e w5 ⟨rfl, hb⟩
          have HS5 := Lib.hid (HK.out.2.2.2.keep hb)
          clear hb HC c0 c1 c2 c3 c4 c5 c6 c7 c8 d0 d1 d2
          cases bo with
          | true =>
            go_wp2_with fail
            exact ⟨⟨i + 1, hlt, by first | rw [hw3] | rw [Int.natCast_succ], HK.out.1, HS5.out⟩, by first | (rw [hw3]; exact mSucc hlt) | (rw [← Int.natCast_succ]; exact mSucc hlt)⟩
          | false =>
            go_wp2_with fail
            go_ret
            have hno : x.r.l.all (okN true) = false := by
              rw [List.all_eq_false]
              exact ⟨_, HK.out.2.1, by simp [HK.out.2.2.1]⟩
            exact ⟨ret_bool (by rw [← HV.out]; unfold mayR oddR UpV.up; dsimp only; rw [hno]; simp), HS5.out.b⟩
        · obtain rfl : i = x.r.n := by omega
          have hil : ((x.r.n : Int) < (x.r.n : Int)) = False := by simp
          have hal2 : x.r.l.all (okN true) = true := by
            rw [List.take_of_length_le (by have := hS.ok.r.sl.len; omega)] at hall
            exact hall
          have HA2 := Lib.hid hal2
          have G3 := Lib.hid hS
          clear hall hS hal2 hi hbx
          have HCK := racheck_any G3.out.ok.a true
          obtain ⟨ao, hao⟩ : ∃ b, okA true x.a.at = b := ⟨_, rfl⟩
          rw [hao] at HCK
          unfold AtV.v at HCK
          have HCK := Lib.hid HCK
          have hvv : v = ((decide (0 ≤ r) && decide (r < 16)) && (decide (x.r.l.length = 0) || (!x.soft && ao))) := by
            rw [← HV.out]
            unfold mayR oddR UpV.up
            dsimp only
            rw [HA1.out, HA2.out, hao]
            simp
          have HVV := Lib.hid hvv
          have HLR := Lib.hid (show x.r.n = x.r.l.length from G3.out.ok.r.sl.len)
          clear hao hvv
          by_cases h1 : 0 ≤ r
          · have e1 : (0 ≤ r) = True := eq_true h1
            by_cases h2 : r < 16
            · have e2 : (r < 16) = True := eq_true h2
              have HR := Lib.hid (show (decide (0 ≤ r) && decide (r < 16)) = true by simp [h1, h2])
              by_cases h3 : x.r.n = 0
              · have e3 : ((x.r.n : Int) == 0) = true := by simp [h3]
                have H3 := Lib.hid (show decide (x.r.l.length = 0) = true by rw [← HLR.out]; simp [h3])
                clear h1 h2 h3
                go_wp2_with fail
                go_ret
                exact ⟨ret_bool (by rw [HVV.out, HR.out, H3.out]; simp), G3.out.b⟩
              · have e3 : ((x.r.n : Int) == 0) = false := by simpa using h3
                have H3 := Lib.hid (show decide (x.r.l.length = 0) = false by rw [← HLR.out]; simp [h3])
                obtain ⟨so, hso⟩ : ∃ s, x.soft = s := ⟨_, rfl⟩
                rw [hso] at HVV c8
                clear h1 h2 h3 hso
                cases so with
                | true =>
                  go_wp2_with fail
                  go_ret
                  exact ⟨ret_bool (by rw [HVV.out, HR.out, H3.out]; simp), G3.out.b⟩
                | false =>
                  go_wp2_with fail
                  refine (HCK.out).mono ?_
                  rintro e w9 ⟨rfl, hb⟩
                  have G4 := Lib.hid (bcall G3.out.b (Nat.le_refl _) hb)
                  clear hb
                  go_wp2_with fail
                  go_ret
                  exact ⟨ret_bool (by rw [HVV.out, HR.out, H3.out]; simp), G4.out⟩
            · have e2 : (r < 16) = False := eq_false h2
              have HR := Lib.hid (show (decide (0 ≤ r) && decide (r < 16)) = false by simp [h2])
              clear h1 h2
              go_wp2_with fail
              go_ret
              exact ⟨ret_bool (by rw [HVV.out, HR.out]; simp), G3.out.b⟩
          · have e1 : (0 ≤ r) = False := eq_false h1
            have HR := Lib.hid (show (decide (0 ≤ r) && decide (r < 16)) = false by simp [h1])
            clear h1
            go_wp2_with fail
            go_ret
            exact ⟨ret_bool (by rw [HVV.out, HR.out]; simp), G3.out.b⟩
end Go.Proofs.YtadoflcomienoaaGreat
