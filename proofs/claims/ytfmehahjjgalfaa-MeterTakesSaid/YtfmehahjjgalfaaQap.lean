/- The reference's Demands. -/
import Derived.Test.YtfmehahjjgalfaaQao
import Derived.Test.YtfmehahjjgalfaaQaa
namespace Go.Proofs.Ytfmehahjjgalfaa.Me
open Go.RowKit

structure DkC (w : World) (q6 : Nat) (p : PK) (W : World) : Prop where
  key : BxP q6 p W
  old : Below w.heap.size w W
theorem DkC.keep {w : World} {q6 : Nat} {p : PK} {W W' : World} (h : DkC w q6 p W) (hb : Below W.heap.size W W') : DkC w q6 p W' := ⟨h.key.keep hb, bcall h.old (Nat.le_refl _) hb⟩
def DeC (w : World) (q6 b o : Nat) (p : PK) (z : Ct) (W : World) : Prop := DkC w q6 p W ∧ RCt.At W b o z
theorem DeC.keep {w : World} {q6 b o : Nat} {p : PK} {z : Ct} {W W' : World} (h : DeC w q6 b o p z W) (hb : Below W.heap.size W W') (hl : b < W.heap.size) : DeC w q6 b o p z W' := ⟨h.1.keep hb, h.2.keep (hb.block _ hl)⟩
theorem key_ne {a b : PK} (h : a ≠ b) : ((a.1 : Int) = (b.1 : Int) ∧ (a.2 == b.2) = false) ∨ (((a.1 : Nat) : Int) == (b.1 : Int)) = false := by
  by_cases e : a.1 = b.1
  · exact .inl ⟨by rw [e], by simpa using fun h2 => h (Prod.ext e h2)⟩
  · exact .inr (by simpa using fun h2 : ((a.1 : Nat) : Int) = (b.1 : Int) => e (by omega))
structure RDems (w w' : World) (X : Nat → Src) (v : Value) (L : List Ct) : Prop where
  own : RCt.Own w' w.heap.size v L
  dem : Dem X L
  bel : Below w.heap.size w w'
set_option maxRecDepth 100000 in
set_option maxHeartbeats 16000000 in
theorem rdemands_any {w0 w : World} (hb0 : Below w0.heap.size w0 w) {x : Nat} {X : Nat → Src} (H : RMet w0 w x X) : Calls Try.prog 56 #[.pointer (some ⟨x, 0, none⟩)] w fun e w' => ∃ v L, e = .returned v ∧ RDems w w' X v L := by
  have HH := Lib.hid (And.intro H hb0)
  clear H hb0
  go_enter Try.func56, Try.ntmps56
  go_wp2_with fail
  go_loopw [3, 4] (fun ov iv wr => ∃ (i : Nat) (out : List Ct), i ≤ 16 ∧ iv = .int .i64 i ∧ RCt.Own wr w.heap.size ov out ∧ DemQ X i 0 out ∧ Below w.heap.size w wr) (fun _ iv _ => 16 - (intOf iv).toNat)
  case atStart => exact ⟨0, [], Nat.zero_le _, rfl, Rep.Own.nil _ _, DemQ.zero X, Below.refl _ _⟩
  case round =>
    obtain ⟨i, out, hi, rfl, hown, hdq, hb⟩ := hrel
    obtain ⟨w2, rfl⟩ : ∃ w2 : World, w2 = wr := ⟨_, rfl⟩
    by_cases hlt : i < 16
    · have hil : ((i : Int) < 16) = True := by simp; omega
      have hi0 : ((0 : Int) ≤ (i : Int)) = True := by simp
      have hw3 := wrapS hlt (show 16 ≤ maxLen by unfold maxLen; omega)
      have HI := Lib.hid hlt
      have G0 := Lib.hid (And.intro hown (And.intro hdq hb))
      clear hown hdq hb
      go_wp2_with fail
      go_loopw [3, 5] (fun ov jv wr => ∃ (j : Nat) (out : List Ct), j ≤ lenO (X i) ∧ jv = .int .i64 j ∧ RCt.Own wr w.heap.size ov out ∧ DemQ X i j out ∧ Below w.heap.size w wr) (fun _ jv _ => lenO (X i) - (intOf jv).toNat)
      case atStart => exact ⟨0, out, Nat.zero_le _, rfl, G0.out⟩
      case round =>
        obtain ⟨j, out, hj, rfl, hown, hdq, hb⟩ := hrel
        obtain ⟨w2, rfl⟩ : ∃ w2 : World, w2 = wr := ⟨_, rfl⟩
        obtain ⟨y, hyc, hyr⟩ := (HH.out.1.keep hb).at HI.out
        have c3 := hyc 3 (by decide)
        simp only [lsC, List.getElem?_cons_zero, List.getElem?_cons_succ] at c3
        have hlen := len_cur hyr
        have hll := lenO_le (HH.out.1.ok i HI.out)
        obtain ⟨oa, cc, rfl, hsl, hn0⟩ := hown.sl0
        by_cases hjl : j < lenO (X i)
        · have hr : ∃ r, (X i).last = some r := by
            cases hl : (X i).last with
            | none => unfold lenO at hjl; rw [hl] at hjl; exact absurd hjl (Nat.not_lt_zero _)
            | some r => exact ⟨r, rfl⟩
          obtain ⟨r, hr⟩ := hr
          have hrl : y.s.l = r.cs := (hyr.l1 r hr).2.2
          have hrn : lenO (X i) = r.cs.length := by unfold lenO; rw [hr]
          have hcts := hyr.cur.keep (bcall HH.out.2 (Nat.le_refl _) hb)
          rw [hrl] at hcts
          have hyn : y.s.n = r.cs.length := by rw [hlen, hrn]
          have hjt : ((j : Int) < (y.s.n : Int)) = True := by rw [hlen]; simp; omega
          have hj0 : ((0 : Int) ≤ (j : Int)) = True := by simp
          have hwj := wrapS hjl (show lenO (X i) ≤ maxLen by unfold maxLen; omega)
          obtain ⟨b, o, hbo, hrow⟩ := hcts.sl.row (by omega)
          rw [hbo] at c3
          have hat := hrow.get j (by omega)
          obtain ⟨ct, hct⟩ : ∃ ct, r.cs.getD j default = ct := ⟨_, rfl⟩
          rw [hct] at hat
          obtain ⟨p, hp⟩ : ∃ p, ct.p = p := ⟨_, rfl⟩
          have y0 := hat 0 (by decide)
          have y1 := hat 1 (by decide)
          simp only [RCt, Nat.add_zero, List.getElem?_cons_zero, List.getElem?_cons_succ, hp] at y0 y1
          have hal := (Below.refl w2.heap.size w2).alloc (Nat.le_refl _) (.cells #[.int .u32 (p.1 : Int), .int .i64 p.2] 58)
          have hkp : BxP w2.heap.size p (w2.alloc (.cells #[.int .u32 (p.1 : Int), .int .i64 p.2] 58)) := hnew _ _
          have hpp : (r.cs.getD j default).p = p := by rw [hct, hp]
          have hjr : j < r.cs.length := by omega
          obtain ⟨yn, hyn2⟩ : ∃ yn, y.s.n = yn := ⟨_, rfl⟩
          rw [hyn2] at c3 hjt
          obtain ⟨yc, hyc2⟩ : ∃ yc, y.s.c = yc := ⟨_, rfl⟩
          rw [hyc2] at c3
          have hnc : ∃ m, out.length = m ∧ m ≤ cc := by
            rcases hown.cases with ⟨e1, e2⟩ | ⟨g, cap, e1, h1, h2, h3, -⟩
            · injection e1 with e3 e4 e5
              exact ⟨0, by rw [e2]; rfl, Nat.zero_le _⟩
            · injection e1 with e3 e4 e5
              exact ⟨_, rfl, by rw [e5]; exact h3⟩
          obtain ⟨m, hm, hmc⟩ := hnc
          rw [hm] at hown hsl ⊢
          have G := Lib.hid (And.intro (hown.below hal) (And.intro hdq (And.intro hr (And.intro hjr (And.intro hpp (And.intro hm (And.intro hmc hn0)))))))
          have GW := Lib.hid (And.intro (show DkC w w2.heap.size p (w2.alloc (.cells #[.int .u32 (p.1 : Int), .int .i64 p.2] 58)) from ⟨hkp, bcall hb (Nat.le_refl _) hal⟩) (hsl.keep hal))
          have HJ := Lib.hid (And.intro hjl hwj)
          have hmm : m ≤ 16384 := by
            have h1 := hdq.len
            rw [hm] at h1
            have h2 := HI.out
            have h3 : i * 1024 ≤ 15 * 1024 := Nat.mul_le_mul_right _ (by omega)
            generalize i * 1024 = z at *
            omega
          clear hown hdq hb hyc hyr hlen hr hrl hrn hcts hyn hrow hat hct hp hal hkp hpp hjr hm hmc hn0 hsl hll hyn2 hyc2 hbo
          go_wp2_with fail
          clear c3 y0 y1
          generalize w2.alloc (.cells #[.int .u32 (p.1 : Int), .int .i64 p.2] 58) = W1 at *
          generalize w2.heap.size = q6 at *
          go_loopw [7] (fun kv wr => ∃ k : Nat, k ≤ m ∧ kv = .int .i64 k ∧ (∀ a, a < k → ltK (out.getD a default).p p = true) ∧ Below W1.heap.size W1 wr) (fun kv _ => m - (intOf kv).toNat)
          case atStart => exact ⟨0, Nat.zero_le _, rfl, fun a ha => absurd ha (Nat.not_lt_zero _), Below.refl _ _⟩
          case round =>
            obtain ⟨k, hk, rfl, hlow, hb⟩ := hrel
            obtain ⟨w5, rfl⟩ : ∃ w5 : World, w5 = wr := ⟨_, rfl⟩
            have hk0 : ((0 : Int) ≤ (k : Int)) = True := by simp
            by_cases hkm : k < m
            · have hkt : ((k : Int) < (m : Int)) = True := by simp; omega
              have hwk := wrapS hkm (show m ≤ maxLen by unfold maxLen; omega)
              obtain ⟨g, og, e, hrow⟩ := GW.out.2.row (by omega)
              subst e
              have hkl : k < out.length := by rw [G.out.2.2.2.2.2.1]; exact hkm
              have hat := (hrow.below hb).get k hkl
              obtain ⟨z, hz⟩ : ∃ z, out.getD k default = z := ⟨_, rfl⟩
              rw [hz] at hat
              have hgl : g < W1.heap.size := hrow.lt
              have hd := (Below.refl w5.heap.size w5).drew
              have K := Lib.hid (And.intro (show DeC w q6 g (og + k * 3) p z w5.drew from DeC.keep ⟨GW.out.1.keep hb, hat⟩ hd (Nat.lt_of_lt_of_le hgl hb.size)) (show Below W1.heap.size W1 w5.drew from bcall hb (Nat.le_refl _) hd))
              have HF := Lib.hid (And.intro hlow (And.intro hz (And.intro hgl hkm)))
              have HC := Lib.hid (rcompare_any z.p.1 z.p.2 p.1 p.2)
              have hcl := @cmpK_lt z.p p
              unfold pfx at HC
              rw [show cmpP z.p.1 z.p.2 p.1 p.2 = cmpK z.p p from rfl] at HC
              generalize cmpK z.p p = cv at *
              clear hb hlow hz hat hrow hd hgl hkl
              go_wp2_with fail
              refine wp_region_heldP (DeC w q6 g (og + k * 3) p z) (by kernel_rfl) ?_
              generalize w5.drew = V at *
              refine held_reads [0, 1, 2, 3, 4, 5, 6, 7, 8, 9, 10] (g := 3) rfl (by kernel_rfl) K.out.1 (fun _ _ d _ _ h => by cases d <;> exact h) ?_
              simp only [pick, List.getD_cons_zero, List.getD_cons_succ]
              ((with_reducible refine wpRead_step (fun K hK => ?_)); go_simp; first | ((with_reducible refine hK _ ?_); clear hK K) | (apply Exists.intro; (with_reducible refine ⟨fun w' hw' => ?_, hK _ ?_⟩); (first | exact rfl | exact ⟨rfl, rfl⟩); clear hK K))
              ((with_reducible refine wpRead_step (fun K hK => ?_)); go_simp; first | ((with_reducible refine hK _ ?_); clear hK K) | (apply Exists.intro; (with_reducible refine ⟨fun w' hw' => ?_, hK _ ?_⟩); (first | exact rfl | exact ⟨rfl, rfl⟩); clear hK K))
              ((with_reducible refine wpRead_step (fun K hK => ?_)); go_simp; first | ((with_reducible refine hK _ ?_); clear hK K) | (apply Exists.intro; (with_reducible refine ⟨fun w' hw' => ?_, hK _ ?_⟩); (first | exact rfl | exact ⟨rfl, rfl⟩); clear hK K))
              ((with_reducible refine wpRead_step (fun K hK => ?_)); go_simp; first | ((with_reducible refine hK _ ?_); clear hK K) | (apply Exists.intro; (with_reducible refine ⟨fun w' hw' => ?_, hK _ ?_⟩); (first | exact rfl | exact ⟨rfl, rfl⟩); clear hK K))
              ((with_reducible refine wpRead_step (fun K hK => ?_)); go_simp; first | ((with_reducible refine hK _ ?_); clear hK K) | (apply Exists.intro; (with_reducible refine ⟨fun w' hw' => ?_, hK _ ?_⟩); (first | exact rfl | exact ⟨rfl, rfl⟩); clear hK K))
              ((with_reducible refine wpRead_step (fun K hK => ?_)); go_simp; first | ((with_reducible refine hK _ ?_); clear hK K) | (apply Exists.intro; (with_reducible refine ⟨fun w' hw' => ?_, hK _ ?_⟩); (first | exact rfl | exact ⟨rfl, rfl⟩); clear hK K))
              ((with_reducible refine wpRead_step (fun K hK => ?_)); go_simp; first | ((with_reducible refine hK _ ?_); clear hK K) | (apply Exists.intro; (with_reducible refine ⟨fun w' hw' => ?_, hK _ ?_⟩); (first | exact rfl | exact ⟨rfl, rfl⟩); clear hK K))
              ((with_reducible refine wpRead_step (fun K hK => ?_)); go_simp; first | ((with_reducible refine hK _ ?_); clear hK K) | (apply Exists.intro; (with_reducible refine ⟨fun w' hw' => ?_, hK _ ?_⟩); (first | exact rfl | exact ⟨rfl, rfl⟩); clear hK K))
              ((with_reducible refine wpRead_step (fun K hK => ?_)); go_simp; first | ((with_reducible refine hK _ ?_); clear hK K) | (apply Exists.intro; (with_reducible refine ⟨fun w' hw' => ?_, hK _ ?_⟩); (first | exact rfl | exact ⟨rfl, rfl⟩); clear hK K))
              ((with_reducible refine wpRead_step (fun K hK => ?_)); go_simp; first | ((with_reducible refine hK _ ?_); clear hK K) | (apply Exists.intro; (with_reducible refine ⟨fun w' hw' => ?_, hK _ ?_⟩); ((obtain ⟨f0, f1⟩ := hw'.1.key.cells; have f2 := hw'.2 0 (by decide); have f3 := hw'.2 1 (by decide); simp only [RCt, Nat.add_zero, List.getElem?_cons_zero, List.getElem?_cons_succ] at f2 f3; go_simp; first | exact rfl | exact ⟨rfl, rfl⟩)); clear hK K))
              ((with_reducible refine wpRead_step (fun K hK => ?_)); go_simp; first | ((with_reducible refine hK _ ?_); clear hK K) | (apply Exists.intro; (with_reducible refine ⟨fun w' hw' => ?_, hK _ ?_⟩); ((obtain ⟨f0, f1⟩ := hw'.1.key.cells; have f2 := hw'.2 0 (by decide); have f3 := hw'.2 1 (by decide); simp only [RCt, Nat.add_zero, List.getElem?_cons_zero, List.getElem?_cons_succ] at f2 f3; go_simp; first | exact rfl | exact ⟨rfl, rfl⟩)); clear hK K))
              with_reducible refine wpRead_nil ?_
              refine held_one 11 (by kernel_rfl) ?_
              simp only [pick, List.getD_cons_zero, List.getD_cons_succ]
              go_wp2_with fail
              refine (HC.out _).mono ?_
              rintro e V2 ⟨rfl, hb⟩
              have K3 := Lib.hid (And.intro (DeC.keep K.out.1 hb (Nat.lt_of_lt_of_le HF.out.2.2.1 K.out.2.size)) (bcall K.out.2 (Nat.le_refl _) hb))
              clear hb
              go_wp2_with fail
              refine ⟨K3.out.1, ?_⟩
              cases hlz : ltK z.p p with
              | true =>
                have hcv : (cv < 0) = True := eq_true (hcl.2 hlz)
                have HN := Lib.hid (show ∀ a, a < k + 1 → ltK (out.getD a default).p p = true from fun a ha => by
                  by_cases e : a = k
                  · rw [e, HF.out.2.1]; exact hlz
                  · exact HF.out.1 a (by omega))
                clear hcl hlz
                refine held_reads [12, 13] (g := 0) rfl (by kernel_rfl) K3.out.1 (fun _ _ d _ _ h => by cases d <;> exact h) ?_
                simp only [pick, List.getD_cons_zero, List.getD_cons_succ]
                ((with_reducible refine wpRead_step (fun K hK => ?_)); go_simp; first | ((with_reducible refine hK _ ?_); clear hK K) | (apply Exists.intro; (with_reducible refine ⟨fun w' hw' => ?_, hK _ ?_⟩); (first | exact rfl | exact ⟨rfl, rfl⟩); clear hK K))
                ((with_reducible refine wpRead_step (fun K hK => ?_)); go_simp; first | ((with_reducible refine hK _ ?_); clear hK K) | (apply Exists.intro; (with_reducible refine ⟨fun w' hw' => ?_, hK _ ?_⟩); (first | exact rfl | exact ⟨rfl, rfl⟩); clear hK K))
                with_reducible refine wpRead_nil ?_
                refine wpAnyH_done (by kernel_rfl) ?_ _
                go_wp2_with fail
                exact ⟨⟨k + 1, hkm, by first | rw [hwk] | rw [Int.natCast_succ], HN.out, K3.out.2⟩, by first | (rw [hwk]; exact mSucc hkm) | (rw [← Int.natCast_succ]; exact mSucc hkm)⟩
              | false =>
                have hcv : (cv < 0) = False := eq_false (fun h => by rw [hcl.1 h] at hlz; cases hlz)
                have HZ := Lib.hid hlz
                clear hcl hlz
                refine held_reads [12, 13] (g := 0) rfl (by kernel_rfl) K3.out.1 (fun _ _ d _ _ h => by cases d <;> exact h) ?_
                simp only [pick, List.getD_cons_zero, List.getD_cons_succ]
                ((with_reducible refine wpRead_step (fun K hK => ?_)); go_simp; first | ((with_reducible refine hK _ ?_); clear hK K) | (apply Exists.intro; (with_reducible refine ⟨fun w' hw' => ?_, hK _ ?_⟩); (first | exact rfl | exact ⟨rfl, rfl⟩); clear hK K))
                ((with_reducible refine wpRead_step (fun K hK => ?_)); go_simp; first | ((with_reducible refine hK _ ?_); clear hK K) | (apply Exists.intro; (with_reducible refine ⟨fun w' hw' => ?_, hK _ ?_⟩); (first | exact rfl | exact ⟨rfl, rfl⟩); clear hK K))
                with_reducible refine wpRead_nil ?_
                refine wpAnyH_done (by kernel_rfl) ?_ _
                have KW := Lib.hid (And.intro K3.out.1 (And.intro (G.out.1.below K3.out.2) (And.intro K3.out.2 (GW.out.2.keep K3.out.2))))
                clear K3 K
                obtain ⟨z0, z1⟩ := KW.out.1.1.key.cells
                go_wp2_with fail
                refine (rdemand_any (bcall HH.out.2 (Nat.le_refl _) KW.out.1.1.old) (HH.out.1.keep KW.out.1.1.old) p).mono ?_
                rintro e W6 ⟨rfl, hb6⟩
                have HDI := Lib.hid (demI_in X p 16)
                obtain ⟨dv, hdv⟩ : ∃ dv, demI X p 16 = dv := ⟨_, rfl⟩
                have HDV := Lib.hid hdv
                rw [hdv] at HDI ⊢
                clear hdv z0 z1
                have KX := Lib.hid (And.intro (DeC.keep KW.out.1 hb6 (Nat.lt_of_lt_of_le HF.out.2.2.1 KW.out.2.2.1.size)) (And.intro (KW.out.2.1.below hb6) (And.intro (bcall KW.out.2.2.1 (Nat.le_refl _) hb6) (KW.out.2.2.2.keep hb6))))
                clear hb6 KW
                go_wp2_with fail
                refine wp_region_heldP (DeC w q6 g (og + k * 3) p z) (by kernel_rfl) ?_
                have hd := (Below.refl W6.heap.size W6).drew
                have KY := Lib.hid (And.intro (DeC.keep KX.out.1 hd (Nat.lt_of_lt_of_le HF.out.2.2.1 KX.out.2.2.1.size)) (And.intro (KX.out.2.1.below hd) (And.intro (bcall KX.out.2.2.1 (Nat.le_refl _) hd) (KX.out.2.2.2.keep hd))))
                clear hd KX
                generalize W6.drew = V7 at *
                by_cases hdz : dv = 0
                · have hdt : (dv == 0) = true := by simp [hdz]
                  have HSK := Lib.hid (G.out.2.1.skip G.out.2.2.1 G.out.2.2.2.1 (.inl (by rw [G.out.2.2.2.2.1, HDV.out]; exact hdz)))
                  clear hdz
                  refine held_reads [0, 1, 2, 3, 4, 5, 6, 7, 8, 9, 10, 11, 12, 13, 14, 15, 16] (g := 0) rfl (by kernel_rfl) KY.out.1 (fun _ _ d _ _ h => by cases d <;> exact h) ?_
                  simp only [pick, List.getD_cons_zero, List.getD_cons_succ]
                  ((with_reducible refine wpRead_step (fun K hK => ?_)); go_simp; first | (rw [if_neg (by decide)]; (with_reducible refine hK _ ?_); clear hK K) | ((with_reducible refine hK _ ?_); clear hK K) | (apply Exists.intro; (with_reducible refine ⟨fun w' hw' => ?_, hK _ ?_⟩); (first | exact rfl | exact ⟨rfl, rfl⟩); clear hK K))
                  ((with_reducible refine wpRead_step (fun K hK => ?_)); go_simp; first | (rw [if_neg (by decide)]; (with_reducible refine hK _ ?_); clear hK K) | ((with_reducible refine hK _ ?_); clear hK K) | (apply Exists.intro; (with_reducible refine ⟨fun w' hw' => ?_, hK _ ?_⟩); (first | exact rfl | exact ⟨rfl, rfl⟩); clear hK K))
                  ((with_reducible refine wpRead_step (fun K hK => ?_)); go_simp; first | (rw [if_neg (by decide)]; (with_reducible refine hK _ ?_); clear hK K) | ((with_reducible refine hK _ ?_); clear hK K) | (apply Exists.intro; (with_reducible refine ⟨fun w' hw' => ?_, hK _ ?_⟩); (first | exact rfl | exact ⟨rfl, rfl⟩); clear hK K))
                  ((with_reducible refine wpRead_step (fun K hK => ?_)); go_simp; first | (rw [if_neg (by decide)]; (with_reducible refine hK _ ?_); clear hK K) | ((with_reducible refine hK _ ?_); clear hK K) | (apply Exists.intro; (with_reducible refine ⟨fun w' hw' => ?_, hK _ ?_⟩); (first | exact rfl | exact ⟨rfl, rfl⟩); clear hK K))
                  ((with_reducible refine wpRead_step (fun K hK => ?_)); go_simp; first | (rw [if_neg (by decide)]; (with_reducible refine hK _ ?_); clear hK K) | ((with_reducible refine hK _ ?_); clear hK K) | (apply Exists.intro; (with_reducible refine ⟨fun w' hw' => ?_, hK _ ?_⟩); (first | exact rfl | exact ⟨rfl, rfl⟩); clear hK K))
                  ((with_reducible refine wpRead_step (fun K hK => ?_)); go_simp; first | (rw [if_neg (by decide)]; (with_reducible refine hK _ ?_); clear hK K) | ((with_reducible refine hK _ ?_); clear hK K) | (apply Exists.intro; (with_reducible refine ⟨fun w' hw' => ?_, hK _ ?_⟩); (first | exact rfl | exact ⟨rfl, rfl⟩); clear hK K))
                  ((with_reducible refine wpRead_step (fun K hK => ?_)); go_simp; first | (rw [if_neg (by decide)]; (with_reducible refine hK _ ?_); clear hK K) | ((with_reducible refine hK _ ?_); clear hK K) | (apply Exists.intro; (with_reducible refine ⟨fun w' hw' => ?_, hK _ ?_⟩); (first | exact rfl | exact ⟨rfl, rfl⟩); clear hK K))
                  ((with_reducible refine wpRead_step (fun K hK => ?_)); go_simp; first | (rw [if_neg (by decide)]; (with_reducible refine hK _ ?_); clear hK K) | ((with_reducible refine hK _ ?_); clear hK K) | (apply Exists.intro; (with_reducible refine ⟨fun w' hw' => ?_, hK _ ?_⟩); (first | exact rfl | exact ⟨rfl, rfl⟩); clear hK K))
                  ((with_reducible refine wpRead_step (fun K hK => ?_)); go_simp; first | (rw [if_neg (by decide)]; (with_reducible refine hK _ ?_); clear hK K) | ((with_reducible refine hK _ ?_); clear hK K) | (apply Exists.intro; (with_reducible refine ⟨fun w' hw' => ?_, hK _ ?_⟩); (first | exact rfl | exact ⟨rfl, rfl⟩); clear hK K))
                  ((with_reducible refine wpRead_step (fun K hK => ?_)); go_simp; first | (rw [if_neg (by decide)]; (with_reducible refine hK _ ?_); clear hK K) | ((with_reducible refine hK _ ?_); clear hK K) | (apply Exists.intro; (with_reducible refine ⟨fun w' hw' => ?_, hK _ ?_⟩); (first | exact rfl | exact ⟨rfl, rfl⟩); clear hK K))
                  ((with_reducible refine wpRead_step (fun K hK => ?_)); go_simp; first | (rw [if_neg (by decide)]; (with_reducible refine hK _ ?_); clear hK K) | ((with_reducible refine hK _ ?_); clear hK K) | (apply Exists.intro; (with_reducible refine ⟨fun w' hw' => ?_, hK _ ?_⟩); (first | exact rfl | exact ⟨rfl, rfl⟩); clear hK K))
                  ((with_reducible refine wpRead_step (fun K hK => ?_)); go_simp; first | (rw [if_neg (by decide)]; (with_reducible refine hK _ ?_); clear hK K) | ((with_reducible refine hK _ ?_); clear hK K) | (apply Exists.intro; (with_reducible refine ⟨fun w' hw' => ?_, hK _ ?_⟩); (first | exact rfl | exact ⟨rfl, rfl⟩); clear hK K))
                  ((with_reducible refine wpRead_step (fun K hK => ?_)); go_simp; first | (rw [if_neg (by decide)]; (with_reducible refine hK _ ?_); clear hK K) | ((with_reducible refine hK _ ?_); clear hK K) | (apply Exists.intro; (with_reducible refine ⟨fun w' hw' => ?_, hK _ ?_⟩); (first | exact rfl | exact ⟨rfl, rfl⟩); clear hK K))
                  ((with_reducible refine wpRead_step (fun K hK => ?_)); go_simp; first | (rw [if_neg (by decide)]; (with_reducible refine hK _ ?_); clear hK K) | ((with_reducible refine hK _ ?_); clear hK K) | (apply Exists.intro; (with_reducible refine ⟨fun w' hw' => ?_, hK _ ?_⟩); (first | exact rfl | exact ⟨rfl, rfl⟩); clear hK K))
                  ((with_reducible refine wpRead_step (fun K hK => ?_)); go_simp; first | (rw [if_neg (by decide)]; (with_reducible refine hK _ ?_); clear hK K) | ((with_reducible refine hK _ ?_); clear hK K) | (apply Exists.intro; (with_reducible refine ⟨fun w' hw' => ?_, hK _ ?_⟩); (first | exact rfl | exact ⟨rfl, rfl⟩); clear hK K))
                  ((with_reducible refine wpRead_step (fun K hK => ?_)); go_simp; first | (rw [if_neg (by decide)]; (with_reducible refine hK _ ?_); clear hK K) | ((with_reducible refine hK _ ?_); clear hK K) | (apply Exists.intro; (with_reducible refine ⟨fun w' hw' => ?_, hK _ ?_⟩); (first | exact rfl | exact ⟨rfl, rfl⟩); clear hK K))
                  ((with_reducible refine wpRead_step (fun K hK => ?_)); go_simp; first | (rw [if_neg (by decide)]; (with_reducible refine hK _ ?_); clear hK K) | ((with_reducible refine hK _ ?_); clear hK K) | (apply Exists.intro; (with_reducible refine ⟨fun w' hw' => ?_, hK _ ?_⟩); (first | exact rfl | exact ⟨rfl, rfl⟩); clear hK K))
                  with_reducible refine wpRead_nil ?_
                  refine wpAnyH_done (by kernel_rfl) ?_ _
                  go_wp2_with fail
                  exact ⟨⟨j + 1, out, HJ.out.1, by first | rw [HJ.out.2] | rw [Int.natCast_succ], KY.out.2.1, HSK.out, KY.out.1.1.old⟩, by first | (rw [HJ.out.2]; exact mSucc HJ.out.1) | (rw [← Int.natCast_succ]; exact mSucc HJ.out.1)⟩
                · have hdt : (dv == 0) = false := by simp [hdz]
                  have HPOS := Lib.hid (show 0 < dv from by have := HDI.out; omega)
                  clear hdz
                  by_cases hpk : z.p = p
                  · have e1 : ((z.p.1 : Nat) : Int) = (p.1 : Int) := by rw [hpk]
                    have e2 : z.p.2 = p.2 := by rw [hpk]
                    have HSK := Lib.hid (G.out.2.1.skip G.out.2.2.1 G.out.2.2.2.1 (.inr (by
                      rw [G.out.2.2.2.2.1, ← hpk, ← HF.out.2.1]
                      exact List.mem_map.2 ⟨_, getD_mem (by rw [G.out.2.2.2.2.2.1]; exact HF.out.2.2.2), rfl⟩)))
                    clear hpk
                    refine held_reads [0, 1, 2, 3, 4, 5, 6, 7, 8, 9, 10, 11, 12, 13, 14, 15, 16] (g := 0) rfl (by kernel_rfl) KY.out.1 (fun _ _ d _ _ h => by cases d <;> exact h) ?_
                    simp only [pick, List.getD_cons_zero, List.getD_cons_succ]
                    ((with_reducible refine wpRead_step (fun K hK => ?_)); go_simp; first | ((with_reducible refine hK _ ?_); clear hK K) | (apply Exists.intro; (with_reducible refine ⟨fun w' hw' => ?_, hK _ ?_⟩); (first | exact rfl | exact ⟨rfl, rfl⟩); clear hK K))
                    ((with_reducible refine wpRead_step (fun K hK => ?_)); go_simp; first | ((with_reducible refine hK _ ?_); clear hK K) | (apply Exists.intro; (with_reducible refine ⟨fun w' hw' => ?_, hK _ ?_⟩); (first | exact rfl | exact ⟨rfl, rfl⟩); clear hK K))
                    ((with_reducible refine wpRead_step (fun K hK => ?_)); go_simp; first | ((with_reducible refine hK _ ?_); clear hK K) | (apply Exists.intro; (with_reducible refine ⟨fun w' hw' => ?_, hK _ ?_⟩); (first | exact rfl | exact ⟨rfl, rfl⟩); clear hK K))
                    ((with_reducible refine wpRead_step (fun K hK => ?_)); go_simp; first | ((with_reducible refine hK _ ?_); clear hK K) | (apply Exists.intro; (with_reducible refine ⟨fun w' hw' => ?_, hK _ ?_⟩); (first | exact rfl | exact ⟨rfl, rfl⟩); clear hK K))
                    ((with_reducible refine wpRead_step (fun K hK => ?_)); go_simp; first | ((with_reducible refine hK _ ?_); clear hK K) | (apply Exists.intro; (with_reducible refine ⟨fun w' hw' => ?_, hK _ ?_⟩); (first | exact rfl | exact ⟨rfl, rfl⟩); clear hK K))
                    ((with_reducible refine wpRead_step (fun K hK => ?_)); go_simp; first | ((with_reducible refine hK _ ?_); clear hK K) | (apply Exists.intro; (with_reducible refine ⟨fun w' hw' => ?_, hK _ ?_⟩); (first | exact rfl | exact ⟨rfl, rfl⟩); clear hK K))
                    ((with_reducible refine wpRead_step (fun K hK => ?_)); go_simp; first | ((with_reducible refine hK _ ?_); clear hK K) | (apply Exists.intro; (with_reducible refine ⟨fun w' hw' => ?_, hK _ ?_⟩); (first | exact rfl | exact ⟨rfl, rfl⟩); clear hK K))
                    ((with_reducible refine wpRead_step (fun K hK => ?_)); go_simp; first | ((with_reducible refine hK _ ?_); clear hK K) | (apply Exists.intro; (with_reducible refine ⟨fun w' hw' => ?_, hK _ ?_⟩); (first | exact rfl | exact ⟨rfl, rfl⟩); clear hK K))
                    ((with_reducible refine wpRead_step (fun K hK => ?_)); go_simp; first | ((with_reducible refine hK _ ?_); clear hK K) | (apply Exists.intro; (with_reducible refine ⟨fun w' hw' => ?_, hK _ ?_⟩); (first | exact rfl | exact ⟨rfl, rfl⟩); clear hK K))
                    ((with_reducible refine wpRead_step (fun K hK => ?_)); go_simp; first | ((with_reducible refine hK _ ?_); clear hK K) | (apply Exists.intro; (with_reducible refine ⟨fun w' hw' => ?_, hK _ ?_⟩); (first | exact rfl | exact ⟨rfl, rfl⟩); clear hK K))
                    ((with_reducible refine wpRead_step (fun K hK => ?_)); go_simp; first | ((with_reducible refine hK _ ?_); clear hK K) | (apply Exists.intro; (with_reducible refine ⟨fun w' hw' => ?_, hK _ ?_⟩); (first | exact rfl | exact ⟨rfl, rfl⟩); clear hK K))
                    ((with_reducible refine wpRead_step (fun K hK => ?_)); go_simp; first | ((with_reducible refine hK _ ?_); clear hK K) | (apply Exists.intro; (with_reducible refine ⟨fun w' hw' => ?_, hK _ ?_⟩); (first | exact rfl | exact ⟨rfl, rfl⟩); clear hK K))
                    ((with_reducible refine wpRead_step (fun K hK => ?_)); go_simp; first | ((with_reducible refine hK _ ?_); clear hK K) | (apply Exists.intro; (with_reducible refine ⟨fun w' hw' => ?_, hK _ ?_⟩); ((obtain ⟨f0, f1⟩ := hw'.1.key.cells; have f2 := hw'.2 0 (by decide); have f3 := hw'.2 1 (by decide); simp only [RCt, Nat.add_zero, List.getElem?_cons_zero, List.getElem?_cons_succ] at f2 f3; go_simp; first | exact rfl | exact ⟨rfl, rfl⟩)); clear hK K))
                    ((with_reducible refine wpRead_step (fun K hK => ?_)); go_simp; first | ((with_reducible refine hK _ ?_); clear hK K) | (apply Exists.intro; (with_reducible refine ⟨fun w' hw' => ?_, hK _ ?_⟩); ((obtain ⟨f0, f1⟩ := hw'.1.key.cells; have f2 := hw'.2 0 (by decide); have f3 := hw'.2 1 (by decide); simp only [RCt, Nat.add_zero, List.getElem?_cons_zero, List.getElem?_cons_succ] at f2 f3; go_simp; first | exact rfl | exact ⟨rfl, rfl⟩)); clear hK K))
                    ((with_reducible refine wpRead_step (fun K hK => ?_)); go_simp; first | ((with_reducible refine hK _ ?_); clear hK K) | (apply Exists.intro; (with_reducible refine ⟨fun w' hw' => ?_, hK _ ?_⟩); (first | exact rfl | exact ⟨rfl, rfl⟩); clear hK K))
                    ((with_reducible refine wpRead_step (fun K hK => ?_)); go_simp; first | ((with_reducible refine hK _ ?_); clear hK K) | (apply Exists.intro; (with_reducible refine ⟨fun w' hw' => ?_, hK _ ?_⟩); (first | exact rfl | exact ⟨rfl, rfl⟩); clear hK K))
                    ((with_reducible refine wpRead_step (fun K hK => ?_)); go_simp; first | ((with_reducible refine hK _ ?_); clear hK K) | (apply Exists.intro; (with_reducible refine ⟨fun w' hw' => ?_, hK _ ?_⟩); (first | exact rfl | exact ⟨rfl, rfl⟩); clear hK K))
                    with_reducible refine wpRead_nil ?_
                    refine wpAnyH_done (by kernel_rfl) ?_ _
                    go_wp2_with fail
                    exact ⟨⟨j + 1, out, HJ.out.1, by first | rw [HJ.out.2] | rw [Int.natCast_succ], KY.out.2.1, HSK.out, KY.out.1.1.old⟩, by first | (rw [HJ.out.2]; exact mSucc HJ.out.1) | (rw [← Int.natCast_succ]; exact mSucc HJ.out.1)⟩
                  · have HUP := Lib.hid (show k < out.length → ltK p (out.getD k default).p = true from fun _ => by
                      rw [HF.out.2.1]
                      rcases ltK_total z.p p with h | h | h
                      · rw [HZ.out] at h; cases h
                      · exact absurd h hpk
                      · exact h)
                    rcases key_ne hpk with ⟨e1, e2⟩ | e1
                    all_goals
                      clear hpk
                      refine held_reads [0, 1, 2, 3, 4, 5, 6, 7, 8, 9, 10, 11, 12, 13, 14, 15, 16] (g := 0) rfl (by kernel_rfl) KY.out.1 (fun _ _ d _ _ h => by cases d <;> exact h) ?_
                      simp only [pick, List.getD_cons_zero, List.getD_cons_succ]
                      ((with_reducible refine wpRead_step (fun K hK => ?_)); go_simp; first | ((with_reducible refine hK _ ?_); clear hK K) | (apply Exists.intro; (with_reducible refine ⟨fun w' hw' => ?_, hK _ ?_⟩); (first | exact rfl | exact ⟨rfl, rfl⟩); clear hK K))
                      ((with_reducible refine wpRead_step (fun K hK => ?_)); go_simp; first | ((with_reducible refine hK _ ?_); clear hK K) | (apply Exists.intro; (with_reducible refine ⟨fun w' hw' => ?_, hK _ ?_⟩); (first | exact rfl | exact ⟨rfl, rfl⟩); clear hK K))
                      ((with_reducible refine wpRead_step (fun K hK => ?_)); go_simp; first | ((with_reducible refine hK _ ?_); clear hK K) | (apply Exists.intro; (with_reducible refine ⟨fun w' hw' => ?_, hK _ ?_⟩); (first | exact rfl | exact ⟨rfl, rfl⟩); clear hK K))
                      ((with_reducible refine wpRead_step (fun K hK => ?_)); go_simp; first | ((with_reducible refine hK _ ?_); clear hK K) | (apply Exists.intro; (with_reducible refine ⟨fun w' hw' => ?_, hK _ ?_⟩); (first | exact rfl | exact ⟨rfl, rfl⟩); clear hK K))
                      ((with_reducible refine wpRead_step (fun K hK => ?_)); go_simp; first | ((with_reducible refine hK _ ?_); clear hK K) | (apply Exists.intro; (with_reducible refine ⟨fun w' hw' => ?_, hK _ ?_⟩); (first | exact rfl | exact ⟨rfl, rfl⟩); clear hK K))
                      ((with_reducible refine wpRead_step (fun K hK => ?_)); go_simp; first | ((with_reducible refine hK _ ?_); clear hK K) | (apply Exists.intro; (with_reducible refine ⟨fun w' hw' => ?_, hK _ ?_⟩); (first | exact rfl | exact ⟨rfl, rfl⟩); clear hK K))
                      ((with_reducible refine wpRead_step (fun K hK => ?_)); go_simp; first | ((with_reducible refine hK _ ?_); clear hK K) | (apply Exists.intro; (with_reducible refine ⟨fun w' hw' => ?_, hK _ ?_⟩); (first | exact rfl | exact ⟨rfl, rfl⟩); clear hK K))
                      ((with_reducible refine wpRead_step (fun K hK => ?_)); go_simp; first | ((with_reducible refine hK _ ?_); clear hK K) | (apply Exists.intro; (with_reducible refine ⟨fun w' hw' => ?_, hK _ ?_⟩); (first | exact rfl | exact ⟨rfl, rfl⟩); clear hK K))
                      ((with_reducible refine wpRead_step (fun K hK => ?_)); go_simp; first | ((with_reducible refine hK _ ?_); clear hK K) | (apply Exists.intro; (with_reducible refine ⟨fun w' hw' => ?_, hK _ ?_⟩); (first | exact rfl | exact ⟨rfl, rfl⟩); clear hK K))
                      ((with_reducible refine wpRead_step (fun K hK => ?_)); go_simp; first | ((with_reducible refine hK _ ?_); clear hK K) | (apply Exists.intro; (with_reducible refine ⟨fun w' hw' => ?_, hK _ ?_⟩); (first | exact rfl | exact ⟨rfl, rfl⟩); clear hK K))
                      ((with_reducible refine wpRead_step (fun K hK => ?_)); go_simp; first | ((with_reducible refine hK _ ?_); clear hK K) | (apply Exists.intro; (with_reducible refine ⟨fun w' hw' => ?_, hK _ ?_⟩); (first | exact rfl | exact ⟨rfl, rfl⟩); clear hK K))
                      ((with_reducible refine wpRead_step (fun K hK => ?_)); go_simp; first | ((with_reducible refine hK _ ?_); clear hK K) | (apply Exists.intro; (with_reducible refine ⟨fun w' hw' => ?_, hK _ ?_⟩); (first | exact rfl | exact ⟨rfl, rfl⟩); clear hK K))
                      ((with_reducible refine wpRead_step (fun K hK => ?_)); go_simp; first | ((with_reducible refine hK _ ?_); clear hK K) | (apply Exists.intro; (with_reducible refine ⟨fun w' hw' => ?_, hK _ ?_⟩); ((obtain ⟨f0, f1⟩ := hw'.1.key.cells; have f2 := hw'.2 0 (by decide); have f3 := hw'.2 1 (by decide); simp only [RCt, Nat.add_zero, List.getElem?_cons_zero, List.getElem?_cons_succ] at f2 f3; go_simp; first | exact rfl | exact ⟨rfl, rfl⟩)); clear hK K))
                      ((with_reducible refine wpRead_step (fun K hK => ?_)); go_simp; first | ((with_reducible refine hK _ ?_); clear hK K) | (apply Exists.intro; (with_reducible refine ⟨fun w' hw' => ?_, hK _ ?_⟩); ((obtain ⟨f0, f1⟩ := hw'.1.key.cells; have f2 := hw'.2 0 (by decide); have f3 := hw'.2 1 (by decide); simp only [RCt, Nat.add_zero, List.getElem?_cons_zero, List.getElem?_cons_succ] at f2 f3; go_simp; first | exact rfl | exact ⟨rfl, rfl⟩)); clear hK K))
                      ((with_reducible refine wpRead_step (fun K hK => ?_)); go_simp; first | ((with_reducible refine hK _ ?_); clear hK K) | (apply Exists.intro; (with_reducible refine ⟨fun w' hw' => ?_, hK _ ?_⟩); (first | exact rfl | exact ⟨rfl, rfl⟩); clear hK K))
                      ((with_reducible refine wpRead_step (fun K hK => ?_)); go_simp; first | ((with_reducible refine hK _ ?_); clear hK K) | (apply Exists.intro; (with_reducible refine ⟨fun w' hw' => ?_, hK _ ?_⟩); (first | exact rfl | exact ⟨rfl, rfl⟩); clear hK K))
                      ((with_reducible refine wpRead_step (fun K hK => ?_)); go_simp; first | ((with_reducible refine hK _ ?_); clear hK K) | (apply Exists.intro; (with_reducible refine ⟨fun w' hw' => ?_, hK _ ?_⟩); (first | exact rfl | exact ⟨rfl, rfl⟩); clear hK K))
                      with_reducible refine wpRead_nil ?_
                      refine wpAnyH_done (by kernel_rfl) ?_ _
                      obtain ⟨sa, hr1, hr2, hst, hsn, -⟩ := Rep.cut_from T80 KY.out.2.2.2 G.out.2.2.2.2.2.2.1 G.out.2.2.2.2.2.2.2 (i := k) (Nat.le_of_lt HF.out.2.2.2)
                      obtain ⟨sk, hq1, hq2, hsk⟩ := Rep.cut_kk T80 KY.out.2.2.2 G.out.2.2.2.2.2.2.1 (i := k) (Nat.le_of_lt HF.out.2.2.2)
                      have hal0 := (Below.refl V7.heap.size V7).alloc (Nat.le_refl _) (.cells #[] 128)
                      have hem : RCt.Own (V7.alloc (.cells #[] 128)) V7.heap.size (.slice (some ⟨V7.heap.size, 0, none⟩) 0 0) ([] : List Ct) := Rep.own_empty (hnew _ _) (Nat.le_refl _)
                      have N1 := Lib.hid (And.intro hal0 (And.intro hem (And.intro (hst.keep hal0) (And.intro hsn hsk))))
                      have HQQ := Lib.hid (And.intro hq1 hq2)
                      clear hal0 hem hst hsn hsk hq1 hq2
                      go_wp2_with (at_builtin; refine halt ?_)
                      refine Halted.go ?_
                      clear hr1 hr2
                      generalize V7.alloc (.cells #[] 128) = V8 at *
                      refine Rep.append_list T80 rfl _ _ rfl rfl N1.out.2.1 (L := []) (M := out.drop k) rfl N1.out.2.2.1 N1.out.2.2.2.1 (by rw [List.length_nil]; unfold maxLen; omega) (by rw [List.length_nil]; omega) N1.out.1.size ?_
                      intro v9 V9 hown9 hb9 _
                      rw [List.nil_append] at hown9
                      obtain ⟨a9, c9, rfl, hsl9, hn9⟩ := hown9.sl0
                      have hl9 : (out.drop k).length = m - k := by rw [List.length_drop, G.out.2.2.2.2.2.1]
                      rw [hl9] at hsl9 ⊢
                      have hb79 := N1.out.1.trans hb9
                      have N2 := Lib.hid (And.intro (KY.out.1.1.keep hb79) (And.intro (N1.out.2.2.2.2.keep hb79) (And.intro hsl9 hn9)))
                      clear hown9 hb9 hsl9 hn9 hl9 hb79 N1 KY
                      obtain ⟨hq1, hq2⟩ := HQQ.out
                      go_wp2_with fail
                      refine wp_region_heldP (DkC w q6 p) (by kernel_rfl) ?_
                      have hd := (Below.refl V9.heap.size V9).drew
                      have N3 := Lib.hid (And.intro (N2.out.1.keep hd) (And.intro (N2.out.2.1.keep hd) (And.intro (N2.out.2.2.1.keep hd) N2.out.2.2.2)))
                      clear hd N2
                      generalize V9.drew = V10 at *
                      refine held_reads [0, 1, 2, 3, 4, 5, 6, 9] (g := 4) rfl (by kernel_rfl) N3.out.1 (fun _ _ d _ _ h => by cases d <;> exact h) ?_
                      simp only [pick, List.getD_cons_zero, List.getD_cons_succ]
                      ((with_reducible refine wpRead_step (fun K hK => ?_)); go_simp; first | ((with_reducible refine hK _ ?_); clear hK K) | (apply Exists.intro; (with_reducible refine ⟨fun w' hw' => ?_, hK _ ?_⟩); (first | exact rfl | exact ⟨rfl, rfl⟩); clear hK K))
                      ((with_reducible refine wpRead_step (fun K hK => ?_)); go_simp; first | ((with_reducible refine hK _ ?_); clear hK K) | (apply Exists.intro; (with_reducible refine ⟨fun w' hw' => ?_, hK _ ?_⟩); (first | exact rfl | exact ⟨rfl, rfl⟩); clear hK K))
                      ((with_reducible refine wpRead_step (fun K hK => ?_)); go_simp; first | ((with_reducible refine hK _ ?_); clear hK K) | (apply Exists.intro; (with_reducible refine ⟨fun w' hw' => ?_, hK _ ?_⟩); (first | exact rfl | exact ⟨rfl, rfl⟩); clear hK K))
                      ((with_reducible refine wpRead_step (fun K hK => ?_)); go_simp; first | ((with_reducible refine hK _ ?_); clear hK K) | (apply Exists.intro; (with_reducible refine ⟨fun w' hw' => ?_, hK _ ?_⟩); (first | exact rfl | exact ⟨rfl, rfl⟩); clear hK K))
                      ((with_reducible refine wpRead_step (fun K hK => ?_)); go_simp; first | ((with_reducible refine hK _ ?_); clear hK K) | (apply Exists.intro; (with_reducible refine ⟨fun w' hw' => ?_, hK _ ?_⟩); ((obtain ⟨f0, f1⟩ := hw'.key.cells; go_simp; first | exact rfl | exact ⟨rfl, rfl⟩)); clear hK K))
                      ((with_reducible refine wpRead_step (fun K hK => ?_)); go_simp; first | ((with_reducible refine hK _ ?_); clear hK K) | (apply Exists.intro; (with_reducible refine ⟨fun w' hw' => ?_, hK _ ?_⟩); (first | exact rfl | exact ⟨rfl, rfl⟩); clear hK K))
                      ((with_reducible refine wpRead_step (fun K hK => ?_)); go_simp; first | ((with_reducible refine hK _ ?_); clear hK K) | (apply Exists.intro; (with_reducible refine ⟨fun w' hw' => ?_, hK _ ?_⟩); (first | exact rfl | exact ⟨rfl, rfl⟩); clear hK K))
                      ((with_reducible refine wpRead_step (fun K hK => ?_)); go_simp; first | ((with_reducible refine hK _ ?_); clear hK K) | (apply Exists.intro; (with_reducible refine ⟨fun w' hw' => ?_, hK _ ?_⟩); (first | exact rfl | exact ⟨rfl, rfl⟩); clear hK K))
                      with_reducible refine wpRead_nil ?_
                      clear hq1 hq2
                      refine held_one 7 (by kernel_rfl) ?_
                      simp only [pick, List.getD_cons_zero, List.getD_cons_succ]
                      have hal := (Below.refl V10.heap.size V10).alloc (Nat.le_refl _) (.cells #[.int .u32 (p.1 : Int), .int .i64 p.2, .int .i64 dv] 128)
                      have hone : RCt.Sl (V10.alloc (.cells #[.int .u32 (p.1 : Int), .int .i64 p.2, .int .i64 dv] 128)) (some ⟨V10.heap.size, 0, none⟩) 1 1 [⟨p, dv⟩] := Rep.sl_one (R := RCt) (y := ⟨p, dv⟩) (hnew _ _)
                      have N4 := Lib.hid (And.intro (N3.out.1.keep hal) (And.intro (N3.out.2.1.keep hal) (And.intro (N3.out.2.2.1.keep hal) (And.intro N3.out.2.2.2 hone))))
                      clear hal hone N3
                      go_wp2_with fail
                      refine ⟨N4.out.1, ?_⟩
                      generalize V10.alloc (.cells #[.int .u32 (p.1 : Int), .int .i64 p.2, .int .i64 dv] 128) = V11 at *
                      generalize V10.heap.size = q11 at *
                      refine held_one 8 (by kernel_rfl) ?_
                      simp only [pick, List.getD_cons_zero, List.getD_cons_succ]
                      go_wp2_with (at_builtin; refine halt ?_)
                      refine Halted.go ?_
                      refine Rep.append_cut T80 rfl _ _ rfl rfl N4.out.2.1 rfl N4.out.2.2.2.2 (by omega) (by unfold maxLen; omega) (by omega) ?_
                      intro v12 V12 hown12 hb12
                      have N5 := Lib.hid (And.intro hb12 (And.intro (N4.out.2.2.1.keep hb12) hown12))
                      clear hown12 hb12
                      go_wp2_with fail
                      refine ⟨N4.out.1.keep N5.out.1, ?_⟩
                      refine held_one 10 (by kernel_rfl) ?_
                      simp only [pick, List.getD_cons_zero, List.getD_cons_succ]
                      go_wp2_with (at_builtin; refine halt ?_)
                      refine Halted.go ?_
                      have hlt : (out.take k ++ [(⟨p, dv⟩ : Ct)]).length = k + 1 := by rw [List.length_append, List.length_take, G.out.2.2.2.2.2.1, List.length_singleton]; have := HF.out.2.2.2; omega
                      refine Rep.append_list T80 rfl _ _ rfl rfl N5.out.2.2 rfl N5.out.2.1 N4.out.2.2.2.1 (by rw [hlt]; unfold maxLen; omega) (by rw [hlt]; omega) N5.out.1.size ?_
                      intro v13 V13 hown13 hb13 _
                      have HIN := Lib.hid (show DemQ X i (j + 1) (out.take k ++ [⟨p, dv⟩] ++ out.drop k) from by
                        have h := G.out.2.1.ins G.out.2.2.1 G.out.2.2.2.1 (k := k) (by rw [G.out.2.2.2.2.2.1]; exact Nat.le_of_lt HF.out.2.2.2) G.out.2.2.2.2.1 (by rw [HDV.out]; exact HPOS.out) HF.out.1 HUP.out
                        rw [HDV.out] at h
                        exact h)
                      have N6 := Lib.hid (And.intro (N4.out.1.keep (N5.out.1.trans hb13)) (hown13.mono N4.out.1.old.size))
                      clear hlt hown13 hb13 N5 N4
                      go_wp2_with fail
                      refine ⟨N6.out.1, ?_⟩
                      refine held_one 11 (by kernel_rfl) ?_
                      simp only [pick, List.getD_cons_zero, List.getD_cons_succ]
                      go_wp2_with fail
                      refine ⟨N6.out.1, ?_⟩
                      refine wpAnyH_done (by kernel_rfl) ?_ _
                      go_wp2_with fail
                      exact ⟨⟨j + 1, _, HJ.out.1, by first | rw [HJ.out.2] | rw [Int.natCast_succ], N6.out.2, HIN.out, N6.out.1.old⟩, by first | (rw [HJ.out.2]; exact mSucc HJ.out.1) | (rw [← Int.natCast_succ]; exact mSucc HJ.out.1)⟩
            · obtain rfl : k = m := by omega
              have hkt : ((k : Int) < (k : Int)) = False := by simp
              have hd := (Below.refl w5.heap.size w5).drew
              have hbd : Below W1.heap.size W1 w5.drew := bcall hb (Nat.le_refl _) hd
              have KW := Lib.hid (And.intro (GW.out.1.keep hbd) (And.intro (G.out.1.below hbd) (And.intro hbd (GW.out.2.keep hbd))))
              have HF := Lib.hid hlow
              clear hb hd hbd hlow
              go_wp2_with fail
              refine wp_region_heldP (DkC w q6 p) (by kernel_rfl) ?_
              generalize w5.drew = V at *
              refine held_reads [0, 1, 2, 3, 4, 5, 6, 7, 8, 9, 10, 11, 12, 13] (g := 0) rfl (by kernel_rfl) KW.out.1 (fun _ _ d _ _ h => by cases d <;> exact h) ?_
              simp only [pick, List.getD_cons_zero, List.getD_cons_succ]
              ((with_reducible refine wpRead_step (fun K hK => ?_)); go_simp; first | ((with_reducible refine hK _ ?_); clear hK K) | (apply Exists.intro; (with_reducible refine ⟨fun w' hw' => ?_, hK _ ?_⟩); (first | exact rfl | exact ⟨rfl, rfl⟩); clear hK K))
              ((with_reducible refine wpRead_step (fun K hK => ?_)); go_simp; first | ((with_reducible refine hK _ ?_); clear hK K) | (apply Exists.intro; (with_reducible refine ⟨fun w' hw' => ?_, hK _ ?_⟩); (first | exact rfl | exact ⟨rfl, rfl⟩); clear hK K))
              ((with_reducible refine wpRead_step (fun K hK => ?_)); go_simp; first | ((with_reducible refine hK _ ?_); clear hK K) | (apply Exists.intro; (with_reducible refine ⟨fun w' hw' => ?_, hK _ ?_⟩); (first | exact rfl | exact ⟨rfl, rfl⟩); clear hK K))
              ((with_reducible refine wpRead_step (fun K hK => ?_)); go_simp; first | ((with_reducible refine hK _ ?_); clear hK K) | (apply Exists.intro; (with_reducible refine ⟨fun w' hw' => ?_, hK _ ?_⟩); (first | exact rfl | exact ⟨rfl, rfl⟩); clear hK K))
              ((with_reducible refine wpRead_step (fun K hK => ?_)); go_simp; first | ((with_reducible refine hK _ ?_); clear hK K) | (apply Exists.intro; (with_reducible refine ⟨fun w' hw' => ?_, hK _ ?_⟩); (first | exact rfl | exact ⟨rfl, rfl⟩); clear hK K))
              ((with_reducible refine wpRead_step (fun K hK => ?_)); go_simp; first | ((with_reducible refine hK _ ?_); clear hK K) | (apply Exists.intro; (with_reducible refine ⟨fun w' hw' => ?_, hK _ ?_⟩); (first | exact rfl | exact ⟨rfl, rfl⟩); clear hK K))
              ((with_reducible refine wpRead_step (fun K hK => ?_)); go_simp; first | ((with_reducible refine hK _ ?_); clear hK K) | (apply Exists.intro; (with_reducible refine ⟨fun w' hw' => ?_, hK _ ?_⟩); (first | exact rfl | exact ⟨rfl, rfl⟩); clear hK K))
              ((with_reducible refine wpRead_step (fun K hK => ?_)); go_simp; first | ((with_reducible refine hK _ ?_); clear hK K) | (apply Exists.intro; (with_reducible refine ⟨fun w' hw' => ?_, hK _ ?_⟩); (first | exact rfl | exact ⟨rfl, rfl⟩); clear hK K))
              ((with_reducible refine wpRead_step (fun K hK => ?_)); go_simp; first | ((with_reducible refine hK _ ?_); clear hK K) | (apply Exists.intro; (with_reducible refine ⟨fun w' hw' => ?_, hK _ ?_⟩); (first | exact rfl | exact ⟨rfl, rfl⟩); clear hK K))
              ((with_reducible refine wpRead_step (fun K hK => ?_)); go_simp; first | ((with_reducible refine hK _ ?_); clear hK K) | (apply Exists.intro; (with_reducible refine ⟨fun w' hw' => ?_, hK _ ?_⟩); (first | exact rfl | exact ⟨rfl, rfl⟩); clear hK K))
              ((with_reducible refine wpRead_step (fun K hK => ?_)); go_simp; first | ((with_reducible refine hK _ ?_); clear hK K) | (apply Exists.intro; (with_reducible refine ⟨fun w' hw' => ?_, hK _ ?_⟩); (first | exact rfl | exact ⟨rfl, rfl⟩); clear hK K))
              ((with_reducible refine wpRead_step (fun K hK => ?_)); go_simp; first | ((with_reducible refine hK _ ?_); clear hK K) | (apply Exists.intro; (with_reducible refine ⟨fun w' hw' => ?_, hK _ ?_⟩); (first | exact rfl | exact ⟨rfl, rfl⟩); clear hK K))
              ((with_reducible refine wpRead_step (fun K hK => ?_)); go_simp; first | ((with_reducible refine hK _ ?_); clear hK K) | (apply Exists.intro; (with_reducible refine ⟨fun w' hw' => ?_, hK _ ?_⟩); (first | exact rfl | exact ⟨rfl, rfl⟩); clear hK K))
              ((with_reducible refine wpRead_step (fun K hK => ?_)); go_simp; first | ((with_reducible refine hK _ ?_); clear hK K) | (apply Exists.intro; (with_reducible refine ⟨fun w' hw' => ?_, hK _ ?_⟩); (first | exact rfl | exact ⟨rfl, rfl⟩); clear hK K))
              with_reducible refine wpRead_nil ?_
              refine wpAnyH_done (by kernel_rfl) ?_ _
              obtain ⟨z0, z1⟩ := KW.out.1.key.cells
              go_wp2_with fail
              refine (rdemand_any (bcall HH.out.2 (Nat.le_refl _) KW.out.1.old) (HH.out.1.keep KW.out.1.old) p).mono ?_
              rintro e W6 ⟨rfl, hb6⟩
              have HDI := Lib.hid (demI_in X p 16)
              obtain ⟨dv, hdv⟩ : ∃ dv, demI X p 16 = dv := ⟨_, rfl⟩
              have HDV := Lib.hid hdv
              rw [hdv] at HDI ⊢
              clear hdv z0 z1
              have KX := Lib.hid (And.intro (KW.out.1.keep hb6) (And.intro (KW.out.2.1.below hb6) (And.intro (bcall KW.out.2.2.1 (Nat.le_refl _) hb6) (KW.out.2.2.2.keep hb6))))
              clear hb6 KW
              go_wp2_with fail
              refine wp_region_heldP (DkC w q6 p) (by kernel_rfl) ?_
              have hd := (Below.refl W6.heap.size W6).drew
              have KY := Lib.hid (And.intro (KX.out.1.keep hd) (And.intro (KX.out.2.1.below hd) (And.intro (bcall KX.out.2.2.1 (Nat.le_refl _) hd) (KX.out.2.2.2.keep hd))))
              clear hd KX
              generalize W6.drew = V7 at *
              by_cases hdz : dv = 0
              · have hdt : (dv == 0) = true := by simp [hdz]
                have HSK := Lib.hid (G.out.2.1.skip G.out.2.2.1 G.out.2.2.2.1 (.inl (by rw [G.out.2.2.2.2.1, HDV.out]; exact hdz)))
                clear hdz
                refine held_reads [0, 1, 2, 3, 4, 5, 6, 7, 8, 9, 10, 11, 12, 13, 14, 15, 16] (g := 0) rfl (by kernel_rfl) KY.out.1 (fun _ _ d _ _ h => by cases d <;> exact h) ?_
                simp only [pick, List.getD_cons_zero, List.getD_cons_succ]
                ((with_reducible refine wpRead_step (fun K hK => ?_)); go_simp; first | (rw [if_neg (by decide)]; (with_reducible refine hK _ ?_); clear hK K) | ((with_reducible refine hK _ ?_); clear hK K) | (apply Exists.intro; (with_reducible refine ⟨fun w' hw' => ?_, hK _ ?_⟩); (first | exact rfl | exact ⟨rfl, rfl⟩); clear hK K))
                ((with_reducible refine wpRead_step (fun K hK => ?_)); go_simp; first | (rw [if_neg (by decide)]; (with_reducible refine hK _ ?_); clear hK K) | ((with_reducible refine hK _ ?_); clear hK K) | (apply Exists.intro; (with_reducible refine ⟨fun w' hw' => ?_, hK _ ?_⟩); (first | exact rfl | exact ⟨rfl, rfl⟩); clear hK K))
                ((with_reducible refine wpRead_step (fun K hK => ?_)); go_simp; first | (rw [if_neg (by decide)]; (with_reducible refine hK _ ?_); clear hK K) | ((with_reducible refine hK _ ?_); clear hK K) | (apply Exists.intro; (with_reducible refine ⟨fun w' hw' => ?_, hK _ ?_⟩); (first | exact rfl | exact ⟨rfl, rfl⟩); clear hK K))
                ((with_reducible refine wpRead_step (fun K hK => ?_)); go_simp; first | (rw [if_neg (by decide)]; (with_reducible refine hK _ ?_); clear hK K) | ((with_reducible refine hK _ ?_); clear hK K) | (apply Exists.intro; (with_reducible refine ⟨fun w' hw' => ?_, hK _ ?_⟩); (first | exact rfl | exact ⟨rfl, rfl⟩); clear hK K))
                ((with_reducible refine wpRead_step (fun K hK => ?_)); go_simp; first | (rw [if_neg (by decide)]; (with_reducible refine hK _ ?_); clear hK K) | ((with_reducible refine hK _ ?_); clear hK K) | (apply Exists.intro; (with_reducible refine ⟨fun w' hw' => ?_, hK _ ?_⟩); (first | exact rfl | exact ⟨rfl, rfl⟩); clear hK K))
                ((with_reducible refine wpRead_step (fun K hK => ?_)); go_simp; first | (rw [if_neg (by decide)]; (with_reducible refine hK _ ?_); clear hK K) | ((with_reducible refine hK _ ?_); clear hK K) | (apply Exists.intro; (with_reducible refine ⟨fun w' hw' => ?_, hK _ ?_⟩); (first | exact rfl | exact ⟨rfl, rfl⟩); clear hK K))
                ((with_reducible refine wpRead_step (fun K hK => ?_)); go_simp; first | (rw [if_neg (by decide)]; (with_reducible refine hK _ ?_); clear hK K) | ((with_reducible refine hK _ ?_); clear hK K) | (apply Exists.intro; (with_reducible refine ⟨fun w' hw' => ?_, hK _ ?_⟩); (first | exact rfl | exact ⟨rfl, rfl⟩); clear hK K))
                ((with_reducible refine wpRead_step (fun K hK => ?_)); go_simp; first | (rw [if_neg (by decide)]; (with_reducible refine hK _ ?_); clear hK K) | ((with_reducible refine hK _ ?_); clear hK K) | (apply Exists.intro; (with_reducible refine ⟨fun w' hw' => ?_, hK _ ?_⟩); (first | exact rfl | exact ⟨rfl, rfl⟩); clear hK K))
                ((with_reducible refine wpRead_step (fun K hK => ?_)); go_simp; first | (rw [if_neg (by decide)]; (with_reducible refine hK _ ?_); clear hK K) | ((with_reducible refine hK _ ?_); clear hK K) | (apply Exists.intro; (with_reducible refine ⟨fun w' hw' => ?_, hK _ ?_⟩); (first | exact rfl | exact ⟨rfl, rfl⟩); clear hK K))
                ((with_reducible refine wpRead_step (fun K hK => ?_)); go_simp; first | (rw [if_neg (by decide)]; (with_reducible refine hK _ ?_); clear hK K) | ((with_reducible refine hK _ ?_); clear hK K) | (apply Exists.intro; (with_reducible refine ⟨fun w' hw' => ?_, hK _ ?_⟩); (first | exact rfl | exact ⟨rfl, rfl⟩); clear hK K))
                ((with_reducible refine wpRead_step (fun K hK => ?_)); go_simp; first | (rw [if_neg (by decide)]; (with_reducible refine hK _ ?_); clear hK K) | ((with_reducible refine hK _ ?_); clear hK K) | (apply Exists.intro; (with_reducible refine ⟨fun w' hw' => ?_, hK _ ?_⟩); (first | exact rfl | exact ⟨rfl, rfl⟩); clear hK K))
                ((with_reducible refine wpRead_step (fun K hK => ?_)); go_simp; first | (rw [if_neg (by decide)]; (with_reducible refine hK _ ?_); clear hK K) | ((with_reducible refine hK _ ?_); clear hK K) | (apply Exists.intro; (with_reducible refine ⟨fun w' hw' => ?_, hK _ ?_⟩); (first | exact rfl | exact ⟨rfl, rfl⟩); clear hK K))
                ((with_reducible refine wpRead_step (fun K hK => ?_)); go_simp; first | (rw [if_neg (by decide)]; (with_reducible refine hK _ ?_); clear hK K) | ((with_reducible refine hK _ ?_); clear hK K) | (apply Exists.intro; (with_reducible refine ⟨fun w' hw' => ?_, hK _ ?_⟩); (first | exact rfl | exact ⟨rfl, rfl⟩); clear hK K))
                ((with_reducible refine wpRead_step (fun K hK => ?_)); go_simp; first | (rw [if_neg (by decide)]; (with_reducible refine hK _ ?_); clear hK K) | ((with_reducible refine hK _ ?_); clear hK K) | (apply Exists.intro; (with_reducible refine ⟨fun w' hw' => ?_, hK _ ?_⟩); (first | exact rfl | exact ⟨rfl, rfl⟩); clear hK K))
                ((with_reducible refine wpRead_step (fun K hK => ?_)); go_simp; first | (rw [if_neg (by decide)]; (with_reducible refine hK _ ?_); clear hK K) | ((with_reducible refine hK _ ?_); clear hK K) | (apply Exists.intro; (with_reducible refine ⟨fun w' hw' => ?_, hK _ ?_⟩); (first | exact rfl | exact ⟨rfl, rfl⟩); clear hK K))
                ((with_reducible refine wpRead_step (fun K hK => ?_)); go_simp; first | (rw [if_neg (by decide)]; (with_reducible refine hK _ ?_); clear hK K) | ((with_reducible refine hK _ ?_); clear hK K) | (apply Exists.intro; (with_reducible refine ⟨fun w' hw' => ?_, hK _ ?_⟩); (first | exact rfl | exact ⟨rfl, rfl⟩); clear hK K))
                ((with_reducible refine wpRead_step (fun K hK => ?_)); go_simp; first | (rw [if_neg (by decide)]; (with_reducible refine hK _ ?_); clear hK K) | ((with_reducible refine hK _ ?_); clear hK K) | (apply Exists.intro; (with_reducible refine ⟨fun w' hw' => ?_, hK _ ?_⟩); (first | exact rfl | exact ⟨rfl, rfl⟩); clear hK K))
                with_reducible refine wpRead_nil ?_
                refine wpAnyH_done (by kernel_rfl) ?_ _
                go_wp2_with fail
                exact ⟨⟨j + 1, out, HJ.out.1, by first | rw [HJ.out.2] | rw [Int.natCast_succ], KY.out.2.1, HSK.out, KY.out.1.old⟩, by first | (rw [HJ.out.2]; exact mSucc HJ.out.1) | (rw [← Int.natCast_succ]; exact mSucc HJ.out.1)⟩
              · have hdt : (dv == 0) = false := by simp [hdz]
                have HPOS := Lib.hid (show 0 < dv from by have := HDI.out; omega)
                clear hdz
                have HUP := Lib.hid (show k < out.length → ltK p (out.getD k default).p = true from fun h => absurd h (by rw [G.out.2.2.2.2.2.1]; exact Nat.lt_irrefl _))
                refine held_reads [0, 1, 2, 3, 4, 5, 6, 7, 8, 9, 10, 11, 12, 13, 14, 15, 16] (g := 0) rfl (by kernel_rfl) KY.out.1 (fun _ _ d _ _ h => by cases d <;> exact h) ?_
                simp only [pick, List.getD_cons_zero, List.getD_cons_succ]
                ((with_reducible refine wpRead_step (fun K hK => ?_)); go_simp; first | (rw [if_neg (by decide)]; (with_reducible refine hK _ ?_); clear hK K) | ((with_reducible refine hK _ ?_); clear hK K) | (apply Exists.intro; (with_reducible refine ⟨fun w' hw' => ?_, hK _ ?_⟩); (first | exact rfl | exact ⟨rfl, rfl⟩); clear hK K))
                ((with_reducible refine wpRead_step (fun K hK => ?_)); go_simp; first | (rw [if_neg (by decide)]; (with_reducible refine hK _ ?_); clear hK K) | ((with_reducible refine hK _ ?_); clear hK K) | (apply Exists.intro; (with_reducible refine ⟨fun w' hw' => ?_, hK _ ?_⟩); (first | exact rfl | exact ⟨rfl, rfl⟩); clear hK K))
                ((with_reducible refine wpRead_step (fun K hK => ?_)); go_simp; first | (rw [if_neg (by decide)]; (with_reducible refine hK _ ?_); clear hK K) | ((with_reducible refine hK _ ?_); clear hK K) | (apply Exists.intro; (with_reducible refine ⟨fun w' hw' => ?_, hK _ ?_⟩); (first | exact rfl | exact ⟨rfl, rfl⟩); clear hK K))
                ((with_reducible refine wpRead_step (fun K hK => ?_)); go_simp; first | (rw [if_neg (by decide)]; (with_reducible refine hK _ ?_); clear hK K) | ((with_reducible refine hK _ ?_); clear hK K) | (apply Exists.intro; (with_reducible refine ⟨fun w' hw' => ?_, hK _ ?_⟩); (first | exact rfl | exact ⟨rfl, rfl⟩); clear hK K))
                ((with_reducible refine wpRead_step (fun K hK => ?_)); go_simp; first | (rw [if_neg (by decide)]; (with_reducible refine hK _ ?_); clear hK K) | ((with_reducible refine hK _ ?_); clear hK K) | (apply Exists.intro; (with_reducible refine ⟨fun w' hw' => ?_, hK _ ?_⟩); (first | exact rfl | exact ⟨rfl, rfl⟩); clear hK K))
                ((with_reducible refine wpRead_step (fun K hK => ?_)); go_simp; first | (rw [if_neg (by decide)]; (with_reducible refine hK _ ?_); clear hK K) | ((with_reducible refine hK _ ?_); clear hK K) | (apply Exists.intro; (with_reducible refine ⟨fun w' hw' => ?_, hK _ ?_⟩); (first | exact rfl | exact ⟨rfl, rfl⟩); clear hK K))
                ((with_reducible refine wpRead_step (fun K hK => ?_)); go_simp; first | (rw [if_neg (by decide)]; (with_reducible refine hK _ ?_); clear hK K) | ((with_reducible refine hK _ ?_); clear hK K) | (apply Exists.intro; (with_reducible refine ⟨fun w' hw' => ?_, hK _ ?_⟩); (first | exact rfl | exact ⟨rfl, rfl⟩); clear hK K))
                ((with_reducible refine wpRead_step (fun K hK => ?_)); go_simp; first | (rw [if_neg (by decide)]; (with_reducible refine hK _ ?_); clear hK K) | ((with_reducible refine hK _ ?_); clear hK K) | (apply Exists.intro; (with_reducible refine ⟨fun w' hw' => ?_, hK _ ?_⟩); (first | exact rfl | exact ⟨rfl, rfl⟩); clear hK K))
                ((with_reducible refine wpRead_step (fun K hK => ?_)); go_simp; first | (rw [if_neg (by decide)]; (with_reducible refine hK _ ?_); clear hK K) | ((with_reducible refine hK _ ?_); clear hK K) | (apply Exists.intro; (with_reducible refine ⟨fun w' hw' => ?_, hK _ ?_⟩); (first | exact rfl | exact ⟨rfl, rfl⟩); clear hK K))
                ((with_reducible refine wpRead_step (fun K hK => ?_)); go_simp; first | (rw [if_neg (by decide)]; (with_reducible refine hK _ ?_); clear hK K) | ((with_reducible refine hK _ ?_); clear hK K) | (apply Exists.intro; (with_reducible refine ⟨fun w' hw' => ?_, hK _ ?_⟩); (first | exact rfl | exact ⟨rfl, rfl⟩); clear hK K))
                ((with_reducible refine wpRead_step (fun K hK => ?_)); go_simp; first | (rw [if_neg (by decide)]; (with_reducible refine hK _ ?_); clear hK K) | ((with_reducible refine hK _ ?_); clear hK K) | (apply Exists.intro; (with_reducible refine ⟨fun w' hw' => ?_, hK _ ?_⟩); (first | exact rfl | exact ⟨rfl, rfl⟩); clear hK K))
                ((with_reducible refine wpRead_step (fun K hK => ?_)); go_simp; first | (rw [if_neg (by decide)]; (with_reducible refine hK _ ?_); clear hK K) | ((with_reducible refine hK _ ?_); clear hK K) | (apply Exists.intro; (with_reducible refine ⟨fun w' hw' => ?_, hK _ ?_⟩); (first | exact rfl | exact ⟨rfl, rfl⟩); clear hK K))
                ((with_reducible refine wpRead_step (fun K hK => ?_)); go_simp; first | (rw [if_neg (by decide)]; (with_reducible refine hK _ ?_); clear hK K) | ((with_reducible refine hK _ ?_); clear hK K) | (apply Exists.intro; (with_reducible refine ⟨fun w' hw' => ?_, hK _ ?_⟩); (first | exact rfl | exact ⟨rfl, rfl⟩); clear hK K))
                ((with_reducible refine wpRead_step (fun K hK => ?_)); go_simp; first | (rw [if_neg (by decide)]; (with_reducible refine hK _ ?_); clear hK K) | ((with_reducible refine hK _ ?_); clear hK K) | (apply Exists.intro; (with_reducible refine ⟨fun w' hw' => ?_, hK _ ?_⟩); (first | exact rfl | exact ⟨rfl, rfl⟩); clear hK K))
                ((with_reducible refine wpRead_step (fun K hK => ?_)); go_simp; first | (rw [if_neg (by decide)]; (with_reducible refine hK _ ?_); clear hK K) | ((with_reducible refine hK _ ?_); clear hK K) | (apply Exists.intro; (with_reducible refine ⟨fun w' hw' => ?_, hK _ ?_⟩); (first | exact rfl | exact ⟨rfl, rfl⟩); clear hK K))
                ((with_reducible refine wpRead_step (fun K hK => ?_)); go_simp; first | (rw [if_neg (by decide)]; (with_reducible refine hK _ ?_); clear hK K) | ((with_reducible refine hK _ ?_); clear hK K) | (apply Exists.intro; (with_reducible refine ⟨fun w' hw' => ?_, hK _ ?_⟩); (first | exact rfl | exact ⟨rfl, rfl⟩); clear hK K))
                ((with_reducible refine wpRead_step (fun K hK => ?_)); go_simp; first | (rw [if_neg (by decide)]; (with_reducible refine hK _ ?_); clear hK K) | ((with_reducible refine hK _ ?_); clear hK K) | (apply Exists.intro; (with_reducible refine ⟨fun w' hw' => ?_, hK _ ?_⟩); (first | exact rfl | exact ⟨rfl, rfl⟩); clear hK K))
                with_reducible refine wpRead_nil ?_
                refine wpAnyH_done (by kernel_rfl) ?_ _
                obtain ⟨sa, hr1, hr2, hst, hsn, -⟩ := Rep.cut_from T80 KY.out.2.2.2 G.out.2.2.2.2.2.2.1 G.out.2.2.2.2.2.2.2 (i := k) (Nat.le_refl _)
                simp only [Nat.sub_self] at hr1 hr2 hst
                obtain ⟨sk, hq1, hq2, hsk⟩ := Rep.cut_kk T80 KY.out.2.2.2 G.out.2.2.2.2.2.2.1 (i := k) (Nat.le_refl _)
                have hal0 := (Below.refl V7.heap.size V7).alloc (Nat.le_refl _) (.cells #[] 128)
                have hem : RCt.Own (V7.alloc (.cells #[] 128)) V7.heap.size (.slice (some ⟨V7.heap.size, 0, none⟩) 0 0) ([] : List Ct) := Rep.own_empty (hnew _ _) (Nat.le_refl _)
                have N1 := Lib.hid (And.intro hal0 (And.intro hem (And.intro (hst.keep hal0) (And.intro hsn hsk))))
                have HQQ := Lib.hid (And.intro hq1 hq2)
                clear hal0 hem hst hsn hsk hq1 hq2
                go_wp2_with (at_builtin; refine halt ?_)
                refine Halted.go ?_
                clear hr1 hr2
                generalize V7.alloc (.cells #[] 128) = V8 at *
                refine Rep.append_list T80 rfl _ _ rfl rfl N1.out.2.1 (L := []) (M := out.drop k) rfl N1.out.2.2.1 N1.out.2.2.2.1 (by rw [List.length_nil]; unfold maxLen; omega) (by rw [List.length_nil]; omega) N1.out.1.size ?_
                intro v9 V9 hown9 hb9 _
                rw [List.nil_append] at hown9
                obtain ⟨a9, c9, rfl, hsl9, hn9⟩ := hown9.sl0
                have hl9 : (out.drop k).length = 0 := by rw [List.length_drop, G.out.2.2.2.2.2.1, Nat.sub_self]
                rw [hl9] at hsl9 ⊢
                have hb79 := N1.out.1.trans hb9
                have N2 := Lib.hid (And.intro (KY.out.1.keep hb79) (And.intro (N1.out.2.2.2.2.keep hb79) (And.intro hsl9 hn9)))
                clear hown9 hb9 hsl9 hn9 hl9 hb79 N1 KY
                obtain ⟨hq1, hq2⟩ := HQQ.out
                go_wp2_with fail
                refine wp_region_heldP (DkC w q6 p) (by kernel_rfl) ?_
                have hd := (Below.refl V9.heap.size V9).drew
                have N3 := Lib.hid (And.intro (N2.out.1.keep hd) (And.intro (N2.out.2.1.keep hd) (And.intro (N2.out.2.2.1.keep hd) N2.out.2.2.2)))
                clear hd N2
                generalize V9.drew = V10 at *
                refine held_reads [0, 1, 2, 3, 4, 5, 6, 9] (g := 4) rfl (by kernel_rfl) N3.out.1 (fun _ _ d _ _ h => by cases d <;> exact h) ?_
                simp only [pick, List.getD_cons_zero, List.getD_cons_succ]
                ((with_reducible refine wpRead_step (fun K hK => ?_)); go_simp; first | ((with_reducible refine hK _ ?_); clear hK K) | (apply Exists.intro; (with_reducible refine ⟨fun w' hw' => ?_, hK _ ?_⟩); (first | exact rfl | exact ⟨rfl, rfl⟩); clear hK K))
                ((with_reducible refine wpRead_step (fun K hK => ?_)); go_simp; first | ((with_reducible refine hK _ ?_); clear hK K) | (apply Exists.intro; (with_reducible refine ⟨fun w' hw' => ?_, hK _ ?_⟩); (first | exact rfl | exact ⟨rfl, rfl⟩); clear hK K))
                ((with_reducible refine wpRead_step (fun K hK => ?_)); go_simp; first | ((with_reducible refine hK _ ?_); clear hK K) | (apply Exists.intro; (with_reducible refine ⟨fun w' hw' => ?_, hK _ ?_⟩); (first | exact rfl | exact ⟨rfl, rfl⟩); clear hK K))
                ((with_reducible refine wpRead_step (fun K hK => ?_)); go_simp; first | ((with_reducible refine hK _ ?_); clear hK K) | (apply Exists.intro; (with_reducible refine ⟨fun w' hw' => ?_, hK _ ?_⟩); (first | exact rfl | exact ⟨rfl, rfl⟩); clear hK K))
                ((with_reducible refine wpRead_step (fun K hK => ?_)); go_simp; first | ((with_reducible refine hK _ ?_); clear hK K) | (apply Exists.intro; (with_reducible refine ⟨fun w' hw' => ?_, hK _ ?_⟩); ((obtain ⟨f0, f1⟩ := hw'.key.cells; go_simp; first | exact rfl | exact ⟨rfl, rfl⟩)); clear hK K))
                ((with_reducible refine wpRead_step (fun K hK => ?_)); go_simp; first | ((with_reducible refine hK _ ?_); clear hK K) | (apply Exists.intro; (with_reducible refine ⟨fun w' hw' => ?_, hK _ ?_⟩); (first | exact rfl | exact ⟨rfl, rfl⟩); clear hK K))
                ((with_reducible refine wpRead_step (fun K hK => ?_)); go_simp; first | ((with_reducible refine hK _ ?_); clear hK K) | (apply Exists.intro; (with_reducible refine ⟨fun w' hw' => ?_, hK _ ?_⟩); (first | exact rfl | exact ⟨rfl, rfl⟩); clear hK K))
                ((with_reducible refine wpRead_step (fun K hK => ?_)); go_simp; first | ((with_reducible refine hK _ ?_); clear hK K) | (apply Exists.intro; (with_reducible refine ⟨fun w' hw' => ?_, hK _ ?_⟩); (first | exact rfl | exact ⟨rfl, rfl⟩); clear hK K))
                with_reducible refine wpRead_nil ?_
                clear hq1 hq2
                refine held_one 7 (by kernel_rfl) ?_
                simp only [pick, List.getD_cons_zero, List.getD_cons_succ]
                have hal := (Below.refl V10.heap.size V10).alloc (Nat.le_refl _) (.cells #[.int .u32 (p.1 : Int), .int .i64 p.2, .int .i64 dv] 128)
                have hone : RCt.Sl (V10.alloc (.cells #[.int .u32 (p.1 : Int), .int .i64 p.2, .int .i64 dv] 128)) (some ⟨V10.heap.size, 0, none⟩) 1 1 [⟨p, dv⟩] := Rep.sl_one (R := RCt) (y := ⟨p, dv⟩) (hnew _ _)
                have N4 := Lib.hid (And.intro (N3.out.1.keep hal) (And.intro (N3.out.2.1.keep hal) (And.intro (N3.out.2.2.1.keep hal) (And.intro N3.out.2.2.2 hone))))
                clear hal hone N3
                go_wp2_with fail
                refine ⟨N4.out.1, ?_⟩
                generalize V10.alloc (.cells #[.int .u32 (p.1 : Int), .int .i64 p.2, .int .i64 dv] 128) = V11 at *
                generalize V10.heap.size = q11 at *
                refine held_one 8 (by kernel_rfl) ?_
                simp only [pick, List.getD_cons_zero, List.getD_cons_succ]
                go_wp2_with (at_builtin; refine halt ?_)
                refine Halted.go ?_
                refine Rep.append_cut T80 rfl _ _ rfl rfl N4.out.2.1 rfl N4.out.2.2.2.2 (by omega) (by unfold maxLen; omega) (by omega) ?_
                intro v12 V12 hown12 hb12
                have N5 := Lib.hid (And.intro hb12 (And.intro (N4.out.2.2.1.keep hb12) hown12))
                clear hown12 hb12
                go_wp2_with fail
                refine ⟨N4.out.1.keep N5.out.1, ?_⟩
                refine held_one 10 (by kernel_rfl) ?_
                simp only [pick, List.getD_cons_zero, List.getD_cons_succ]
                go_wp2_with (at_builtin; refine halt ?_)
                refine Halted.go ?_
                have hlt : (out.take k ++ [(⟨p, dv⟩ : Ct)]).length = k + 1 := by rw [List.length_append, List.length_take, G.out.2.2.2.2.2.1, List.length_singleton]; omega
                refine Rep.append_list T80 rfl _ _ rfl rfl N5.out.2.2 rfl N5.out.2.1 N4.out.2.2.2.1 (by rw [hlt]; unfold maxLen; omega) (by rw [hlt]; omega) N5.out.1.size ?_
                intro v13 V13 hown13 hb13 _
                have HIN := Lib.hid (show DemQ X i (j + 1) (out.take k ++ [⟨p, dv⟩] ++ out.drop k) from by
                  have h := G.out.2.1.ins G.out.2.2.1 G.out.2.2.2.1 (k := k) (by rw [G.out.2.2.2.2.2.1]; exact Nat.le_refl _) G.out.2.2.2.2.1 (by rw [HDV.out]; exact HPOS.out) HF.out HUP.out
                  rw [HDV.out] at h
                  exact h)
                have N6 := Lib.hid (And.intro (N4.out.1.keep (N5.out.1.trans hb13)) (hown13.mono N4.out.1.old.size))
                clear hlt hown13 hb13 N5 N4
                go_wp2_with fail
                refine ⟨N6.out.1, ?_⟩
                refine held_one 11 (by kernel_rfl) ?_
                simp only [pick, List.getD_cons_zero, List.getD_cons_succ]
                go_wp2_with fail
                refine ⟨N6.out.1, ?_⟩
                refine wpAnyH_done (by kernel_rfl) ?_ _
                go_wp2_with fail
                exact ⟨⟨j + 1, _, HJ.out.1, by first | rw [HJ.out.2] | rw [Int.natCast_succ], N6.out.2, HIN.out, N6.out.1.old⟩, by first | (rw [HJ.out.2]; exact mSucc HJ.out.1) | (rw [← Int.natCast_succ]; exact mSucc HJ.out.1)⟩
        · obtain rfl : j = lenO (X i) := by omega
          have hjt : ((lenO (X i) : Int) < (y.s.n : Int)) = False := by rw [hlen]; simp
          have hyo : ∃ yo yn yc, c3 = c3 ∧ y.s.a = yo ∧ y.s.n = yn ∧ y.s.c = yc := ⟨_, _, _, rfl, rfl, rfl, rfl⟩
          clear hyo
          have G2 := Lib.hid (And.intro hown (And.intro (hdq.next (HH.out.1.ok i HI.out)) hb))
          generalize y.s.n = yn at *
          generalize y.s.a = ya at *
          generalize y.s.c = yc at *
          generalize lenO (X i) = ln at *
          generalize out.length = m at *
          clear hown hdq hb hyc hyr hlen hll hsl hn0
          go_wp2_with fail
          exact ⟨⟨i + 1, out, HI.out, by first | rw [hw3] | rw [Int.natCast_succ], G2.out⟩, by first | (rw [hw3]; exact mSucc HI.out) | (rw [← Int.natCast_succ]; exact mSucc HI.out)⟩
    · obtain rfl : 16 = i := by omega
      have hil : ((16 : Int) < 16) = False := by simp
      obtain ⟨oa, cc, rfl, -, -⟩ := hown.sl0
      have G := Lib.hid (show RDems w w2 X (.slice oa out.length cc) out from ⟨hown, hdq.dem HH.out.1.ok, hb⟩)
      clear hown hdq hb
      go_wp2_with fail
      go_ret
      exact ⟨_, _, rfl, G.out⟩
end Go.Proofs.Ytfmehahjjgalfaa.Me

