/- RibGone. -/
import Derived.Test.YtadoflcomienoaaGreatKas
import Derived.Test.YtadoflcomienoaaGreatKat
import Derived.Test.YtadoflcomienoaaGreatKao
namespace Go.Proofs.YtadoflcomienoaaGreat
open Go.RowKit

def NlB (q : Nat) (n : Nl) (W : World) : Prop := W.heap[q]? = some (.cells #[.int .i64 n.id, .int .u32 (n.a : Int), .int .i64 n.ln] 60)
theorem NlB.cells {q : Nat} {n : Nl} {W : World} (h : NlB q n W) : W.cell? ⟨q, 0, none⟩ = some (.int .i64 n.id) ∧ W.cell? ⟨q, 1, none⟩ = some (.int .u32 (n.a : Int)) ∧ W.cell? ⟨q, 2, none⟩ = some (.int .i64 n.ln) := ⟨cell_of h rfl, cell_of h rfl, cell_of h rfl⟩
theorem slone {W : World} {q : Nat} {n : Nl} (hn : NlOk W n) (h : NlB q n W) : SlOk RNl NlOk W ⟨some ⟨q, 0, none⟩, 1, 1, [n]⟩ :=
  ⟨Rep.sl_one (R := RNl) (y := n) h, (fun h => by cases h), Nat.le_refl _, by show 1 ≤ maxLen; unfold maxLen; omega, fun z hz => by
    rw [List.mem_singleton] at hz
    subst hz
    exact hn⟩
theorem may_one {r : Int} {n : Nl} {a b : At} {c : Bool} (h : mayR r ⟨[], [n], a, c⟩ = true) : mayR r ⟨[n], [], b, c⟩ = true := by
  unfold mayR oddR at h ⊢
  simp only [Bool.not_not, Bool.and_eq_true, List.all_nil, List.all_cons, List.length_nil, decide_true, Bool.true_or] at h ⊢
  exact ⟨h.1, ⟨⟨h.2.1.2.1, trivial⟩, trivial⟩, trivial⟩
structure GoneS14 (w : World) (q0 q1 q3 : Nat) (n : Nl) (a : AtV) (x : UpV) (W : World) : Prop where
  b : Below w.heap.size w W
  n : NlB q0 n W
  a : BxA q1 a W
  u : BxU q3 x W
  ok : UpOk W x
theorem GoneS14.keep {w : World} {q0 q1 q3 : Nat} {n : Nl} {a : AtV} {x : UpV} {W W' : World} (h : GoneS14 w q0 q1 q3 n a x W) (hb : Below W.heap.size W W') : GoneS14 w q0 q1 q3 n a x W' :=
  ⟨bcall h.b (Nat.le_refl _) hb, (hb.block _ (lt_of_blk h.n)).trans h.n, h.a.keep hb, h.u.keep hb, h.ok.keep hb⟩
set_option maxRecDepth 100000 in
set_option maxHeartbeats 16000000 in
theorem gone14_law {w : World} {n : Nl} {a : AtV} {r : Int} (hr : I64 r) (hn : NlOk w n) (ha : AtOk w a) : Calls Tryz.prog 9 #[.int .i64 r, .agg #[.int .i64 n.id, .int .u32 (n.a : Int), .int .i64 n.ln], .agg #[.int .i64 a.o, .slice a.p.a a.p.n a.p.c, .int .u32 a.nx, .int .i64 a.md, .int .i64 a.pf, .slice a.c.a a.c.n a.c.c]] w fun e w' => e = .returned (.bool true) ∧ Below w.heap.size w w' := by
  have h1 := (Below.refl w.heap.size w).alloc (Nat.le_refl _) (.cells #[.int .i64 n.id, .int .u32 (n.a : Int), .int .i64 n.ln] 60)
  have h2 := h1.alloc (by simp) (.cells #[.int .i64 a.o, .slice a.p.a a.p.n a.p.c, .int .u32 a.nx, .int .i64 a.md, .int .i64 a.pf, .slice a.c.a a.c.n a.c.c] 40)
  have h3 := h2.alloc (by simp <;> omega) (.cells #[.int .i64 n.id, .int .u32 (n.a : Int), .int .i64 n.ln] 60)
  have hal2 := (Below.refl (w.alloc (.cells #[.int .i64 n.id, .int .u32 (n.a : Int), .int .i64 n.ln] 60)).heap.size (w.alloc (.cells #[.int .i64 n.id, .int .u32 (n.a : Int), .int .i64 n.ln] 60))).alloc (Nat.le_refl _) (.cells #[.int .i64 a.o, .slice a.p.a a.p.n a.p.c, .int .u32 a.nx, .int .i64 a.md, .int .i64 a.pf, .slice a.c.a a.c.n a.c.c] 40)
  have hnb : NlB w.heap.size n ((w.alloc (.cells #[.int .i64 n.id, .int .u32 (n.a : Int), .int .i64 n.ln] 60)).alloc (.cells #[.int .i64 a.o, .slice a.p.a a.p.n a.p.c, .int .u32 a.nx, .int .i64 a.md, .int .i64 a.pf, .slice a.c.a a.c.n a.c.c] 40)) := (hal2.block _ (by simp)).trans (hnew _ _)
  have hal3 := (Below.refl ((w.alloc (.cells #[.int .i64 n.id, .int .u32 (n.a : Int), .int .i64 n.ln] 60)).alloc (.cells #[.int .i64 a.o, .slice a.p.a a.p.n a.p.c, .int .u32 a.nx, .int .i64 a.md, .int .i64 a.pf, .slice a.c.a a.c.n a.c.c] 40)).heap.size ((w.alloc (.cells #[.int .i64 n.id, .int .u32 (n.a : Int), .int .i64 n.ln] 60)).alloc (.cells #[.int .i64 a.o, .slice a.p.a a.p.n a.p.c, .int .u32 a.nx, .int .i64 a.md, .int .i64 a.pf, .slice a.c.a a.c.n a.c.c] 40))).alloc (Nat.le_refl _) (.cells #[.int .i64 n.id, .int .u32 (n.a : Int), .int .i64 n.ln] 60)
  have hab : BxA (w.heap.size + 1) a (((w.alloc (.cells #[.int .i64 n.id, .int .u32 (n.a : Int), .int .i64 n.ln] 60)).alloc (.cells #[.int .i64 a.o, .slice a.p.a a.p.n a.p.c, .int .u32 a.nx, .int .i64 a.md, .int .i64 a.pf, .slice a.c.a a.c.n a.c.c] 40)).alloc (.cells #[.int .i64 n.id, .int .u32 (n.a : Int), .int .i64 n.ln] 60)) := (hal3.block _ (by simp)).trans (hnewAt (by simp))
  have hnb3 := (hal3.block _ (by simp <;> omega)).trans hnb
  have hs3 : NlB (w.heap.size + 1 + 1) n (((w.alloc (.cells #[.int .i64 n.id, .int .u32 (n.a : Int), .int .i64 n.ln] 60)).alloc (.cells #[.int .i64 a.o, .slice a.p.a a.p.n a.p.c, .int .u32 a.nx, .int .i64 a.md, .int .i64 a.pf, .slice a.c.a a.c.n a.c.c] 40)).alloc (.cells #[.int .i64 n.id, .int .u32 (n.a : Int), .int .i64 n.ln] 60)) := hnewAt (by simp)
  have H0 := Lib.hid (And.intro hn (And.intro ha (And.intro hr (And.intro h3 (And.intro hnb3 (And.intro hab hs3))))))
  obtain ⟨c0, c1, c2⟩ := hnb.cells
  obtain ⟨d0, d1, d2, d3, d4, d5⟩ := hab.cells
  clear h1 h2 h3 hal2 hal3 hnb hnb3 hab hs3 hn ha hr
  go_enter Tryz.func9, Tryz.ntmps9
  generalize hR12 : Code.region 12 _ _ = C12
  have HC12 := Lib.hid (show C12 = Code.region 12 opsG.toArray true from hR12.symm.trans (by kernel_rfl))
  clear hR12
  go_wp2_with (with_reducible refine halt_store 42 (x := .tmp 7) rfl ?_)
  refine Halted.go ?_
  have hal := (Below.refl (((w.alloc (.cells #[.int .i64 n.id, .int .u32 (n.a : Int), .int .i64 n.ln] 60)).alloc (.cells #[.int .i64 a.o, .slice a.p.a a.p.n a.p.c, .int .u32 a.nx, .int .i64 a.md, .int .i64 a.pf, .slice a.c.a a.c.n a.c.c] 40)).alloc (.cells #[.int .i64 n.id, .int .u32 (n.a : Int), .int .i64 n.ln] 60)).heap.size (((w.alloc (.cells #[.int .i64 n.id, .int .u32 (n.a : Int), .int .i64 n.ln] 60)).alloc (.cells #[.int .i64 a.o, .slice a.p.a a.p.n a.p.c, .int .u32 a.nx, .int .i64 a.md, .int .i64 a.pf, .slice a.c.a a.c.n a.c.c] 40)).alloc (.cells #[.int .i64 n.id, .int .u32 (n.a : Int), .int .i64 n.ln] 60))).alloc (Nat.le_refl _) (.cells #[.slice none 0 0, .slice none 0 0, .int .i64 0, .slice none 0 0, .int .u32 0, .int .i64 0, .int .i64 0, .slice none 0 0, .bool false] 42)
  refine store_whole rfl 42 _ _ rfl (w.heap.size + 1 + 1 + 1) #[.slice none 0 0, .slice (some ⟨(w.heap.size + 1 + 1), 0, none⟩) 1 1, .int .i64 a.o, .slice a.p.a a.p.n a.p.c, .int .u32 a.nx, .int .i64 a.md, .int .i64 a.pf, .slice a.c.a a.c.n a.c.c, .bool false] rfl rfl (hnewAt (by simp)) rfl (by kernel_rfl) (by simp [Value.oneCell']) ?_
  intro W3 hwz hsz
  have hzb : Below (((w.alloc (.cells #[.int .i64 n.id, .int .u32 (n.a : Int), .int .i64 n.ln] 60)).alloc (.cells #[.int .i64 a.o, .slice a.p.a a.p.n a.p.c, .int .u32 a.nx, .int .i64 a.md, .int .i64 a.pf, .slice a.c.a a.c.n a.c.c] 40)).alloc (.cells #[.int .i64 n.id, .int .u32 (n.a : Int), .int .i64 n.ln] 60)).heap.size (((w.alloc (.cells #[.int .i64 n.id, .int .u32 (n.a : Int), .int .i64 n.ln] 60)).alloc (.cells #[.int .i64 a.o, .slice a.p.a a.p.n a.p.c, .int .u32 a.nx, .int .i64 a.md, .int .i64 a.pf, .slice a.c.a a.c.n a.c.c] 40)).alloc (.cells #[.int .i64 n.id, .int .u32 (n.a : Int), .int .i64 n.ln] 60)) W3 := Below.trans hal (hsz.below (by simp <;> omega))
  clear c0 c1 c2 d0 d1 d2 d3 d4 d5
  have hb3 : Below w.heap.size w W3 := bcall H0.out.2.2.2.1 (Nat.le_refl _) hzb
  have hnb3 : NlB w.heap.size n W3 := (hzb.block _ (by simp <;> omega)).trans H0.out.2.2.2.2.1
  have hab3 : BxA (w.heap.size + 1) a W3 := (hzb.block _ (by simp <;> omega)).trans H0.out.2.2.2.2.2.1
  have hsl3 : SlOk RNl NlOk W3 ⟨some ⟨(w.heap.size + 1 + 1), 0, none⟩, 1, 1, [n]⟩ := slone H0.out.1 ((hzb.block _ (by simp <;> omega)).trans H0.out.2.2.2.2.2.2)
  have G1 := Lib.hid (show GoneS14 w w.heap.size (w.heap.size + 1) (w.heap.size + 1 + 1 + 1) n a (⟨⟨none, 0, 0, []⟩, ⟨some ⟨(w.heap.size + 1 + 1), 0, none⟩, 1, 1, [n]⟩, a, false⟩ : UpV) W3 from ⟨hb3, hnb3, hab3, hwz, ⟨nz_ok _, hsl3, H0.out.2.1.keep hb3⟩⟩)
  clear hal hwz hsz hzb hb3 hnb3 hab3 hsl3
  have HI := Lib.hid (And.intro H0.out.1 (And.intro H0.out.2.1 H0.out.2.2.1))
  clear H0
  have H0 := HI
  clear HI
  generalize (w.heap.size + 1 + 1 + 1) = q3 at *
  generalize (w.heap.size + 1 + 1) = q2 at *
  generalize (w.heap.size + 1) = q1 at *
  have HL := large_any G1.out.ok.a
  have HM := fun W (h : UpOk W (⟨⟨none, 0, 0, []⟩, ⟨some ⟨q2, 0, none⟩, 1, 1, [n]⟩, a, false⟩ : UpV)) => rmay_any h r
  have HH := fun W (h : AtOk W a) => rhas_any h 65000
  unfold UpV.v at HM
  unfold AtV.v at HL HH
  dsimp only at HL HM HH
  obtain ⟨v, hv⟩ : ∃ v, largeA a.at = v := ⟨_, rfl⟩
  rw [hv] at HL
  obtain ⟨m, hm⟩ : ∃ m, mayR r (⟨⟨none, 0, 0, []⟩, ⟨some ⟨q2, 0, none⟩, 1, 1, [n]⟩, a, false⟩ : UpV).up = m := ⟨_, rfl⟩
  rw [hm] at HM
  obtain ⟨l, hl⟩ : ∃ l, hasAS a.at 65000 = l := ⟨_, rfl⟩
  rw [hl] at HH
  have HL := Lib.hid HL
  have HM := Lib.hid HM
  have HH := Lib.hid HH
  have HV := Lib.hid (And.intro hm hl)
  clear hv hm hl
  obtain ⟨a0, a1, a2, a3, a4, a5⟩ := G1.out.a.cells
  go_wp2_with fail
  refine (HL.out).mono ?_
  rintro e W4 ⟨rfl, hb⟩
  have G2 := Lib.hid (G1.out.keep hb)
  clear hb G1
  clear a0 a1 a2 a3 a4 a5
  clear HL
  cases v with
  | true =>
    go_wp2_with fail
    refine (lives14 _).mono ?_
    rintro e W9 ⟨rfl, hb⟩
    have FE := Lib.hid (bcall G2.out.b (Nat.le_refl _) hb)
    clear hb
    go_wp2_with fail
    go_ret
    exact ⟨rfl, FE.out⟩
  | false =>
    obtain ⟨u0, u1, u2, u3, u4, u5, u6, u7, u8⟩ := G2.out.u.cells
    go_wp2_with fail
    refine (HM.out _ G2.out.ok).mono ?_
    rintro e W5 ⟨rfl, hb⟩
    have G3 := Lib.hid (G2.out.keep hb)
    clear hb G2
    clear u0 u1 u2 u3 u4 u5 u6 u7 u8
    clear HM
    cases m with
    | false =>
      go_wp2_with fail
      refine (lives14 _).mono ?_
      rintro e W9 ⟨rfl, hb⟩
      have FE := Lib.hid (bcall G3.out.b (Nat.le_refl _) hb)
      clear hb
      go_wp2_with fail
      go_ret
      exact ⟨rfl, FE.out⟩
    | true =>
      obtain ⟨a0, a1, a2, a3, a4, a5⟩ := G3.out.a.cells
      go_wp2_with fail
      refine (HH.out _ G3.out.ok.a).mono ?_
      rintro e W6 ⟨rfl, hb⟩
      have G4 := Lib.hid (G3.out.keep hb)
      clear hb G3
      clear a0 a1 a2 a3 a4 a5
      clear HH
      cases l with
      | true =>
        go_wp2_with fail
        refine (lives14 _).mono ?_
        rintro e W9 ⟨rfl, hb⟩
        have FE := Lib.hid (bcall G4.out.b (Nat.le_refl _) hb)
        clear hb
        go_wp2_with fail
        go_ret
        exact ⟨rfl, FE.out⟩
      | false =>
        have HN := lvx_new (X := fun _ => False) (P := fun _ => True) W6 W6 (Below.refl _ _) (fun k hk => hk.elim) (fun _ _ _ => trivial) 65000 5 (by decide)
        have HN := Lib.hid HN
        generalize W6 = V at *
        go_wp2_with fail
        refine (HN.out).mono ?_
        rintro e W7 ⟨b, rfl, hst, -⟩
        have F1 := Lib.hid hst
        clear hst HN
        go_wp2_with fail
        refine (lives14 _).mono ?_
        rintro e W8 ⟨rfl, hb⟩
        have F2 := Lib.hid (F1.out.keep hb)
        have GG := Lib.hid (G4.out.keep F2.out.bw)
        clear hb F1
        obtain ⟨n0, n1, n2⟩ := GG.out.n.cells
        go_wp2_with (with_reducible refine halt_store 62 (x := .tmp 10) rfl ?_)
        refine Halted.go ?_
        have hal := (Below.refl W8.heap.size W8).alloc (Nat.le_refl _) (.cells #[.int .i64 0, .int .u32 0, .int .i64 0, .int .i64 0] 62)
        refine store_whole rfl 62 _ _ rfl W8.heap.size #[.int .i64 r, .int .u32 (n.a : Int), .int .i64 n.ln, .int .i64 n.id] rfl rfl (hnew _ _) rfl (by kernel_rfl) (by simp [Value.oneCell']) ?_
        intro W9 hwz hsz
        have hzb : Below W8.heap.size W8 W9 := Below.trans hal (hsz.below (Nat.le_refl _))
        have F3 := Lib.hid (F2.out.addB hzb (Nat.le_refl _) hwz)
        have GH := Lib.hid (G4.out.keep F3.out.bw)
        generalize W8.heap.size = q4 at *
        clear n0 n1 n2
        clear hal hwz hsz hzb F2 GG
        have hr := may_range HV.out.1
        have hnk : n.key.1 < 4294967296 ∧ I64 n.key.2 := ⟨H0.out.1.1, H0.out.1.2.2⟩
        have HA := lvx_apply F3.out (Below.refl _ _) (fun F hF => G4.out.ok.holdL F3.out.bw F fun k hk => (hF k hk).1) HV.out.1 ⟨by show 0 ≤ 3000; omega, by show 1 ≤ 3000; omega⟩ (show ([] : List Rt).length + 1 ≤ 3000000 by decide) (show (0 : Int) ≤ 0 ∧ (0 : Int) + ((1 : Nat) : Int) ≤ 900000000 by decide)
        rw [show (⟨⟨none, 0, 0, []⟩, ⟨some ⟨q2, 0, none⟩, 1, 1, [n]⟩, a, false⟩ : UpV).up = ⟨[], [n], a.at, false⟩ from rfl, apply_newR HV.out.2] at HA
        unfold UpV.v at HA
        dsimp only at HA
        have HA := Lib.hid HA
        have HK := Lib.hid (And.intro hr hnk)
        clear hr hnk
        obtain ⟨u0, u1, u2, u3, u4, u5, u6, u7, u8⟩ := GH.out.u.cells
        go_wp2_with fail
        refine (HA.out).mono ?_
        rintro e W10 ⟨⟨s1a, s1n, s1c, s1l⟩, rfl, hc, hst, -⟩
        dsimp only at hc hst ⊢
        obtain rfl := chg_one (k := n.key) hc (fun x hx => nomatch hx) (fun x hx => by rw [List.mem_singleton] at hx; rw [hx]; rfl) (by rw [show routesR [tellR r a.at n] n.key = [tellR r a.at n] from routes_oneR (tellR r a.at n), routes_nilR]; exact fun e => by cases e)
        have hz1 : s1n = 1 := hst.now.2.sl.len
        subst hz1
        have F4 := Lib.hid hst
        clear u0 u1 u2 u3 u4 u5 u6 u7 u8
        clear hc hst HA F3 GH
        have HG := lvx_get F4.out (r := r) (i := n.id) (k := n.key) HK.out.2 (by have := HK.out.1; unfold I64; omega) H0.out.1.2.1
        rw [show lookR [tellR r a.at n] (r, n.key, n.id) = some (tellR r a.at n) from look_oneR (tellR r a.at n)] at HG
        unfold AtV.v Nl.key at HG
        dsimp only at HG
        have HG := Lib.hid HG
        have kb := F4.out.now.1.2
        have k0 := cell_of (o := 0) kb rfl
        have k1 := cell_of (o := 1) kb rfl
        have k2 := cell_of (o := 2) kb rfl
        have k3 := cell_of (o := 3) kb rfl
        clear kb
        go_wp2_with fail
        refine (HG.out).mono ?_
        rintro e W11 ⟨y, rfl, hy, hst, -⟩
        have F5 := Lib.hid (And.intro hst (show y.at = a.at from hy))
        clear hst hy HG F4 k0 k1 k2 k3
        go_wp2_with (with_reducible refine halt_store 40 (x := .tmp 13) rfl ?_)
        refine Halted.go ?_
        have hal := (Below.refl W11.heap.size W11).alloc (Nat.le_refl _) (.cells #[.int .i64 0, .slice none 0 0, .int .u32 0, .int .i64 0, .int .i64 0, .slice none 0 0] 40)
        refine store_whole rfl 40 _ _ rfl W11.heap.size #[.int .i64 y.o, .slice y.p.a y.p.n y.p.c, .int .u32 y.nx, .int .i64 y.md, .int .i64 y.pf, .slice y.c.a y.c.n y.c.c] rfl rfl (hnew _ _) rfl (by kernel_rfl) (by simp [Value.oneCell']) ?_
        intro W12 hwz hsz
        have hzb : Below W11.heap.size W11 W12 := Below.trans hal (hsz.below (Nat.le_refl _))
        have F6 := Lib.hid (And.intro (F5.out.1.addB hzb (Nat.le_refl _) hwz) F5.out.2)
        have GI := Lib.hid (G4.out.keep F6.out.1.bw)
        generalize W11.heap.size = q6 at *
        clear hal hwz hsz hzb F5
        have hal := (Below.refl W12.heap.size W12).alloc (Nat.le_refl _) (.cells #[.int .i64 n.id, .int .u32 (n.a : Int), .int .i64 n.ln] 60)
        have hup : UpOk (W12.alloc (.cells #[.int .i64 n.id, .int .u32 (n.a : Int), .int .i64 n.ln] 60)) ⟨⟨some ⟨W12.heap.size, 0, none⟩, 1, 1, [n]⟩, ⟨none, 0, 0, []⟩, atZV, false⟩ := ⟨slone H0.out.1 (hnew _ _), nz_ok _, atZ_ok _⟩
        have HB := lvx_apply F6.out.1 hal (x := ⟨⟨some ⟨W12.heap.size, 0, none⟩, 1, 1, [n]⟩, ⟨none, 0, 0, []⟩, atZV, false⟩) (fun F hF => fun w' hs he => ⟨hup.g.same (fun hn a e hl => he _ hl fun hf => by have h1 := (hF _ hf).2; injection e with e; rw [← e] at h1; exact absurd h1 (Nat.lt_irrefl _)) (fun _ _ h => h), nz_ok _, atZ_ok _⟩) (r := r) (may_one HV.out.1) ⟨by show 1 ≤ 3000; omega, by show 0 ≤ 3000; omega⟩ (show [tellR r a.at n].length + 0 ≤ 3000000 by show 1 + 0 ≤ 3000000; omega) (show (0 : Int) ≤ 0 ∧ (0 : Int) + ((0 : Nat) : Int) ≤ 900000000 by decide)
        rw [show UpV.up ⟨⟨some ⟨W12.heap.size, 0, none⟩, 1, 1, [n]⟩, ⟨none, 0, 0, []⟩, atZV, false⟩ = ⟨[n], [], atZ, false⟩ from rfl, apply_goneR] at HB
        unfold UpV.v atZV at HB
        dsimp only at HB
        have HB := Lib.hid HB
        obtain ⟨n0, n1, n2⟩ := GI.out.n.cells
        clear hal hup
        go_wp2_with fail
        refine (HB.out).mono ?_
        rintro e W13 ⟨⟨s2a, s2n, s2c, s2l⟩, rfl, hc, hst, -⟩
        dsimp only at hc hst ⊢
        obtain rfl := chg_one (k := n.key) hc (fun x hx => by rw [List.mem_singleton] at hx; rw [hx]; rfl) (fun x hx => nomatch hx) (by rw [show routesR [tellR r a.at n] n.key = [tellR r a.at n] from routes_oneR (tellR r a.at n), routes_nilR]; exact fun e => by cases e)
        have hz2 : s2n = 1 := hst.now.2.sl.len
        subst hz2
        have F7 := Lib.hid (And.intro hst F6.out.2)
        clear n0 n1 n2
        clear hc hst HB F6 GI
        have HG := lvx_get F7.out.1 (r := r) (i := n.id) (k := n.key) HK.out.2 (by have := HK.out.1; unfold I64; omega) H0.out.1.2.1
        rw [show lookR [] (r, n.key, n.id) = none from rfl] at HG
        unfold AtV.v Nl.key at HG
        dsimp only at HG
        have HG := Lib.hid HG
        have kb := F7.out.1.now.1.1.1.1.2
        have k0 := cell_of (o := 0) kb rfl
        have k1 := cell_of (o := 1) kb rfl
        have k2 := cell_of (o := 2) kb rfl
        have k3 := cell_of (o := 3) kb rfl
        clear kb
        go_wp2_with fail
        refine (HG.out).mono ?_
        rintro e W14 ⟨y2, rfl, -, hst, -⟩
        have F8 := Lib.hid (And.intro hst F7.out.2)
        clear hst HG F7 k0 k1 k2 k3
        go_wp2_with (with_reducible refine halt_store 40 (x := .tmp 17) rfl ?_)
        refine Halted.go ?_
        have hal := (Below.refl W14.heap.size W14).alloc (Nat.le_refl _) (.cells #[.int .i64 0, .slice none 0 0, .int .u32 0, .int .i64 0, .int .i64 0, .slice none 0 0] 40)
        refine store_whole rfl 40 _ _ rfl W14.heap.size #[.int .i64 y2.o, .slice y2.p.a y2.p.n y2.p.c, .int .u32 y2.nx, .int .i64 y2.md, .int .i64 y2.pf, .slice y2.c.a y2.c.n y2.c.c] rfl rfl (hnew _ _) rfl (by kernel_rfl) (by simp [Value.oneCell']) ?_
        intro W15 hwz hsz
        have hzb : Below W14.heap.size W14 W15 := Below.trans hal (hsz.below (Nat.le_refl _))
        have F9 := Lib.hid (And.intro (F8.out.1.keep hzb) F8.out.2)
        clear hal hwz hsz hzb F8
        go_wp2_with fail
        rw [HC12.out]
        refine region_forced (n := 42) (by kernel_rfl) opsG_len ?_
        have F10 := Lib.hid (And.intro (F9.out.1.keep ((Below.refl _ _).drew)) F9.out.2)
        generalize W15.drew = Z at *
        clear F9
        have GJ := Lib.hid (G4.out.keep F10.out.1.bw)
        refine any_forced sG0 (g := 30) rfl frG0 ?_
        rw [pickG0]
        rw [pick_cons]
        conv in (List.getD _ _ _) => whnf
        with_reducible refine wpList_want (by kernel_rfl) (fun K hK => ?_)
        have HK := Lib.hid hK
        clear hK
        go_wp2_with fail
        refine HK.out _ _ ?_
        clear HK K
        rw [pick_cons]
        conv in (List.getD _ _ _) => whnf
        with_reducible refine wpList_want (by kernel_rfl) (fun K hK => ?_)
        have HK := Lib.hid hK
        clear hK
        go_wp2_with fail
        refine HK.out _ _ ?_
        clear HK K
        rw [pick_cons]
        conv in (List.getD _ _ _) => whnf
        with_reducible refine wpList_want (by kernel_rfl) (fun K hK => ?_)
        have HK := Lib.hid hK
        clear hK
        go_wp2_with fail
        refine HK.out _ _ ?_
        clear HK K
        rw [pick_cons]
        conv in (List.getD _ _ _) => whnf
        with_reducible refine wpList_want (by kernel_rfl) (fun K hK => ?_)
        have HK := Lib.hid hK
        clear hK
        go_wp2_with fail
        refine HK.out _ _ ?_
        clear HK K
        rw [pick_cons]
        conv in (List.getD _ _ _) => whnf
        with_reducible refine wpList_want (by kernel_rfl) (fun K hK => ?_)
        have HK := Lib.hid hK
        clear hK
        go_wp2_with fail
        refine HK.out _ _ ?_
        clear HK K
        rw [pick_cons]
        conv in (List.getD _ _ _) => whnf
        with_reducible refine wpList_want (by kernel_rfl) (fun K hK => ?_)
        have HK := Lib.hid hK
        clear hK
        go_wp2_with fail
        refine HK.out _ _ ?_
        clear HK K
        rw [pick_cons]
        conv in (List.getD _ _ _) => whnf
        with_reducible refine wpList_want (by kernel_rfl) (fun K hK => ?_)
        have HK := Lib.hid hK
        clear hK
        go_wp2_with fail
        refine HK.out _ _ ?_
        clear HK K
        rw [pick_cons]
        conv in (List.getD _ _ _) => whnf
        with_reducible refine wpList_want (by kernel_rfl) (fun K hK => ?_)
        have HK := Lib.hid hK
        clear hK
        go_wp2_with fail
        refine HK.out _ _ ?_
        clear HK K
        rw [pick_cons]
        conv in (List.getD _ _ _) => whnf
        with_reducible refine wpList_want (by kernel_rfl) (fun K hK => ?_)
        have HK := Lib.hid hK
        clear hK
        go_wp2_with fail
        refine HK.out _ _ ?_
        clear HK K
        rw [pick_cons]
        conv in (List.getD _ _ _) => whnf
        with_reducible refine wpList_want (by kernel_rfl) (fun K hK => ?_)
        have HK := Lib.hid hK
        clear hK
        go_wp2_with fail
        refine HK.out _ _ ?_
        clear HK K
        rw [pick_cons]
        conv in (List.getD _ _ _) => whnf
        with_reducible refine wpList_want (by kernel_rfl) (fun K hK => ?_)
        have HK := Lib.hid hK
        clear hK
        go_wp2_with fail
        refine HK.out _ _ ?_
        clear HK K
        rw [pick_cons]
        conv in (List.getD _ _ _) => whnf
        with_reducible refine wpList_want (by kernel_rfl) (fun K hK => ?_)
        have HK := Lib.hid hK
        clear hK
        go_wp2_with fail
        refine HK.out _ _ ?_
        clear HK K
        rw [pick_nil]
        refine wpList_nil ?_
        simp only [Exit.then]
        refine any_seg (fun W => W = Z) sG1 (g := 25) rfl frG1 rfl ?_
        rw [pickG1]
        obtain ⟨b0, o0, ea, -, hat⟩ := F10.out.1.now.1.1.1.1.2.sl.at (i := 0) (show 0 < 1 by decide)
        dsimp only at ea hat
        subst ea
        have e0 := hat 0 (by decide)
        have e1 := hat 1 (by decide)
        simp only [RPk, Nat.add_zero, List.getElem?_cons_zero, List.getElem?_cons_succ, List.getD_cons_zero] at e0 e1
        clear hat
        obtain ⟨n0, n1, n2⟩ := GJ.out.n.cells
        rw [pick_cons]
        conv in (List.getD _ _ _) => whnf
        with_reducible refine wpQuiet_want (by kernel_rfl) (fun K hK => ?_)
        go_simp
        with_reducible refine hK _ ?_
        clear hK K
        rw [pick_cons]
        conv in (List.getD _ _ _) => whnf
        with_reducible refine wpQuiet_want (by kernel_rfl) (fun K hK => ?_)
        go_simp
        with_reducible refine hK _ ?_
        clear hK K
        rw [pick_cons]
        conv in (List.getD _ _ _) => whnf
        with_reducible refine wpQuiet_want (by kernel_rfl) (fun K hK => ?_)
        go_simp
        with_reducible refine hK _ ?_
        clear hK K
        rw [pick_cons]
        conv in (List.getD _ _ _) => whnf
        with_reducible refine wpQuiet_want (by kernel_rfl) (fun K hK => ?_)
        go_simp
        with_reducible refine hK _ ?_
        clear hK K
        rw [pick_cons]
        conv in (List.getD _ _ _) => whnf
        with_reducible refine wpQuiet_want (by kernel_rfl) (fun K hK => ?_)
        go_simp
        with_reducible refine hK _ ?_
        clear hK K
        rw [pick_nil]
        refine wpQuiet_nil ?_
        intro W9 hW9
        rw [hW9]
        clear hW9 W9
        clear e0 e1
        clear n0 n1 n2
        refine any_forced sG2 (g := 19) rfl frG2 ?_
        rw [pickG2]
        rw [pick_cons]
        conv in (List.getD _ _ _) => whnf
        with_reducible refine wpList_want (by kernel_rfl) (fun K hK => ?_)
        have HK := Lib.hid hK
        clear hK
        go_wp2_with fail
        refine HK.out _ _ ?_
        clear HK K
        rw [pick_cons]
        conv in (List.getD _ _ _) => whnf
        with_reducible refine wpList_want (by kernel_rfl) (fun K hK => ?_)
        have HK := Lib.hid hK
        clear hK
        go_wp2_with fail
        refine HK.out _ _ ?_
        clear HK K
        rw [pick_cons]
        conv in (List.getD _ _ _) => whnf
        with_reducible refine wpList_want (by kernel_rfl) (fun K hK => ?_)
        have HK := Lib.hid hK
        clear hK
        go_wp2_with fail
        refine HK.out _ _ ?_
        clear HK K
        rw [pick_cons]
        conv in (List.getD _ _ _) => whnf
        with_reducible refine wpList_want (by kernel_rfl) (fun K hK => ?_)
        have HK := Lib.hid hK
        clear hK
        go_wp2_with fail
        refine HK.out _ _ ?_
        clear HK K
        rw [pick_cons]
        conv in (List.getD _ _ _) => whnf
        with_reducible refine wpList_want (by kernel_rfl) (fun K hK => ?_)
        have HK := Lib.hid hK
        clear hK
        go_wp2_with fail
        refine HK.out _ _ ?_
        clear HK K
        rw [pick_cons]
        conv in (List.getD _ _ _) => whnf
        with_reducible refine wpList_want (by kernel_rfl) (fun K hK => ?_)
        have HK := Lib.hid hK
        clear hK
        go_wp2_with fail
        refine HK.out _ _ ?_
        clear HK K
        rw [pick_nil]
        refine wpList_nil ?_
        simp only [Exit.then]
        refine any_seg (fun W => W = Z) sG3 (g := 17) rfl frG3 rfl ?_
        rw [pickG3]
        obtain ⟨a0, a1, a2, a3, a4, a5⟩ := GJ.out.a.cells
        have yb := F10.out.1.now.1.1.2
        have y0 := cell_of (o := 0) yb rfl
        have y1 := cell_of (o := 1) yb rfl
        have y2' := cell_of (o := 2) yb rfl
        have y3 := cell_of (o := 3) yb rfl
        have y4 := cell_of (o := 4) yb rfl
        have y5 := cell_of (o := 5) yb rfl
        clear yb
        rw [pick_cons]
        conv in (List.getD _ _ _) => whnf
        with_reducible refine wpQuiet_want (by kernel_rfl) (fun K hK => ?_)
        go_simp
        with_reducible refine hK _ ?_
        clear hK K
        rw [pick_cons]
        conv in (List.getD _ _ _) => whnf
        with_reducible refine wpQuiet_want (by kernel_rfl) (fun K hK => ?_)
        go_simp
        with_reducible refine hK _ ?_
        clear hK K
        rw [pick_nil]
        refine wpQuiet_nil ?_
        intro W9 hW9
        rw [hW9]
        clear hW9 W9
        clear a0 a1 a2 a3 a4 a5
        clear y0 y1 y2' y3 y4 y5
        have HS := rasame_any F10.out.1.now.1.1.1.2 GJ.out.ok.a
        rw [F10.out.2, decide_eq_true rfl] at HS
        unfold AtV.v at HS
        dsimp only at HS
        have HS := Lib.hid HS
        refine any_forced sG4 (g := 0) rfl frG4 ?_
        rw [pickG4]
        rw [pick_cons]
        conv in (List.getD _ _ _) => whnf
        with_reducible refine wpList_want (by kernel_rfl) (fun K hK => ?_)
        have HK := Lib.hid hK
        clear hK
        go_wp2_with fail
        refine (HS.out).mono ?_
        rintro e Z2 ⟨rfl, hb⟩
        have F11 := Lib.hid (F10.out.1.keep hb)
        clear hb HS F10
        go_wp2_with fail
        refine HK.out _ _ ?_
        clear HK K
        rw [pick_cons]
        conv in (List.getD _ _ _) => whnf
        with_reducible refine wpList_want (by kernel_rfl) (fun K hK => ?_)
        have HK := Lib.hid hK
        clear hK
        go_wp2_with fail
        refine HK.out _ _ ?_
        clear HK K
        rw [pick_cons]
        conv in (List.getD _ _ _) => whnf
        with_reducible refine wpList_want (by kernel_rfl) (fun K hK => ?_)
        have HK := Lib.hid hK
        clear hK
        go_wp2_with fail
        refine HK.out _ _ ?_
        clear HK K
        rw [pick_cons]
        conv in (List.getD _ _ _) => whnf
        with_reducible refine wpList_want (by kernel_rfl) (fun K hK => ?_)
        have HK := Lib.hid hK
        clear hK
        go_wp2_with fail
        refine HK.out _ _ ?_
        clear HK K
        rw [pick_cons]
        conv in (List.getD _ _ _) => whnf
        with_reducible refine wpList_want (by kernel_rfl) (fun K hK => ?_)
        have HK := Lib.hid hK
        clear hK
        go_wp2_with fail
        refine HK.out _ _ ?_
        clear HK K
        rw [pick_cons]
        conv in (List.getD _ _ _) => whnf
        with_reducible refine wpList_want (by kernel_rfl) (fun K hK => ?_)
        have HK := Lib.hid hK
        clear hK
        go_wp2_with fail
        refine HK.out _ _ ?_
        clear HK K
        rw [pick_cons]
        conv in (List.getD _ _ _) => whnf
        with_reducible refine wpList_want (by kernel_rfl) (fun K hK => ?_)
        have HK := Lib.hid hK
        clear hK
        go_wp2_with fail
        refine HK.out _ _ ?_
        clear HK K
        rw [pick_cons]
        conv in (List.getD _ _ _) => whnf
        with_reducible refine wpList_want (by kernel_rfl) (fun K hK => ?_)
        have HK := Lib.hid hK
        clear hK
        go_wp2_with fail
        refine HK.out _ _ ?_
        clear HK K
        rw [pick_cons]
        conv in (List.getD _ _ _) => whnf
        with_reducible refine wpList_want (by kernel_rfl) (fun K hK => ?_)
        have HK := Lib.hid hK
        clear hK
        go_wp2_with fail
        refine HK.out _ _ ?_
        clear HK K
        rw [pick_cons]
        conv in (List.getD _ _ _) => whnf
        with_reducible refine wpList_want (by kernel_rfl) (fun K hK => ?_)
        have HK := Lib.hid hK
        clear hK
        go_wp2_with fail
        refine HK.out _ _ ?_
        clear HK K
        rw [pick_cons]
        conv in (List.getD _ _ _) => whnf
        with_reducible refine wpList_want (by kernel_rfl) (fun K hK => ?_)
        have HK := Lib.hid hK
        clear hK
        go_wp2_with fail
        refine HK.out _ _ ?_
        clear HK K
        rw [pick_cons]
        conv in (List.getD _ _ _) => whnf
        with_reducible refine wpList_want (by kernel_rfl) (fun K hK => ?_)
        have HK := Lib.hid hK
        clear hK
        go_wp2_with fail
        refine HK.out _ _ ?_
        clear HK K
        rw [pick_cons]
        conv in (List.getD _ _ _) => whnf
        with_reducible refine wpList_want (by kernel_rfl) (fun K hK => ?_)
        have HK := Lib.hid hK
        clear hK
        go_wp2_with fail
        refine HK.out _ _ ?_
        clear HK K
        rw [pick_cons]
        conv in (List.getD _ _ _) => whnf
        with_reducible refine wpList_want (by kernel_rfl) (fun K hK => ?_)
        have HK := Lib.hid hK
        clear hK
        go_wp2_with fail
        refine ((lv_small F11.out.lvs).1).mono ?_
        rintro e W9 ⟨rfl, hw⟩
        have hw := hw.symm
        subst hw
        go_wp2_with fail
        refine HK.out _ _ ?_
        clear HK K
        rw [pick_cons]
        conv in (List.getD _ _ _) => whnf
        with_reducible refine wpList_want (by kernel_rfl) (fun K hK => ?_)
        have HK := Lib.hid hK
        clear hK
        go_wp2_with fail
        refine HK.out _ _ ?_
        clear HK K
        rw [pick_cons]
        conv in (List.getD _ _ _) => whnf
        with_reducible refine wpList_want (by kernel_rfl) (fun K hK => ?_)
        have HK := Lib.hid hK
        clear hK
        go_wp2_with fail
        refine HK.out _ _ ?_
        clear HK K
        rw [pick_cons]
        conv in (List.getD _ _ _) => whnf
        with_reducible refine wpList_want (by kernel_rfl) (fun K hK => ?_)
        have HK := Lib.hid hK
        clear hK
        go_wp2_with fail
        refine HK.out _ _ ?_
        clear HK K
        rw [pick_nil]
        refine wpList_nil ?_
        simp only [Exit.then]
        refine any_done frGd ?_
        go_wp2_with fail
        go_ret
        exact ⟨rfl, G4.out.b.trans (F11.out.bw.mono G4.out.b.size)⟩
end Go.Proofs.YtadoflcomienoaaGreat
/- Which lists of prefixes are the same, as the reference of tries tells. -/
namespace Go.Proofs.YtadoflcomienoaaGreat
open Go.RowKit

theorem at_rangeP {W : World} {b o : Nat} {z : PK} (h : RPk.At W b o z) : W.rangeAt b o (#[Value.int .u32 (z.1 : Int), .int .i64 z.2] : Array Value).toList := by
  intro j v hv
  have hj : j < 2 := (List.getElem?_eq_some_iff.1 hv).1
  exact (h j hj).trans hv
theorem pk_ne14 {x y : PK} (h : x ≠ y) : ((x.1 : Int) == (y.1 : Int)) = false ∨ (((x.1 : Int) == (y.1 : Int)) = true ∧ (x.2 == y.2) = false) := by
  by_cases h1 : x.1 = y.1
  · refine .inr ⟨by simp [h1], ?_⟩
    rw [beq_eq_false_iff_ne]
    exact fun e => h (Prod.ext h1 e)
  · left
    rw [beq_eq_false_iff_ne]
    omega
structure TwoP2 (b0 o0 b1 o1 : Nat) (x y : PK) (W : World) : Prop where
  l : RPk.At W b0 o0 x
  r : RPk.At W b1 o1 y
set_option maxRecDepth 100000 in
set_option maxHeartbeats 2000000 in
theorem psame_any {w : World} {oa ob : Option Addr} {n c m d : Nat} {L M : List PK} (h : RPk.Sl w oa n c L) (k : RPk.Sl w ob m d M) : Calls Tryz.prog 37 #[.slice oa n c, .slice ob m d] w fun e w' => e = .returned (.bool (decide (L = M))) ∧ Below w.heap.size w w' := by
  by_cases hnm : n = m
  · subst hnm
    have HL := Lib.hid h.len
    have HM := Lib.hid k.len
    have hmax := h.max
    have F := Lib.hid (And.intro h k)
    obtain ⟨v, hv⟩ : ∃ v, decide (L = M) = v := ⟨_, rfl⟩
    rw [hv]
    have HV := Lib.hid hv
    have e0 : ((n : Int) == (n : Int)) = true := by simp
    clear h k hv
    go_enter Tryz.func37, Tryz.ntmps37
    go_wp2_with fail
    go_loopw [5] (fun iv wr => ∃ i : Nat, i ≤ n ∧ iv = .int .i64 i ∧ (∀ j, j < i → L.getD j default = M.getD j default) ∧ Below w.heap.size w wr) (fun iv _ => n - (intOf iv).toNat)
    case atStart => exact ⟨0, Nat.zero_le _, rfl, fun j hj => absurd hj (Nat.not_lt_zero _), Below.refl _ _⟩
    case round =>
      obtain ⟨i, hi, rfl, hall, hb⟩ := hrel
      obtain ⟨w2, rfl⟩ : ∃ w2 : World, w2 = wr := ⟨_, rfl⟩
      by_cases hlt : i < n
      · have hil : ((i : Int) < (n : Int)) = True := by simp; omega
        have hi0 : ((0 : Int) ≤ (i : Int)) = True := by simp
        have hw3 := wrapS hlt hmax
        obtain ⟨b0, o0, rfl, hbb, hat⟩ := (F.out.1.keep hb).at hlt
        obtain ⟨b1, o1, rfl, hbb1, hat1⟩ := (F.out.2.keep hb).at hlt
        obtain ⟨x, hx⟩ : ∃ x, L.getD i default = x := ⟨_, rfl⟩
        obtain ⟨y, hy⟩ : ∃ y, M.getD i default = y := ⟨_, rfl⟩
        rw [hx] at hat
        rw [hy] at hat1
        have hd := (Below.refl w2.heap.size w2).drew
        have K := Lib.hid (And.intro (show TwoP2 b0 (o0 + i * 2) b1 (o1 + i * 2) x y w2.drew from ⟨hat, hat1⟩) (And.intro (bcall hb (Nat.le_refl _) hd) (And.intro hall (And.intro hx hy))))
        clear hb hat hat1 hall hx hy hd hbb hbb1
        by_cases hxy : x = y
        · subst hxy
          go_wp2_with fail
          refine wp_region_heldP (TwoP2 b0 (o0 + i * 2) b1 (o1 + i * 2) x x) (by kernel_rfl) ?_
          generalize w2.drew = V at *
          refine held_reads [0, 1, 2, 3, 4, 5, 6, 7, 8] (g := 0) rfl (by kernel_rfl) K.out.1 (fun _ _ d _ _ h => by cases d <;> exact h) ?_
          simp only [pick, List.getD_cons_zero, List.getD_cons_succ]
          ((with_reducible refine wpRead_step (fun K hK => ?_)); go_simp; first | ((with_reducible refine hK _ ?_); clear hK K) | (apply Exists.intro; (with_reducible refine ⟨fun w' hw' => ?_, hK _ ?_⟩); (first | exact rfl | exact ⟨rfl, rfl⟩); clear hK K))
          ((with_reducible refine wpRead_step (fun K hK => ?_)); go_simp; first | ((with_reducible refine hK _ ?_); clear hK K) | (apply Exists.intro; (with_reducible refine ⟨fun w' hw' => ?_, hK _ ?_⟩); (first | exact rfl | exact ⟨rfl, rfl⟩); clear hK K))
          ((with_reducible refine wpRead_step (fun K hK => ?_)); go_simp; first | ((with_reducible refine hK _ ?_); clear hK K) | (apply Exists.intro; (with_reducible refine ⟨fun w' hw' => ?_, hK _ ?_⟩); (first | exact rfl | exact ⟨rfl, rfl⟩); clear hK K))
          with_reducible refine wpRead_yes ?_ ?_
          rotate_left
          rfl
          intro K hK
          refine read_load 58 _ rfl b0 (o0 + i * 2) #[.int .u32 (x.1 : Int), .int .i64 x.2] rfl (fun w' hw' => at_rangeP hw'.l) Tryz.underlying58 rfl (by kernel_rfl) (hK _ ?_)
          clear hK K
          ((with_reducible refine wpRead_step (fun K hK => ?_)); go_simp; first | ((with_reducible refine hK _ ?_); clear hK K) | (apply Exists.intro; (with_reducible refine ⟨fun w' hw' => ?_, hK _ ?_⟩); (first | exact rfl | exact ⟨rfl, rfl⟩); clear hK K))
          ((with_reducible refine wpRead_step (fun K hK => ?_)); go_simp; first | ((with_reducible refine hK _ ?_); clear hK K) | (apply Exists.intro; (with_reducible refine ⟨fun w' hw' => ?_, hK _ ?_⟩); (first | exact rfl | exact ⟨rfl, rfl⟩); clear hK K))
          ((with_reducible refine wpRead_step (fun K hK => ?_)); go_simp; first | ((with_reducible refine hK _ ?_); clear hK K) | (apply Exists.intro; (with_reducible refine ⟨fun w' hw' => ?_, hK _ ?_⟩); (first | exact rfl | exact ⟨rfl, rfl⟩); clear hK K))
          with_reducible refine wpRead_yes ?_ ?_
          rotate_left
          rfl
          intro K hK
          refine read_load 58 _ rfl b1 (o1 + i * 2) #[.int .u32 (x.1 : Int), .int .i64 x.2] rfl (fun w' hw' => at_rangeP hw'.r) Tryz.underlying58 rfl (by kernel_rfl) (hK _ ?_)
          clear hK K
          ((with_reducible refine wpRead_step (fun K hK => ?_)); go_simp; first | ((with_reducible refine hK _ ?_); clear hK K) | (apply Exists.intro; (with_reducible refine ⟨fun w' hw' => ?_, hK _ ?_⟩); (first | exact rfl | exact ⟨rfl, rfl⟩); clear hK K))
          with_reducible refine wpRead_nil ?_
          refine wpAnyH_done (by kernel_rfl) ?_ _
          go_wp2_with fail
          exact ⟨⟨i + 1, hlt, by first | rw [hw3] | rw [Int.natCast_succ], fun j hj => (Nat.lt_succ_iff_lt_or_eq.1 hj).elim (K.out.2.2.1 j) (fun e => by rw [e, K.out.2.2.2.1, K.out.2.2.2.2]), K.out.2.1⟩, by first | (rw [hw3]; exact mSucc hlt) | (rw [← Int.natCast_succ]; exact mSucc hlt)⟩
        · have HXY := Lib.hid hxy
          rcases pk_ne14 hxy with e1 | ⟨e1, e2⟩
          all_goals
            clear hxy
            go_wp2_with fail
            refine wp_region_heldP (TwoP2 b0 (o0 + i * 2) b1 (o1 + i * 2) x y) (by kernel_rfl) ?_
            generalize w2.drew = V at *
            refine held_reads [0, 1, 2, 3, 4, 5, 6, 7, 8] (g := 0) rfl (by kernel_rfl) K.out.1 (fun _ _ d _ _ h => by cases d <;> exact h) ?_
            simp only [pick, List.getD_cons_zero, List.getD_cons_succ]
            ((with_reducible refine wpRead_step (fun K hK => ?_)); go_simp; first | ((with_reducible refine hK _ ?_); clear hK K) | (apply Exists.intro; (with_reducible refine ⟨fun w' hw' => ?_, hK _ ?_⟩); (first | exact rfl | exact ⟨rfl, rfl⟩); clear hK K))
            ((with_reducible refine wpRead_step (fun K hK => ?_)); go_simp; first | ((with_reducible refine hK _ ?_); clear hK K) | (apply Exists.intro; (with_reducible refine ⟨fun w' hw' => ?_, hK _ ?_⟩); (first | exact rfl | exact ⟨rfl, rfl⟩); clear hK K))
            ((with_reducible refine wpRead_step (fun K hK => ?_)); go_simp; first | ((with_reducible refine hK _ ?_); clear hK K) | (apply Exists.intro; (with_reducible refine ⟨fun w' hw' => ?_, hK _ ?_⟩); (first | exact rfl | exact ⟨rfl, rfl⟩); clear hK K))
            with_reducible refine wpRead_yes ?_ ?_
            rotate_left
            rfl
            intro K hK
            refine read_load 58 _ rfl b0 (o0 + i * 2) #[.int .u32 (x.1 : Int), .int .i64 x.2] rfl (fun w' hw' => at_rangeP hw'.l) Tryz.underlying58 rfl (by kernel_rfl) (hK _ ?_)
            clear hK K
            ((with_reducible refine wpRead_step (fun K hK => ?_)); go_simp; first | ((with_reducible refine hK _ ?_); clear hK K) | (apply Exists.intro; (with_reducible refine ⟨fun w' hw' => ?_, hK _ ?_⟩); (first | exact rfl | exact ⟨rfl, rfl⟩); clear hK K))
            ((with_reducible refine wpRead_step (fun K hK => ?_)); go_simp; first | ((with_reducible refine hK _ ?_); clear hK K) | (apply Exists.intro; (with_reducible refine ⟨fun w' hw' => ?_, hK _ ?_⟩); (first | exact rfl | exact ⟨rfl, rfl⟩); clear hK K))
            ((with_reducible refine wpRead_step (fun K hK => ?_)); go_simp; first | ((with_reducible refine hK _ ?_); clear hK K) | (apply Exists.intro; (with_reducible refine ⟨fun w' hw' => ?_, hK _ ?_⟩); (first | exact rfl | exact ⟨rfl, rfl⟩); clear hK K))
            with_reducible refine wpRead_yes ?_ ?_
            rotate_left
            rfl
            intro K hK
            refine read_load 58 _ rfl b1 (o1 + i * 2) #[.int .u32 (y.1 : Int), .int .i64 y.2] rfl (fun w' hw' => at_rangeP hw'.r) Tryz.underlying58 rfl (by kernel_rfl) (hK _ ?_)
            clear hK K
            ((with_reducible refine wpRead_step (fun K hK => ?_)); go_simp; first | ((with_reducible refine hK _ ?_); clear hK K) | (apply Exists.intro; (with_reducible refine ⟨fun w' hw' => ?_, hK _ ?_⟩); (first | exact rfl | exact ⟨rfl, rfl⟩); clear hK K))
            with_reducible refine wpRead_nil ?_
            refine wpAnyH_done (by kernel_rfl) ?_ _
            go_wp2_with fail
            go_ret
            exact ⟨ret_bool (by
              rw [← HV.out]
              refine (decide_eq_false fun h => HXY.out ?_).symm
              rw [← K.out.2.2.2.1, ← K.out.2.2.2.2, h]), K.out.2.1⟩
      · obtain rfl : n = i := by omega
        have hil : ((n : Int) < (n : Int)) = False := by simp
        have HB := Lib.hid (And.intro hb hall)
        clear hb hall
        go_wp2_with fail
        go_ret
        exact ⟨ret_bool (by rw [← HV.out]; exact (decide_eq_true (getD_ext (HL.out.symm.trans HM.out) fun j hj => HB.out.2 j (by rw [HL.out]; exact hj))).symm), HB.out.1⟩
  · have e1 : ((n : Int) == (m : Int)) = false := by simpa using fun e : (n : Int) = m => hnm (by omega)
    have HV := Lib.hid (show decide (L = M) = false from decide_eq_false fun e => hnm (by rw [h.len, k.len, e]))
    generalize decide (L = M) = v at *
    clear h k hnm
    go_enter Tryz.func37, Tryz.ntmps37
    go_wp2_with fail
    go_ret
    exact ⟨ret_bool HV.out.symm, Below.refl _ _⟩
end Go.Proofs.YtadoflcomienoaaGreat
/- RibFlushes. -/
namespace Go.Proofs.YtadoflcomienoaaGreat
open Go.RowKit

set_option maxRecDepth 100000 in
set_option maxHeartbeats 16000000 in
theorem flushes_law {w : World} {x : UpV} {r : Int} (hx : UpOk w x) (hr : I64 r) : Calls Tryz.prog 7 #[.agg #[.slice x.g.a x.g.n x.g.c, .slice x.r.a x.r.n x.r.c, .int .i64 x.a.o, .slice x.a.p.a x.a.p.n x.a.p.c, .int .u32 x.a.nx, .int .i64 x.a.md, .int .i64 x.a.pf, .slice x.a.c.a x.a.c.n x.a.c.c, .bool x.soft], .int .i64 r] w fun e w' => e = .returned (.bool true) ∧ Below w.heap.size w w' := by
  have hal := (Below.refl w.heap.size w).alloc (Nat.le_refl _) (.cells #[.slice x.g.a x.g.n x.g.c, .slice x.r.a x.r.n x.r.c, .int .i64 x.a.o, .slice x.a.p.a x.a.p.n x.a.p.c, .int .u32 x.a.nx, .int .i64 x.a.md, .int .i64 x.a.pf, .slice x.a.c.a x.a.c.n x.a.c.c, .bool x.soft] 42)
  have hbx : BxU w.heap.size x (w.alloc (.cells #[.slice x.g.a x.g.n x.g.c, .slice x.r.a x.r.n x.r.c, .int .i64 x.a.o, .slice x.a.p.a x.a.p.n x.a.p.c, .int .u32 x.a.nx, .int .i64 x.a.md, .int .i64 x.a.pf, .slice x.a.c.a x.a.c.n x.a.c.c, .bool x.soft] 42)) := hnew _ _
  have H0 := Lib.hid (And.intro hx (And.intro hbx hr))
  have HN := Lib.hid (lvx_new (X := (fun k => k = w.heap.size)) (P := fun V => UpOk V x) w _ hal (by rintro k rfl; exact ⟨Nat.le_refl _, lt_of_blk hbx⟩) (hx.holdL hal _ fun k hk => hk.elim (fun e => by rw [e]; exact Nat.le_refl _) fun h => Nat.le_trans hal.size h) 65000 65536 (by decide))
  clear hal hbx hx hr
  go_enter Tryz.func7, Tryz.ntmps7
  go_wp2_with fail
  generalize w.alloc (.cells #[.slice x.g.a x.g.n x.g.c, .slice x.r.a x.r.n x.r.c, .int .i64 x.a.o, .slice x.a.p.a x.a.p.n x.a.p.c, .int .u32 x.a.nx, .int .i64 x.a.md, .int .i64 x.a.pf, .slice x.a.c.a x.a.c.n x.a.c.c, .bool x.soft] 42) = W0 at *
  refine (HN.out).mono ?_
  rintro e W1 ⟨b, rfl, hst, hb⟩
  have F1 := Lib.hid (And.intro hst (H0.out.2.1.keep hb))
  clear hst hb HN
  obtain ⟨c0, c1, c2, c3, c4, c5, c6, c7, c8⟩ := F1.out.2.cells
  go_wp2_with fail
  refine (lives14 _).mono ?_
  rintro e W2 ⟨rfl, hb⟩
  clear c0 c1 c2 c3 c4 c5 c6 c7 c8
  have F2 := Lib.hid (And.intro (F1.out.1.keep hb) (F1.out.2.keep hb))
  have HL := largeU_any F2.out.1.now
  have HM := fun W (h : UpOk W x) => rmay_any h r
  unfold UpV.v at HL HM
  obtain ⟨v, hv⟩ : ∃ v, largeU x.up = v := ⟨_, rfl⟩
  rw [hv] at HL
  have HL := Lib.hid HL
  have HV := Lib.hid hv
  obtain ⟨m, hm⟩ : ∃ m, mayR r x.up = m := ⟨_, rfl⟩
  rw [hm] at HM
  have HM := Lib.hid HM
  have HMV := Lib.hid hm
  clear hb F1 hv hm
  obtain ⟨c0, c1, c2, c3, c4, c5, c6, c7, c8⟩ := F2.out.2.cells
  go_wp2_with fail
  refine (HL.out).mono ?_
  rintro e W3 ⟨rfl, hb⟩
  clear c0 c1 c2 c3 c4 c5 c6 c7 c8
  have F3 := Lib.hid (And.intro (F2.out.1.keep hb) (F2.out.2.keep hb))
  clear hb HL F2
  cases v with
  | true =>
    obtain ⟨c0, c1, c2, c3, c4, c5, c6, c7, c8⟩ := F3.out.2.cells
    go_wp2_with fail
    refine (lives14 _).mono ?_
    rintro e W9 ⟨rfl, hb⟩
    have FE := Lib.hid (bcall F3.out.1.bw (Nat.le_refl _) hb)
    clear hb
    clear c0 c1 c2 c3 c4 c5 c6 c7 c8
    go_wp2_with fail
    go_ret
    exact ⟨rfl, FE.out⟩
  | false =>
    obtain ⟨c0, c1, c2, c3, c4, c5, c6, c7, c8⟩ := F3.out.2.cells
    go_wp2_with fail
    refine (HM.out _ F3.out.1.now).mono ?_
    rintro e W4 ⟨rfl, hb⟩
    clear c0 c1 c2 c3 c4 c5 c6 c7 c8
    have F4 := Lib.hid (And.intro (F3.out.1.keep hb) (F3.out.2.keep hb))
    clear hb HM F3
    cases m with
    | false =>
      obtain ⟨c0, c1, c2, c3, c4, c5, c6, c7, c8⟩ := F4.out.2.cells
      go_wp2_with fail
      refine (lives14 _).mono ?_
      rintro e W9 ⟨rfl, hb⟩
      have FE := Lib.hid (bcall F4.out.1.bw (Nat.le_refl _) hb)
      clear hb
      clear c0 c1 c2 c3 c4 c5 c6 c7 c8
      go_wp2_with fail
      go_ret
      exact ⟨rfl, FE.out⟩
    | true =>
      have hsm := large_small HV.out
      have hrn : x.r.n = x.r.l.length := F4.out.1.now.r.sl.len
      have hgn : x.g.n = x.g.l.length := F4.out.1.now.g.sl.len
      have h1100 : x.g.n ≤ 1100 ∧ x.r.n ≤ 1100 := by
        unfold UpV.up at hsm
        dsimp only at hsm
        omega
      have hr0 := (may_range HMV.out).1
      have HA := lvx_apply F4.out.1 (Below.refl _ _) (fun F hF => H0.out.1.holdL F4.out.1.bw F fun k hk => (hF k hk).1) HMV.out ⟨by omega, by omega⟩ (show ([] : List Rt).length + x.r.n ≤ 3000000 by simp; omega) (show (0 : Int) ≤ 0 ∧ (0 : Int) + (x.r.n : Int) ≤ 900000000 by omega)
      obtain ⟨s1, hs1⟩ : ∃ s, applyR 65000 65536 r x.up ([], 0) = s := ⟨_, rfl⟩
      have hag := again_R (r := r) (u := x.up) hr0 hsm.2 0
      have hl1 : s1.1.length ≤ 1100 := by
        have h1 := apply_len (asn := 65000) (room := 65536) (u := x.up) (s := ([], 0)) ROk.nil hr0
        rw [hs1] at h1
        have h2 := hsm.2
        simp at h1
        omega
      have hf1 : 0 ≤ s1.2 ∧ s1.2 ≤ 1100 := by
        have h1 := apply_ref (asn := 65000) (room := 65536) (r := r) (u := x.up) (s := ([], 0))
        rw [hs1] at h1
        have h2 := hsm.2
        dsimp only at h1
        omega
      dsimp only at hag
      rw [hs1] at HA hag
      have HP := Lib.hid (And.intro hag (And.intro hl1 (And.intro hf1 (And.intro h1100 hr0))))
      unfold UpV.v at HA
      have HA := Lib.hid HA
      clear hsm hrn hgn h1100 hr0 hs1 hag hl1 hf1
      obtain ⟨c0, c1, c2, c3, c4, c5, c6, c7, c8⟩ := F4.out.2.cells
      go_wp2_with fail
      refine (HA.out).mono ?_
      rintro e W5 ⟨⟨a1, n1, k1, l1⟩, rfl, hc1, hst, hX⟩
      dsimp only at hc1 hst ⊢
      clear c0 c1 c2 c3 c4 c5 c6 c7 c8
      have hbx : BxU w.heap.size x W5 := (hX w.heap.size rfl).trans F4.out.2
      have F5 := Lib.hid (And.intro hst (And.intro hbx hc1))
      clear hst hX hc1 HA F4
      obtain ⟨c0, c1, c2, c3, c4, c5, c6, c7, c8⟩ := hbx.cells
      have e0 : W5.frozen? ⟨w.heap.size, 0, none⟩ = false := free_of hbx
      clear hbx
      go_wp2_with fail
      have hbx2 : BxU w.heap.size ⟨⟨none, 0, 0, []⟩, x.r, x.a, x.soft⟩ (W5.setCell ⟨w.heap.size, 0, none⟩ (.slice none 0 0)) := by
        have h1 := setCell_blk F5.out.2.1 0 (.slice none 0 0)
        exact h1
      have hbut := (But.refl W5 [w.heap.size]).setCell (a := ⟨w.heap.size, 0, none⟩) (.inr (by simp)) (.slice none 0 0)
      have hst2 := F5.out.1.poke (q := w.heap.size) rfl hbut
      generalize W5.setCell ⟨w.heap.size, 0, none⟩ (.slice none 0 0) = W6 at *
      clear c0 c1 c2 c3 c4 c5 c6 c7 c8 e0
      have F6 := Lib.hid (And.intro hst2 (And.intro hbx2 F5.out.2.2))
      clear hbx2 hbut hst2 F5
      have HB := lvx_apply (x := ⟨⟨none, 0, 0, []⟩, x.r, x.a, x.soft⟩) F6.out.1 (Below.refl _ _) (fun F hF => UpOk.holdL (x := ⟨⟨none, 0, 0, []⟩, x.r, x.a, x.soft⟩) ⟨nz_ok _, H0.out.1.r, H0.out.1.a⟩ F6.out.1.bw F fun k hk => (hF k hk).1) (r := r) (may_gone HMV.out) ⟨by show 0 ≤ 3000; omega, by have := HP.out.2.2.2.1; show x.r.n ≤ 3000; omega⟩ (by have := HP.out.2.2.2.1; have := HP.out.2.1; show s1.1.length + x.r.n ≤ 3000000; omega) (by have := HP.out.2.2.2.1; have := HP.out.2.2.1; show 0 ≤ s1.2 ∧ s1.2 + (x.r.n : Int) ≤ 900000000; omega)
      rw [show UpV.up ⟨⟨none, 0, 0, []⟩, x.r, x.a, x.soft⟩ = ⟨[], x.up.routes, x.up.a, x.up.soft⟩ from rfl] at HB
      have hag := HP.out.1
      obtain ⟨s2, hs2⟩ : ∃ s, applyR 65000 65536 r ⟨[], x.up.routes, x.up.a, x.up.soft⟩ s1 = s := ⟨_, rfl⟩
      have hl2 : s2.1.length ≤ 2200 := by
        have h1 := apply_len (asn := 65000) (room := 65536) (u := ⟨[], x.up.routes, x.up.a, x.up.soft⟩) (s := s1) F6.out.1.rok HP.out.2.2.2.2
        rw [hs2] at h1
        have h2 := HP.out.2.1
        have h3 := (large_small HV.out).2
        dsimp only at h1
        omega
      rw [show (s1.1, s1.2) = s1 from rfl, hs2] at HB
      rw [hs2] at hag
      have HR := Lib.hid (And.intro hag hl2)
      unfold UpV.v at HB
      dsimp only at HB
      have HB := Lib.hid HB
      clear hs2 hag hl2
      obtain ⟨c0, c1, c2, c3, c4, c5, c6, c7, c8⟩ := F6.out.2.1.cells
      go_wp2_with fail
      refine (HB.out).mono ?_
      rintro e W7 ⟨⟨a2, n2, k2, l2⟩, rfl, hc2, hst, hX⟩
      dsimp only at hc2 hst ⊢
      clear c0 c1 c2 c3 c4 c5 c6 c7 c8
      obtain rfl := chg_same hc2 F6.out.1.rok hst.rok HR.out.1.1
      have F7 := Lib.hid (And.intro hst F6.out.2.2)
      have hz2 : n2 = 0 := hst.now.2.sl.len
      subst hz2
      clear hst hX hc2 HB
      have HF := lvx_flush F7.out.1 (by have := HR.out.2; omega) r
      have hfl : flushR r s2.1 = [] := flush_allR HR.out.1.2.2
      rw [hfl] at HF
      have HF := Lib.hid HF
      clear hfl
      go_wp2_with fail
      refine (HF.out).mono ?_
      rintro e W8 ⟨⟨a3, n3, k3, l3⟩, rfl, hc3, hst, hX⟩
      dsimp only at hc3 hst ⊢
      obtain rfl := chg_back F7.out.2 hc3 F6.out.1.rok F7.out.1.rok HR.out.1.1
      have F8 := Lib.hid hst
      clear hst hX hc3 HF F7 F6
      have HG := lvx_flush F8.out (Nat.zero_le _) r
      rw [show flushR r [] = [] from rfl] at HG
      have HG := Lib.hid HG
      go_wp2_with fail
      refine (HG.out).mono ?_
      rintro e W10 ⟨⟨a4, n4, k4, l4⟩, rfl, hc4, hst, hX⟩
      dsimp only at hc4 hst ⊢
      obtain rfl := chg_same hc4 ROk.nil ROk.nil fun _ => Iff.rfl
      have hz4 : n4 = 0 := hst.now.2.sl.len
      subst hz4
      have F9 := Lib.hid hst
      have HS := psame_any hst.now.1.1.1.2.sl hst.now.1.2.sl
      rw [decide_eq_true rfl] at HS
      have HS := Lib.hid HS
      clear hst hX hc4 HG F8
      go_wp2_with fail
      refine (HS.out).mono ?_
      rintro e W11 ⟨rfl, hb⟩
      have F10 := Lib.hid (F9.out.keep hb)
      clear hb HS F9
      have HZ := Lib.hid (lv_small F10.out.lvs)
      go_wp2_with fail
      refine (HZ.out.1).mono ?_
      rintro e W9 ⟨rfl, hw⟩
      have hw := hw.symm
      subst hw
      go_wp2_with fail
      refine (HZ.out.2.2 r H0.out.2.2).mono ?_
      rintro e W9 ⟨rfl, hw⟩
      have hw := hw.symm
      subst hw
      have hcn : cntR [] r = 0 := rfl
      go_wp2_with fail
      go_ret
      exact ⟨rfl, F10.out.bw⟩
end Go.Proofs.YtadoflcomienoaaGreat
