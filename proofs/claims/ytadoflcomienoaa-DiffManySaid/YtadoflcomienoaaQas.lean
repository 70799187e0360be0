/- lives. -/
import Derived.Test.YtadoflcomienoaaQap
import Derived.Test.YtadoflcomienoaaQar
import Derived.Test.YtadoflcomienoaaQaj
import Derived.Test.YtadoflcomienoaaQam
import Derived.Test.YtadoflcomienoaaQan
import Derived.Test.YtadoflcomienoaaQac
namespace Go.Proofs.Ytadoflcomienoaa
open Go.RowKit

def LA : List Sy := [sayI 167837696 9, sayI 167903232 9]
def LB : List Sy := [sayI 167968768 8, sayI 167903232 9, sayI 168034304 9]
def LB4 : List Sy := [sayI 167968768 8, sayI 167903232 9, sayI 168034304 9, sayI 167968768 8]
theorem okLA : okY true LA = true := by decide +kernel
theorem okLB : okY true LB = true := by decide +kernel
theorem okLB4 : okY true LB4 = false := by decide +kernel
theorem okL0 : okY true ([] : List Sy) = true := by decide +kernel
theorem ups1 : upsI szN (asz true) [] LA = [⟨[], [⟨0, 167837696, 16⟩, ⟨0, 167903232, 16⟩], saidI 9, false⟩] := by decide +kernel
theorem ups2 : upsI szN (asz true) LA LB = [⟨[⟨0, 167837696, 16⟩], [], atZ, false⟩, ⟨[], [⟨0, 167968768, 16⟩], saidI 8, false⟩, ⟨[], [⟨0, 168034304, 16⟩], saidI 9, false⟩] := by decide +kernel
theorem map_one {M : List UpV} {u : Up} (h : M.map UpV.up = [u]) : ∃ z, M = [z] ∧ z.up = u := by
  cases M with
  | nil => cases h
  | cons z r =>
    rw [List.map_cons] at h
    injection h with h1 h2
    exact ⟨z, by rw [List.map_eq_nil_iff.1 h2], h1⟩
theorem map_three {M : List UpV} {u v x : Up} (h : M.map UpV.up = [u, v, x]) : ∃ a b c, M = [a, b, c] ∧ a.up = u ∧ b.up = v ∧ c.up = x := by
  cases M with
  | nil => cases h
  | cons a r =>
    rw [List.map_cons] at h
    injection h with h1 h2
    cases r with
    | nil => cases h2
    | cons b r =>
      rw [List.map_cons] at h2
      injection h2 with h2 h3
      obtain ⟨c, e, h4⟩ := map_one h3
      exact ⟨a, b, c, by rw [e], h1, h2, h4⟩
structure At3 (g o : Nat) (x y z : UpV) (W : World) : Prop where
  x : RUp.At W g o x
  y : RUp.At W g (o + 9) y
  z : RUp.At W g (o + 18) z
  lt : g < W.heap.size
theorem At3.keep {g o : Nat} {x y z : UpV} {W W' : World} (h : At3 g o x y z W) (hb : Below W.heap.size W W') : At3 g o x y z W' := ⟨h.x.keep (hb.block _ h.lt), h.y.keep (hb.block _ h.lt), h.z.keep (hb.block _ h.lt), Nat.lt_of_lt_of_le h.lt hb.size⟩
theorem sl_three {W : World} {oa : Option Addr} {c : Nat} {x y z : UpV} (h : RUp.Sl W oa 3 c [x, y, z]) : ∃ g o, oa = some ⟨g, o, none⟩ ∧ At3 g o x y z W := by
  obtain ⟨g, o, e, hl, h0⟩ := h.at (show 0 < 3 by omega)
  obtain ⟨g1, o1, e1, -, h1⟩ := h.at (show 1 < 3 by omega)
  obtain ⟨g2, o2, e2, -, h2⟩ := h.at (show 2 < 3 by omega)
  rw [e] at e1 e2
  injection e1 with e1
  injection e1 with e1 e1' _
  injection e2 with e2
  injection e2 with e2 e2' _
  subst e1 e1' e2 e2'
  exact ⟨g, o, e, ⟨by simpa using h0, by simpa [RUp] using h1, by simpa [RUp] using h2, hl⟩⟩
theorem sm_said (nx : Int) : smAt (saidI nx) := ⟨by show 1 ≤ 1000000; omega, by show 0 ≤ 1000000; omega, fun s hs => by
  have : s = (false, [7]) := by simpa [saidI] using hs
  subst this
  show 1 ≤ 1000000
  omega⟩
set_option maxRecDepth 100000 in
set_option maxHeartbeats 32000000 in
theorem lives24 (w : World) : Calls Try.prog 7 #[] w fun e w' => e = .returned (.bool true) ∧ Below w.heap.size w w' := by
  have H19 := Lib.hid (fun W => say_1_9 W)
  have H29 := Lib.hid (fun W => say_2_9 W)
  have H38 := Lib.hid (fun W => say_3_8 W)
  have H49 := Lib.hid (fun W => say_4_9 W)
  unfold SyV.v at H19 H29 H38 H49
  go_enter Try.func7, Try.ntmps7
  go_wp2_with fail
  refine (H19.out _).mono ?_
  rintro e W1 ⟨x1, rfl, ho1, he1, hb⟩
  have F00 := Lib.hid (And.intro hb (And.intro ho1 he1))
  clear hb ho1 he1 H19
  go_wp2_with fail
  refine (H29.out _).mono ?_
  rintro e W2 ⟨x2, rfl, ho2, he2, hb⟩
  have F1 := Lib.hid (And.intro (bcall F00.out.1 (Nat.le_refl _) hb) (And.intro (F00.out.2.1.keep hb) (And.intro F00.out.2.2 (And.intro ho2 (he2)))))
  clear F00
  clear hb ho2 he2
  have hal := (Below.refl W2.heap.size W2).alloc (Nat.le_refl _) (.cells #[.int .u32 (x1.k.1 : Int), .int .i64 x1.k.2, .int .i64 x1.a.o, .slice x1.a.p.a x1.a.p.n x1.a.p.c, .int .u32 x1.a.nx, .int .i64 x1.a.md, .int .i64 x1.a.pf, .slice x1.a.c.a x1.a.c.n x1.a.c.c, .int .u32 (x2.k.1 : Int), .int .i64 x2.k.2, .int .i64 x2.a.o, .slice x2.a.p.a x2.a.p.n x2.a.p.c, .int .u32 x2.a.nx, .int .i64 x2.a.md, .int .i64 x2.a.pf, .slice x2.a.c.a x2.a.c.n x2.a.c.c] 35)
  have hsl : SlOk RSy SyOk (W2.alloc (.cells #[.int .u32 (x1.k.1 : Int), .int .i64 x1.k.2, .int .i64 x1.a.o, .slice x1.a.p.a x1.a.p.n x1.a.p.c, .int .u32 x1.a.nx, .int .i64 x1.a.md, .int .i64 x1.a.pf, .slice x1.a.c.a x1.a.c.n x1.a.c.c, .int .u32 (x2.k.1 : Int), .int .i64 x2.k.2, .int .i64 x2.a.o, .slice x2.a.p.a x2.a.p.n x2.a.p.c, .int .u32 x2.a.nx, .int .i64 x2.a.md, .int .i64 x2.a.pf, .slice x2.a.c.a x2.a.c.n x2.a.c.c] 35)) ⟨some ⟨W2.heap.size, 0, none⟩, 2, 2, [x1, x2]⟩ := ⟨Rep.sl_flat (R := RSy) (M := [x1, x2]) (hnew _ _) (by show 2 ≤ maxLen; unfold maxLen; omega), (fun h => by cases h), Nat.le_refl _, by show 2 ≤ maxLen; unfold maxLen; omega, fun y hy => by
    simp only [List.mem_cons, List.not_mem_nil, or_false] at hy
    rcases hy with rfl | rfl
    · exact F1.out.2.1.keep hal
    · exact F1.out.2.2.2.1.keep hal⟩
  have F2 := Lib.hid (And.intro (bcall F1.out.1 (Nat.le_refl _) hal) (And.intro F1.out.2.2.1 (And.intro F1.out.2.2.2.2 (hsl))))
  clear F1
  clear hal hsl
  go_wp2_with fail
  generalize W2.alloc (.cells #[.int .u32 (x1.k.1 : Int), .int .i64 x1.k.2, .int .i64 x1.a.o, .slice x1.a.p.a x1.a.p.n x1.a.p.c, .int .u32 x1.a.nx, .int .i64 x1.a.md, .int .i64 x1.a.pf, .slice x1.a.c.a x1.a.c.n x1.a.c.c, .int .u32 (x2.k.1 : Int), .int .i64 x2.k.2, .int .i64 x2.a.o, .slice x2.a.p.a x2.a.p.n x2.a.p.c, .int .u32 x2.a.nx, .int .i64 x2.a.md, .int .i64 x2.a.pf, .slice x2.a.c.a x2.a.c.n x2.a.c.c] 35) = W3 at *
  obtain ⟨qa, hqa⟩ : ∃ q, W2.heap.size = q := ⟨_, rfl⟩
  rw [hqa] at F2 ⊢
  clear hqa
  refine (H38.out _).mono ?_
  rintro e W4 ⟨x3, rfl, ho3, he3, hb⟩
  have F3 := Lib.hid (And.intro (bcall F2.out.1 (Nat.le_refl _) hb) (And.intro F2.out.2.1 (And.intro F2.out.2.2.1 (And.intro (F2.out.2.2.2.keepY hb) (And.intro ho3 (he3))))))
  clear F2
  clear hb ho3 he3
  go_wp2_with fail
  refine (H29.out _).mono ?_
  rintro e W5 ⟨x4, rfl, ho4, he4, hb⟩
  have F4 := Lib.hid (And.intro (bcall F3.out.1 (Nat.le_refl _) hb) (And.intro F3.out.2.1 (And.intro F3.out.2.2.1 (And.intro (F3.out.2.2.2.1.keepY hb) (And.intro (F3.out.2.2.2.2.1.keep hb) (And.intro F3.out.2.2.2.2.2 (And.intro ho4 (he4))))))))
  clear F3
  clear hb ho4 he4
  clear H29
  go_wp2_with fail
  refine (H49.out _).mono ?_
  rintro e W6 ⟨x5, rfl, ho5, he5, hb⟩
  have F5 := Lib.hid (And.intro (bcall F4.out.1 (Nat.le_refl _) hb) (And.intro F4.out.2.1 (And.intro F4.out.2.2.1 (And.intro (F4.out.2.2.2.1.keepY hb) (And.intro (F4.out.2.2.2.2.1.keep hb) (And.intro F4.out.2.2.2.2.2.1 (And.intro (F4.out.2.2.2.2.2.2.1.keep hb) (And.intro F4.out.2.2.2.2.2.2.2 (And.intro ho5 (he5))))))))))
  clear F4
  clear hb ho5 he5
  clear H38 H49
  have hal := (Below.refl W6.heap.size W6).alloc (Nat.le_refl _) (.cells #[.int .u32 (x3.k.1 : Int), .int .i64 x3.k.2, .int .i64 x3.a.o, .slice x3.a.p.a x3.a.p.n x3.a.p.c, .int .u32 x3.a.nx, .int .i64 x3.a.md, .int .i64 x3.a.pf, .slice x3.a.c.a x3.a.c.n x3.a.c.c, .int .u32 (x4.k.1 : Int), .int .i64 x4.k.2, .int .i64 x4.a.o, .slice x4.a.p.a x4.a.p.n x4.a.p.c, .int .u32 x4.a.nx, .int .i64 x4.a.md, .int .i64 x4.a.pf, .slice x4.a.c.a x4.a.c.n x4.a.c.c, .int .u32 (x5.k.1 : Int), .int .i64 x5.k.2, .int .i64 x5.a.o, .slice x5.a.p.a x5.a.p.n x5.a.p.c, .int .u32 x5.a.nx, .int .i64 x5.a.md, .int .i64 x5.a.pf, .slice x5.a.c.a x5.a.c.n x5.a.c.c] 35)
  have hsl : SlOk RSy SyOk (W6.alloc (.cells #[.int .u32 (x3.k.1 : Int), .int .i64 x3.k.2, .int .i64 x3.a.o, .slice x3.a.p.a x3.a.p.n x3.a.p.c, .int .u32 x3.a.nx, .int .i64 x3.a.md, .int .i64 x3.a.pf, .slice x3.a.c.a x3.a.c.n x3.a.c.c, .int .u32 (x4.k.1 : Int), .int .i64 x4.k.2, .int .i64 x4.a.o, .slice x4.a.p.a x4.a.p.n x4.a.p.c, .int .u32 x4.a.nx, .int .i64 x4.a.md, .int .i64 x4.a.pf, .slice x4.a.c.a x4.a.c.n x4.a.c.c, .int .u32 (x5.k.1 : Int), .int .i64 x5.k.2, .int .i64 x5.a.o, .slice x5.a.p.a x5.a.p.n x5.a.p.c, .int .u32 x5.a.nx, .int .i64 x5.a.md, .int .i64 x5.a.pf, .slice x5.a.c.a x5.a.c.n x5.a.c.c] 35)) ⟨some ⟨W6.heap.size, 0, none⟩, 3, 3, [x3, x4, x5]⟩ := ⟨Rep.sl_flat (R := RSy) (M := [x3, x4, x5]) (hnew _ _) (by show 3 ≤ maxLen; unfold maxLen; omega), (fun h => by cases h), Nat.le_refl _, by show 3 ≤ maxLen; unfold maxLen; omega, fun y hy => by
    simp only [List.mem_cons, List.not_mem_nil, or_false] at hy
    rcases hy with rfl | rfl | rfl
    · exact F5.out.2.2.2.2.1.keep hal
    · exact F5.out.2.2.2.2.2.2.1.keep hal
    · exact F5.out.2.2.2.2.2.2.2.2.1.keep hal⟩
  have F6 := Lib.hid (And.intro (bcall F5.out.1 (Nat.le_refl _) hal) (And.intro F5.out.2.1 (And.intro F5.out.2.2.1 (And.intro (F5.out.2.2.2.1.keepY hal) (And.intro F5.out.2.2.2.2.2.1 (And.intro F5.out.2.2.2.2.2.2.2.1 (And.intro F5.out.2.2.2.2.2.2.2.2.2 (hsl))))))))
  clear F5
  clear hal hsl
  go_wp2_with fail
  generalize W6.alloc (.cells #[.int .u32 (x3.k.1 : Int), .int .i64 x3.k.2, .int .i64 x3.a.o, .slice x3.a.p.a x3.a.p.n x3.a.p.c, .int .u32 x3.a.nx, .int .i64 x3.a.md, .int .i64 x3.a.pf, .slice x3.a.c.a x3.a.c.n x3.a.c.c, .int .u32 (x4.k.1 : Int), .int .i64 x4.k.2, .int .i64 x4.a.o, .slice x4.a.p.a x4.a.p.n x4.a.p.c, .int .u32 x4.a.nx, .int .i64 x4.a.md, .int .i64 x4.a.pf, .slice x4.a.c.a x4.a.c.n x4.a.c.c, .int .u32 (x5.k.1 : Int), .int .i64 x5.k.2, .int .i64 x5.a.o, .slice x5.a.p.a x5.a.p.n x5.a.p.c, .int .u32 x5.a.nx, .int .i64 x5.a.md, .int .i64 x5.a.pf, .slice x5.a.c.a x5.a.c.n x5.a.c.c] 35) = W7 at *
  obtain ⟨qb, hqb⟩ : ∃ q, W6.heap.size = q := ⟨_, rfl⟩
  rw [hqb] at F6 ⊢
  clear hqb
  have hLA : List.map SyV.sy [x1, x2] = LA := by simp only [List.map_cons, List.map_nil, F6.out.2.1, F6.out.2.2.1]; rfl
  have hLB : List.map SyV.sy [x3, x4, x5] = LB := by simp only [List.map_cons, List.map_nil, F6.out.2.2.2.2.1, F6.out.2.2.2.2.2.1, F6.out.2.2.2.2.2.2.1]; rfl
  have hLB4 : List.map SyV.sy [x3, x4, x5, x3] = LB4 := by simp only [List.map_cons, List.map_nil, F6.out.2.2.2.2.1, F6.out.2.2.2.2.2.1, F6.out.2.2.2.2.2.2.1]; rfl
  have HE := Lib.hid (And.intro hLA (And.intro hLB hLB4))
  clear hLA hLB hLB4
  refine (dupdates_any (wa := none) (wn := 0) (wc := 0) (wl := []) (four := true) slZ F6.out.2.2.2.1 okL0 (by rw [HE.out.1]; exact okLA) (by omega) (by omega)).mono ?_
  rintro e W8 ⟨v1, M1, rfl, ho, hm, hb⟩
  rw [HE.out.1, List.map_nil, ups1] at hm
  obtain ⟨z, rfl, hz⟩ := map_one hm
  obtain ⟨⟨la, ln, lc, ll⟩, rfl, hl1, hl2, -, -⟩ := ho.slok
  dsimp only at hl1
  subst hl1
  obtain rfl : ln = 1 := hl2.sl.len
  have hzr : z.r.n = 2 := by
    have h1 := (hl2.all z List.mem_cons_self).r.sl.len
    have h2 := congrArg (fun u : Up => u.routes.length) hz
    exact h1.trans h2
  have F7 := Lib.hid (And.intro (bcall F6.out.1 (Nat.le_refl _) hb) (And.intro F6.out.2.1 (And.intro F6.out.2.2.1 (And.intro (F6.out.2.2.2.1.keepY hb) (And.intro F6.out.2.2.2.2.1 (And.intro F6.out.2.2.2.2.2.1 (And.intro F6.out.2.2.2.2.2.2.1 (And.intro (F6.out.2.2.2.2.2.2.2.keepY hb) (And.intro hl2 (hzr))))))))))
  clear F6
  clear ho hm hz hb hl2 hzr
  go_wp2_with fail
  refine (dupdates_any (four := true) F7.out.2.2.2.1 F7.out.2.2.2.2.2.2.2.1 (by rw [HE.out.1]; exact okLA) (by rw [HE.out.2.1]; exact okLB) (by omega) (by omega)).mono ?_
  rintro e W9 ⟨v2, M2, rfl, ho, hm, hb⟩
  rw [HE.out.1, HE.out.2.1, ups2] at hm
  obtain ⟨u0, u1, u2, rfl, h0, h1, h2⟩ := map_three hm
  obtain ⟨⟨ma, mn, mc, ml⟩, rfl, hl1, hl2, -, -⟩ := ho.slok
  dsimp only at hl1
  subst hl1
  obtain rfl : mn = 3 := hl2.sl.len
  obtain ⟨gm, om, ea, h3⟩ := sl_three hl2.sl
  dsimp only at ea
  subst ea
  have hu0 : UpOk W9 u0 := hl2.all u0 (by simp)
  have hu1 : UpOk W9 u1 := hl2.all u1 (by simp)
  have hu2 : UpOk W9 u2 := hl2.all u2 (by simp)
  have hn0 : u0.g.n = 1 := hu0.g.sl.len.trans (congrArg (fun u : Up => u.gone.length) h0)
  have hr0 : u0.r.n = 0 := hu0.r.sl.len.trans (congrArg (fun u : Up => u.routes.length) h0)
  have hr1 : u1.r.n = 1 := hu1.r.sl.len.trans (congrArg (fun u : Up => u.routes.length) h1)
  have hr2 : u2.r.n = 1 := hu2.r.sl.len.trans (congrArg (fun u : Up => u.routes.length) h2)
  have hx1 : u1.a.nx = 8 := congrArg (fun u : Up => u.a.nx) h1
  have hx2 : u2.a.nx = 9 := congrArg (fun u : Up => u.a.nx) h2
  have HU := Lib.hid (And.intro (And.intro h0 (And.intro h1 h2)) (And.intro hn0 (And.intro (And.intro hr0 (And.intro hr1 hr2)) (And.intro hx1 hx2))))
  have F8 := Lib.hid (And.intro (bcall F7.out.1 (Nat.le_refl _) hb) (And.intro F7.out.2.1 (And.intro F7.out.2.2.1 (And.intro (F7.out.2.2.2.1.keepY hb) (And.intro F7.out.2.2.2.2.1 (And.intro F7.out.2.2.2.2.2.1 (And.intro F7.out.2.2.2.2.2.2.1 (And.intro (F7.out.2.2.2.2.2.2.2.1.keepY hb) (And.intro (F7.out.2.2.2.2.2.2.2.2.1.keepU hb) (And.intro F7.out.2.2.2.2.2.2.2.2.2 (And.intro h3 (And.intro hu0 (And.intro hu1 (hu2))))))))))))))
  clear F7
  clear ho hm h0 h1 h2 hb hl2 h3 hu0 hu1 hu2 hn0 hr0 hr1 hr2 hx1 hx2
  have hat := (sl_head' F8.out.2.2.2.2.2.2.2.1.sl (show 0 < 3 by omega)).2
  dsimp only [List.getD_cons_zero] at hat
  have c0 := hat 0 (by decide)
  have c1 := hat 1 (by decide)
  have c2 := hat 2 (by decide)
  have c3 := hat 3 (by decide)
  have c4 := hat 4 (by decide)
  have c5 := hat 5 (by decide)
  have c6 := hat 6 (by decide)
  have c7 := hat 7 (by decide)
  simp only [RSy, Nat.add_zero, List.getElem?_cons_zero, List.getElem?_cons_succ] at c0 c1 c2 c3 c4 c5 c6 c7
  clear hat
  go_wp2_with (at_builtin; refine halt ?_)
  refine Halted.go ?_
  clear c0 c1 c2 c3 c4 c5 c6 c7
  have hal := (Below.refl W9.heap.size W9).alloc (Nat.le_refl _) (.cells #[.int .u32 (x3.k.1 : Int), .int .i64 x3.k.2, .int .i64 x3.a.o, .slice x3.a.p.a x3.a.p.n x3.a.p.c, .int .u32 x3.a.nx, .int .i64 x3.a.md, .int .i64 x3.a.pf, .slice x3.a.c.a x3.a.c.n x3.a.c.c] 35)
  have hone : RSy.Sl (W9.alloc (.cells #[.int .u32 (x3.k.1 : Int), .int .i64 x3.k.2, .int .i64 x3.a.o, .slice x3.a.p.a x3.a.p.n x3.a.p.c, .int .u32 x3.a.nx, .int .i64 x3.a.md, .int .i64 x3.a.pf, .slice x3.a.c.a x3.a.c.n x3.a.c.c] 35)) (some ⟨W9.heap.size, 0, none⟩) 1 1 [x3] := Rep.sl_one (R := RSy) (y := x3) (hnew _ _)
  have F9 := Lib.hid (And.intro (bcall F8.out.1 (Nat.le_refl _) hal) (And.intro F8.out.2.1 (And.intro F8.out.2.2.1 (And.intro (F8.out.2.2.2.1.keepY hal) (And.intro F8.out.2.2.2.2.1 (And.intro F8.out.2.2.2.2.2.1 (And.intro F8.out.2.2.2.2.2.2.1 (And.intro (F8.out.2.2.2.2.2.2.2.1.keepY hal) (And.intro (F8.out.2.2.2.2.2.2.2.2.1.keepU hal) (And.intro F8.out.2.2.2.2.2.2.2.2.2.1 (And.intro (F8.out.2.2.2.2.2.2.2.2.2.2.1.keep hal) (And.intro (F8.out.2.2.2.2.2.2.2.2.2.2.2.1.keep hal) (And.intro (F8.out.2.2.2.2.2.2.2.2.2.2.2.2.1.keep hal) ((F8.out.2.2.2.2.2.2.2.2.2.2.2.2.2.keep hal)))))))))))))))
  clear F8
  clear hal
  refine Rep.append_cut TSy rfl _ _ rfl rfl F9.out.2.2.2.2.2.2.2.1.sl rfl hone (by omega) (by unfold maxLen; omega) (by omega) ?_
  intro v10 W10 hown hb
  obtain ⟨⟨ba, bn, bc, bl⟩, rfl, hb1, hb2, -, -⟩ := Own_slok (ok := SyOk) hown (fun y hy => by
    have h1 : y ∈ [x3, x4, x5] := by
      simp only [List.cons_append, List.nil_append, List.mem_cons, List.not_mem_nil, or_false] at hy ⊢
      rcases hy with h | h | h | h
      · exact .inl h
      · exact .inr (.inl h)
      · exact .inr (.inr h)
      · exact .inl h
    exact (F9.out.2.2.2.2.2.2.2.1.keepY hb).all y h1)
  dsimp only at hb1
  subst hb1
  obtain rfl : bn = 4 := hb2.sl.len
  have F10 := Lib.hid (And.intro (bcall F9.out.1 (Nat.le_refl _) hb) (And.intro F9.out.2.1 (And.intro F9.out.2.2.1 (And.intro (F9.out.2.2.2.1.keepY hb) (And.intro F9.out.2.2.2.2.1 (And.intro F9.out.2.2.2.2.2.1 (And.intro F9.out.2.2.2.2.2.2.1 (And.intro (F9.out.2.2.2.2.2.2.2.1.keepY hb) (And.intro (F9.out.2.2.2.2.2.2.2.2.1.keepU hb) (And.intro F9.out.2.2.2.2.2.2.2.2.2.1 (And.intro (F9.out.2.2.2.2.2.2.2.2.2.2.1.keep hb) (And.intro (F9.out.2.2.2.2.2.2.2.2.2.2.2.1.keep hb) (And.intro (F9.out.2.2.2.2.2.2.2.2.2.2.2.2.1.keep hb) (And.intro (F9.out.2.2.2.2.2.2.2.2.2.2.2.2.2.keep hb) (hb2)))))))))))))))
  clear F9
  clear hb hone hown hb2
  go_wp2_with fail
  refine (dupdates_bad (four := true) F10.out.2.2.2.1 F10.out.2.2.2.2.2.2.2.2.2.2.2.2.2.2 (by rw [HE.out.1, show List.map SyV.sy ([x3, x4, x5] ++ [x3]) = LB4 from HE.out.2.2, okLB4, Bool.and_false])).mono ?_
  rintro e W11 ⟨rfl, hb⟩
  have F11 := Lib.hid (And.intro (bcall F10.out.1 (Nat.le_refl _) hb) (And.intro F10.out.2.1 (And.intro F10.out.2.2.1 (And.intro (F10.out.2.2.2.1.keepY hb) (And.intro F10.out.2.2.2.2.1 (And.intro F10.out.2.2.2.2.2.1 (And.intro F10.out.2.2.2.2.2.2.1 (And.intro (F10.out.2.2.2.2.2.2.2.1.keepY hb) (And.intro (F10.out.2.2.2.2.2.2.2.2.1.keepU hb) (And.intro F10.out.2.2.2.2.2.2.2.2.2.1 (And.intro (F10.out.2.2.2.2.2.2.2.2.2.2.1.keep hb) (And.intro (F10.out.2.2.2.2.2.2.2.2.2.2.2.1.keep hb) (And.intro (F10.out.2.2.2.2.2.2.2.2.2.2.2.2.1.keep hb) ((F10.out.2.2.2.2.2.2.2.2.2.2.2.2.2.1.keep hb)))))))))))))))
  clear F10
  clear hb
  go_wp2_with fail
  have hd := (Below.refl W11.heap.size W11).drew
  have F12 := Lib.hid (And.intro (bcall F11.out.1 (Nat.le_refl _) hd) (And.intro F11.out.2.1 (And.intro F11.out.2.2.1 (And.intro (F11.out.2.2.2.1.keepY hd) (And.intro F11.out.2.2.2.2.1 (And.intro F11.out.2.2.2.2.2.1 (And.intro F11.out.2.2.2.2.2.2.1 (And.intro (F11.out.2.2.2.2.2.2.2.1.keepY hd) (And.intro (F11.out.2.2.2.2.2.2.2.2.1.keepU hd) (And.intro F11.out.2.2.2.2.2.2.2.2.2.1 (And.intro (F11.out.2.2.2.2.2.2.2.2.2.2.1.keep hd) (And.intro (F11.out.2.2.2.2.2.2.2.2.2.2.2.1.keep hd) (And.intro (F11.out.2.2.2.2.2.2.2.2.2.2.2.2.1.keep hd) ((F11.out.2.2.2.2.2.2.2.2.2.2.2.2.2.keep hd)))))))))))))))
  clear F11
  clear hd
  refine wp_region_heldP (At3 gm om u0 u1 u2) (by kernel_rfl) ?_
  generalize W11.drew = V0 at *
  refine held_reads [0, 1, 2, 3, 5, 6, 7, 9, 10, 11] (g := 4) rfl (by kernel_rfl) F12.out.2.2.2.2.2.2.2.2.2.2.1 (fun _ _ d _ _ h => by cases d <;> exact h) ?_
  simp only [pick, List.getD_cons_zero, List.getD_cons_succ]
  ((with_reducible refine wpRead_step (fun K hK => ?_)); go_simp; first | ((with_reducible refine hK _ ?_); clear hK K) | (apply Exists.intro; (with_reducible refine ⟨fun w' hw' => ?_, hK _ ?_⟩); (first | exact rfl | exact ⟨rfl, rfl⟩); clear hK K))
  ((with_reducible refine wpRead_step (fun K hK => ?_)); go_simp; first | ((with_reducible refine hK _ ?_); clear hK K) | (apply Exists.intro; (with_reducible refine ⟨fun w' hw' => ?_, hK _ ?_⟩); (first | exact rfl | exact ⟨rfl, rfl⟩); clear hK K))
  ((with_reducible refine wpRead_step (fun K hK => ?_)); go_simp; first | ((with_reducible refine hK _ ?_); clear hK K) | (apply Exists.intro; (with_reducible refine ⟨fun w' hw' => ?_, hK _ ?_⟩); (first | exact rfl | exact ⟨rfl, rfl⟩); clear hK K))
  with_reducible refine wpRead_yes ?_ ?_
  rotate_left
  rfl
  intro K hK
  refine read_load 48 _ rfl gm om #[.slice u0.g.a u0.g.n u0.g.c, .slice u0.r.a u0.r.n u0.r.c, .int .i64 u0.a.o, .slice u0.a.p.a u0.a.p.n u0.a.p.c, .int .u32 u0.a.nx, .int .i64 u0.a.md, .int .i64 u0.a.pf, .slice u0.a.c.a u0.a.c.n u0.a.c.c, .bool u0.soft] rfl (fun w' hw' => hw'.x.range) Try.underlying48 rfl (by kernel_rfl) (hK _ ?_)
  clear hK K
  ((with_reducible refine wpRead_step (fun K hK => ?_)); go_simp; first | ((with_reducible refine hK _ ?_); clear hK K) | (apply Exists.intro; (with_reducible refine ⟨fun w' hw' => ?_, hK _ ?_⟩); (first | exact rfl | exact ⟨rfl, rfl⟩); clear hK K))
  ((with_reducible refine wpRead_step (fun K hK => ?_)); go_simp; first | ((with_reducible refine hK _ ?_); clear hK K) | (apply Exists.intro; (with_reducible refine ⟨fun w' hw' => ?_, hK _ ?_⟩); (first | exact rfl | exact ⟨rfl, rfl⟩); clear hK K))
  with_reducible refine wpRead_yes ?_ ?_
  rotate_left
  rfl
  intro K hK
  refine read_load 48 _ rfl gm (om + 9) #[.slice u1.g.a u1.g.n u1.g.c, .slice u1.r.a u1.r.n u1.r.c, .int .i64 u1.a.o, .slice u1.a.p.a u1.a.p.n u1.a.p.c, .int .u32 u1.a.nx, .int .i64 u1.a.md, .int .i64 u1.a.pf, .slice u1.a.c.a u1.a.c.n u1.a.c.c, .bool u1.soft] rfl (fun w' hw' => hw'.y.range) Try.underlying48 rfl (by kernel_rfl) (hK _ ?_)
  clear hK K
  ((with_reducible refine wpRead_step (fun K hK => ?_)); go_simp; first | ((with_reducible refine hK _ ?_); clear hK K) | (apply Exists.intro; (with_reducible refine ⟨fun w' hw' => ?_, hK _ ?_⟩); (first | exact rfl | exact ⟨rfl, rfl⟩); clear hK K))
  ((with_reducible refine wpRead_step (fun K hK => ?_)); go_simp; first | ((with_reducible refine hK _ ?_); clear hK K) | (apply Exists.intro; (with_reducible refine ⟨fun w' hw' => ?_, hK _ ?_⟩); (first | exact rfl | exact ⟨rfl, rfl⟩); clear hK K))
  with_reducible refine wpRead_yes ?_ ?_
  rotate_left
  rfl
  intro K hK
  refine read_load 48 _ rfl gm (om + 18) #[.slice u2.g.a u2.g.n u2.g.c, .slice u2.r.a u2.r.n u2.r.c, .int .i64 u2.a.o, .slice u2.a.p.a u2.a.p.n u2.a.p.c, .int .u32 u2.a.nx, .int .i64 u2.a.md, .int .i64 u2.a.pf, .slice u2.a.c.a u2.a.c.n u2.a.c.c, .bool u2.soft] rfl (fun w' hw' => hw'.z.range) Try.underlying48 rfl (by kernel_rfl) (hK _ ?_)
  clear hK K
  with_reducible refine wpRead_nil ?_
  refine held_one 4 (by kernel_rfl) ?_
  simp only [pick, List.getD_cons_zero, List.getD_cons_succ]
  have HC := Lib.hid (dapply_any F12.out.2.2.2.1 F12.out.2.2.2.2.2.2.2.2.2.2.2.1 (fun s hs => by
    simp only [List.mem_cons, List.not_mem_nil, or_false] at hs
    rcases hs with rfl | rfl
    · rw [show s.a.at = saidI 9 from congrArg Sy.a F12.out.2.1]; exact sm_said 9
    · rw [show s.a.at = saidI 9 from congrArg Sy.a F12.out.2.2.1]; exact sm_said 9) (by rw [show u0.a.at = atZ from congrArg Up.a HU.out.1.1]; exact sm_zero) (by rw [HU.out.2.2.1.1]; omega))
  unfold UpV.v at HC
  go_wp2_with fail
  refine (HC.out).mono ?_
  rintro e V1 ⟨v, O, rfl, ho, hord, hlk, hsm, hle, hb⟩
  obtain ⟨⟨p1, n1, k1, l1⟩, rfl, hl1, hl2, -, -⟩ := ho.slok
  dsimp only at hl1
  subst hl1
  have hnn : n1 = l1.length := hl2.sl.len
  have HP1 := Lib.hid (And.intro hord (And.intro hlk (And.intro hsm (And.intro hle hnn))))
  have F13 := Lib.hid (And.intro (bcall F12.out.1 (Nat.le_refl _) hb) (And.intro F12.out.2.1 (And.intro F12.out.2.2.1 (And.intro (F12.out.2.2.2.1.keepY hb) (And.intro F12.out.2.2.2.2.1 (And.intro F12.out.2.2.2.2.2.1 (And.intro F12.out.2.2.2.2.2.2.1 (And.intro (F12.out.2.2.2.2.2.2.2.1.keepY hb) (And.intro (F12.out.2.2.2.2.2.2.2.2.1.keepU hb) (And.intro F12.out.2.2.2.2.2.2.2.2.2.1 (And.intro (F12.out.2.2.2.2.2.2.2.2.2.2.1.keep hb) (And.intro (F12.out.2.2.2.2.2.2.2.2.2.2.2.1.keep hb) (And.intro (F12.out.2.2.2.2.2.2.2.2.2.2.2.2.1.keep hb) (And.intro (F12.out.2.2.2.2.2.2.2.2.2.2.2.2.2.keep hb) (hl2)))))))))))))))
  clear F12
  clear ho hord hlk hsm hle hb hl2 hnn HC
  go_wp2_with fail
  refine ⟨F13.out.2.2.2.2.2.2.2.2.2.2.1, ?_⟩
  refine held_one 8 (by kernel_rfl) ?_
  simp only [pick, List.getD_cons_zero, List.getD_cons_succ]
  have HC := Lib.hid (dapply_any F13.out.2.2.2.2.2.2.2.2.2.2.2.2.2.2 F13.out.2.2.2.2.2.2.2.2.2.2.2.2.1 HP1.out.2.2.1 (by rw [show u1.a.at = saidI 8 from congrArg Up.a HU.out.1.2.1]; exact sm_said 8) (by have h1 := HP1.out.2.2.2; have h2 := HU.out.2.2.1; omega))
  unfold UpV.v at HC
  go_wp2_with fail
  refine (HC.out).mono ?_
  rintro e V2 ⟨v, O, rfl, ho, hord, hlk, hsm, hle, hb⟩
  obtain ⟨⟨p2, n2, k2, l2⟩, rfl, hl1, hl2, -, -⟩ := ho.slok
  dsimp only at hl1
  subst hl1
  have hnn : n2 = l2.length := hl2.sl.len
  have HP2 := Lib.hid (And.intro hord (And.intro hlk (And.intro hsm (And.intro hle hnn))))
  have F14 := Lib.hid (And.intro (bcall F13.out.1 (Nat.le_refl _) hb) (And.intro F13.out.2.1 (And.intro F13.out.2.2.1 (And.intro (F13.out.2.2.2.1.keepY hb) (And.intro F13.out.2.2.2.2.1 (And.intro F13.out.2.2.2.2.2.1 (And.intro F13.out.2.2.2.2.2.2.1 (And.intro (F13.out.2.2.2.2.2.2.2.1.keepY hb) (And.intro (F13.out.2.2.2.2.2.2.2.2.1.keepU hb) (And.intro F13.out.2.2.2.2.2.2.2.2.2.1 (And.intro (F13.out.2.2.2.2.2.2.2.2.2.2.1.keep hb) (And.intro (F13.out.2.2.2.2.2.2.2.2.2.2.2.1.keep hb) (And.intro (F13.out.2.2.2.2.2.2.2.2.2.2.2.2.1.keep hb) (And.intro (F13.out.2.2.2.2.2.2.2.2.2.2.2.2.2.1.keep hb) (And.intro (F13.out.2.2.2.2.2.2.2.2.2.2.2.2.2.2.keepY hb) (hl2))))))))))))))))
  clear F13
  clear ho hord hlk hsm hle hb hl2 hnn HC
  go_wp2_with fail
  refine ⟨F14.out.2.2.2.2.2.2.2.2.2.2.1, ?_⟩
  refine held_one 12 (by kernel_rfl) ?_
  simp only [pick, List.getD_cons_zero, List.getD_cons_succ]
  have HC := Lib.hid (dapply_any F14.out.2.2.2.2.2.2.2.2.2.2.2.2.2.2.2 F14.out.2.2.2.2.2.2.2.2.2.2.2.2.2.1 HP2.out.2.2.1 (by rw [show u2.a.at = saidI 9 from congrArg Up.a HU.out.1.2.2]; exact sm_said 9) (by have h0 := HP1.out.2.2.2; have h1 := HP2.out.2.2.2; have h2 := HU.out.2.2.1; omega))
  unfold UpV.v at HC
  go_wp2_with fail
  refine (HC.out).mono ?_
  rintro e V3 ⟨v, O, rfl, ho, hord, hlk, hsm, hle, hb⟩
  obtain ⟨⟨p3, n3, k3, l3⟩, rfl, hl1, hl2, -, -⟩ := ho.slok
  dsimp only at hl1
  subst hl1
  have hnn : n3 = l3.length := hl2.sl.len
  have HP3 := Lib.hid (And.intro hord (And.intro hlk (And.intro hsm (And.intro hle hnn))))
  have F15 := Lib.hid (And.intro (bcall F14.out.1 (Nat.le_refl _) hb) (And.intro F14.out.2.1 (And.intro F14.out.2.2.1 (And.intro (F14.out.2.2.2.1.keepY hb) (And.intro F14.out.2.2.2.2.1 (And.intro F14.out.2.2.2.2.2.1 (And.intro F14.out.2.2.2.2.2.2.1 (And.intro (F14.out.2.2.2.2.2.2.2.1.keepY hb) (And.intro (F14.out.2.2.2.2.2.2.2.2.1.keepU hb) (And.intro F14.out.2.2.2.2.2.2.2.2.2.1 (And.intro (F14.out.2.2.2.2.2.2.2.2.2.2.1.keep hb) (And.intro (F14.out.2.2.2.2.2.2.2.2.2.2.2.1.keep hb) (And.intro (F14.out.2.2.2.2.2.2.2.2.2.2.2.2.1.keep hb) (And.intro (F14.out.2.2.2.2.2.2.2.2.2.2.2.2.2.1.keep hb) (And.intro (F14.out.2.2.2.2.2.2.2.2.2.2.2.2.2.2.1.keepY hb) (And.intro (F14.out.2.2.2.2.2.2.2.2.2.2.2.2.2.2.2.keepY hb) (hl2)))))))))))))))))
  clear F14
  clear ho hord hlk hsm hle hb hl2 hnn HC
  go_wp2_with fail
  refine ⟨F15.out.2.2.2.2.2.2.2.2.2.2.1, ?_⟩
  refine held_one 13 (by kernel_rfl) ?_
  simp only [pick, List.getD_cons_zero, List.getD_cons_succ]
  go_wp2_with fail
  refine ⟨F15.out.2.2.2.2.2.2.2.2.2.2.1, ?_⟩
  refine wpAnyH_done (by kernel_rfl) ?_ _
  have hfin : List.map SyV.sy l3 = sortK Sy.k LB := by
    have hT := tells okLA okLB
    rw [ups2, ← HU.out.1.1, ← HU.out.1.2.1, ← HU.out.1.2.2] at hT
    have hL : lookA (List.map SyV.sy l3) = lookA LB := by
      rw [← hT]
      funext k
      rw [HP3.out.2.1 k]
      show appF u2.up (lookA (List.map SyV.sy l2)) k = appF u2.up (appF u1.up (appF u0.up (lookA LA))) k
      rw [show lookA (List.map SyV.sy l2) = appF u1.up (appF u0.up (lookA LA)) from funext fun k => by
        rw [HP2.out.2.1 k, show lookA (List.map SyV.sy l1) = appF u0.up (lookA LA) from funext fun k => by rw [HP1.out.2.1 k, HE.out.1]]]
    refine sorted_eq ?_ (okY_all.1 okLB).2 hL
    exact List.pairwise_map.2 HP3.out.1
  have HFIN := Lib.hid hfin
  clear hfin
  go_wp2_with fail
  refine (ten_1 _).mono ?_
  rintro e V4 ⟨rfl, hb⟩
  have F16 := Lib.hid (And.intro (bcall F15.out.1 (Nat.le_refl _) hb) (And.intro F15.out.2.1 (And.intro F15.out.2.2.1 (And.intro (F15.out.2.2.2.1.keepY hb) (And.intro F15.out.2.2.2.2.1 (And.intro F15.out.2.2.2.2.2.1 (And.intro F15.out.2.2.2.2.2.2.1 (And.intro (F15.out.2.2.2.2.2.2.2.1.keepY hb) (And.intro (F15.out.2.2.2.2.2.2.2.2.1.keepU hb) (And.intro F15.out.2.2.2.2.2.2.2.2.2.1 (And.intro (F15.out.2.2.2.2.2.2.2.2.2.2.1.keep hb) (And.intro (F15.out.2.2.2.2.2.2.2.2.2.2.2.1.keep hb) (And.intro (F15.out.2.2.2.2.2.2.2.2.2.2.2.2.1.keep hb) (And.intro (F15.out.2.2.2.2.2.2.2.2.2.2.2.2.2.1.keep hb) ((F15.out.2.2.2.2.2.2.2.2.2.2.2.2.2.2.2.2.keepY hb))))))))))))))))
  clear F15
  clear hb
  have hal := (Below.refl V4.heap.size V4).alloc (Nat.le_refl _) (.cells #[.int .i64 1] 3)
  have hA : AtOk (V4.alloc (.cells #[.int .i64 1] 3)) ⟨0, ⟨none, 0, 0, []⟩, 5, 7, 0, ⟨some ⟨V4.heap.size, 0, none⟩, 1, 1, [1]⟩⟩ := ⟨slZ, ⟨Rep.sl_one (R := RI) (y := (1 : Int)) (hnew _ _), (fun h => by cases h), Nat.le_refl _, by show 1 ≤ maxLen; unfold maxLen; omega, fun n hn => by rw [List.mem_singleton] at hn; subst hn; show I64 1; unfold I64; decide⟩, by show I64 0; unfold I64; decide, by show (0 : Int) ≤ 5 ∧ (5 : Int) ≤ 4294967295; decide, by show I64 7; unfold I64; decide, by show I64 0; unfold I64; decide⟩
  have HO := Lib.hid (dof_any (ro := 0) (id := 0) (pref := 1000) (k := (167837696, 16)) hA ⟨Nat.zero_le _, by show 1 ≤ 1000000; omega, fun y hy => by cases hy⟩)
  dsimp only at HO
  have F17 := Lib.hid (And.intro (bcall F16.out.1 (Nat.le_refl _) hal) (And.intro F16.out.2.1 (And.intro F16.out.2.2.1 (And.intro (F16.out.2.2.2.1.keepY hal) (And.intro F16.out.2.2.2.2.1 (And.intro F16.out.2.2.2.2.2.1 (And.intro F16.out.2.2.2.2.2.2.1 (And.intro (F16.out.2.2.2.2.2.2.2.1.keepY hal) (And.intro (F16.out.2.2.2.2.2.2.2.2.1.keepU hal) (And.intro F16.out.2.2.2.2.2.2.2.2.2.1 (And.intro (F16.out.2.2.2.2.2.2.2.2.2.2.1.keep hal) (And.intro (F16.out.2.2.2.2.2.2.2.2.2.2.2.1.keep hal) (And.intro (F16.out.2.2.2.2.2.2.2.2.2.2.2.2.1.keep hal) (And.intro (F16.out.2.2.2.2.2.2.2.2.2.2.2.2.2.1.keep hal) ((F16.out.2.2.2.2.2.2.2.2.2.2.2.2.2.2.keepY hal))))))))))))))))
  clear F16
  clear hal hA
  go_wp2_with fail
  refine (HO.out).mono ?_
  rintro e V5 ⟨y, rfl, hy, hb⟩
  have F18 := Lib.hid (And.intro (bcall F17.out.1 (Nat.le_refl _) hb) (And.intro F17.out.2.1 (And.intro F17.out.2.2.1 (And.intro (F17.out.2.2.2.1.keepY hb) (And.intro F17.out.2.2.2.2.1 (And.intro F17.out.2.2.2.2.2.1 (And.intro F17.out.2.2.2.2.2.2.1 (And.intro (F17.out.2.2.2.2.2.2.2.1.keepY hb) (And.intro (F17.out.2.2.2.2.2.2.2.2.1.keepU hb) (And.intro F17.out.2.2.2.2.2.2.2.2.2.1 (And.intro (F17.out.2.2.2.2.2.2.2.2.2.2.1.keep hb) (And.intro (F17.out.2.2.2.2.2.2.2.2.2.2.2.1.keep hb) (And.intro (F17.out.2.2.2.2.2.2.2.2.2.2.2.2.1.keep hb) (And.intro (F17.out.2.2.2.2.2.2.2.2.2.2.2.2.2.1.keep hb) (And.intro (F17.out.2.2.2.2.2.2.2.2.2.2.2.2.2.2.keepY hb) (hy))))))))))))))))
  clear F17
  clear hb hy HO
  go_wp2_with (with_reducible refine halt_store 35 (x := .tmp 10) rfl ?_)
  refine Halted.go ?_
  have hal := (Below.refl V5.heap.size V5).alloc (Nat.le_refl _) (.cells #[.int .u32 0, .int .i64 0, .int .i64 0, .slice none 0 0, .int .u32 0, .int .i64 0, .int .i64 0, .slice none 0 0] 35)
  refine store_whole rfl 35 _ _ rfl V5.heap.size #[.int .u32 ((167837696 : Nat) : Int), .int .i64 16, .int .i64 y.o, .slice y.p.a y.p.n y.p.c, .int .u32 y.nx, .int .i64 (-1), .int .i64 1000, .slice none 0 0] rfl rfl (hnew _ _) rfl (by kernel_rfl) (by simp [Value.oneCell']) ?_
  intro V6 hwz hsz
  have hzb : Below V5.heap.size V5 V6 := Below.trans hal (hsz.below (Nat.le_refl _))
  have hO : V6.heap[V5.heap.size]? = some (.cells #[.int .u32 167837696, .int .i64 16, .int .i64 y.o, .slice y.p.a y.p.n y.p.c, .int .u32 5, .int .i64 (-1), .int .i64 1000, .slice none 0 0] 35) := by rw [hwz, F18.out.2.2.2.2.2.2.2.2.2.2.2.2.2.2.2]; rfl
  have F19 := Lib.hid (And.intro (bcall F18.out.1 (Nat.le_refl _) hzb) (And.intro F18.out.2.1 (And.intro F18.out.2.2.1 (And.intro (F18.out.2.2.2.1.keepY hzb) (And.intro F18.out.2.2.2.2.1 (And.intro F18.out.2.2.2.2.2.1 (And.intro F18.out.2.2.2.2.2.2.1 (And.intro (F18.out.2.2.2.2.2.2.2.1.keepY hzb) (And.intro (F18.out.2.2.2.2.2.2.2.2.1.keepU hzb) (And.intro F18.out.2.2.2.2.2.2.2.2.2.1 (And.intro (F18.out.2.2.2.2.2.2.2.2.2.2.1.keep hzb) (And.intro (F18.out.2.2.2.2.2.2.2.2.2.2.2.1.keep hzb) (And.intro (F18.out.2.2.2.2.2.2.2.2.2.2.2.2.1.keep hzb) (And.intro (F18.out.2.2.2.2.2.2.2.2.2.2.2.2.2.1.keep hzb) (And.intro (F18.out.2.2.2.2.2.2.2.2.2.2.2.2.2.2.1.keepY hzb) (And.intro F18.out.2.2.2.2.2.2.2.2.2.2.2.2.2.2.2 (hO)))))))))))))))))
  clear F18
  clear hwz hsz hal hzb hO
  obtain ⟨gl, ol, el, hgl, hatl⟩ := F19.out.2.2.2.2.2.2.2.2.1.sl.at (show 0 < 1 by omega)
  dsimp only at el
  subst el
  have l1 := hatl 1 (by decide)
  have m0 := F19.out.2.2.2.2.2.2.2.2.2.2.1.x 0 (by decide)
  have m1 := F19.out.2.2.2.2.2.2.2.2.2.2.1.y 4 (by decide)
  have m2 := F19.out.2.2.2.2.2.2.2.2.2.2.1.z 4 (by decide)
  simp only [RUp, Nat.zero_mul, Nat.add_zero, List.getD_cons_zero, List.getElem?_cons_zero, List.getElem?_cons_succ, F19.out.2.2.2.2.2.2.2.2.2.1, HU.out.2.1, HU.out.2.2.2.1, HU.out.2.2.2.2] at l1 m0 m1 m2
  have p4 := cell_of (o := 4) F19.out.2.2.2.2.2.2.2.2.2.2.2.2.2.2.2.2 rfl
  have p5 := cell_of (o := 5) F19.out.2.2.2.2.2.2.2.2.2.2.2.2.2.2.2.2 rfl
  have p6 := cell_of (o := 6) F19.out.2.2.2.2.2.2.2.2.2.2.2.2.2.2.2.2 rfl
  have p7 := cell_of (o := 7) F19.out.2.2.2.2.2.2.2.2.2.2.2.2.2.2.2.2 rfl
  clear hgl hatl
  go_wp2_with fail
  refine (rsortY_any F19.out.2.2.2.2.2.2.2.1.sl (by show 3 ≤ 16384; omega)).mono ?_
  rintro e V7 ⟨v, rfl, ho, hb⟩
  obtain ⟨⟨sa, sn, sc, sl⟩, rfl, hs1, hs2, -, -⟩ := Own_slok (ok := SyOk) ho (fun x hx => (F19.out.2.2.2.2.2.2.2.1.keepY hb).all x ((sortK_perm _).mem_iff.1 hx))
  dsimp only at hs1
  subst hs1
  have F20 := Lib.hid (And.intro (bcall F19.out.1 (Nat.le_refl _) hb) (And.intro F19.out.2.1 (And.intro F19.out.2.2.1 (And.intro (F19.out.2.2.2.1.keepY hb) (And.intro F19.out.2.2.2.2.1 (And.intro F19.out.2.2.2.2.2.1 (And.intro F19.out.2.2.2.2.2.2.1 (And.intro (F19.out.2.2.2.2.2.2.2.1.keepY hb) (And.intro (F19.out.2.2.2.2.2.2.2.2.1.keepU hb) (And.intro F19.out.2.2.2.2.2.2.2.2.2.1 (And.intro (F19.out.2.2.2.2.2.2.2.2.2.2.1.keep hb) (And.intro (F19.out.2.2.2.2.2.2.2.2.2.2.2.1.keep hb) (And.intro (F19.out.2.2.2.2.2.2.2.2.2.2.2.2.1.keep hb) (And.intro (F19.out.2.2.2.2.2.2.2.2.2.2.2.2.2.1.keep hb) (And.intro (F19.out.2.2.2.2.2.2.2.2.2.2.2.2.2.2.1.keepY hb) (And.intro F19.out.2.2.2.2.2.2.2.2.2.2.2.2.2.2.2.1 (And.intro ((hb.block _ (lt_of_blk F19.out.2.2.2.2.2.2.2.2.2.2.2.2.2.2.2.2)).trans F19.out.2.2.2.2.2.2.2.2.2.2.2.2.2.2.2.2) (hs2))))))))))))))))))
  clear F19
  clear hb ho hs2 l1 m0 m1 m2 p4 p5 p6 p7
  go_wp2_with fail
  refine (rsameY_any F20.out.2.2.2.2.2.2.2.2.2.2.2.2.2.2.1 F20.out.2.2.2.2.2.2.2.2.2.2.2.2.2.2.2.2.2).mono ?_
  rw [HFIN.out, show List.map SyV.sy (sortK SyV.k [x3, x4, x5]) = sortK Sy.k LB from by rw [sortK_map (key := SyV.k) (key' := Sy.k) SyV.sy (fun _ => rfl), HE.out.2.1], show decide (sortK Sy.k LB = sortK Sy.k LB) = true from decide_eq_true rfl]
  rintro e V8 ⟨rfl, hb⟩
  have F21 := Lib.hid (And.intro (bcall F20.out.1 (Nat.le_refl _) hb) (And.intro F20.out.2.1 (And.intro F20.out.2.2.1 (And.intro (F20.out.2.2.2.1.keepY hb) (And.intro F20.out.2.2.2.2.1 (And.intro F20.out.2.2.2.2.2.1 (And.intro F20.out.2.2.2.2.2.2.1 (And.intro (F20.out.2.2.2.2.2.2.2.1.keepY hb) (And.intro (F20.out.2.2.2.2.2.2.2.2.1.keepU hb) (And.intro F20.out.2.2.2.2.2.2.2.2.2.1 (And.intro (F20.out.2.2.2.2.2.2.2.2.2.2.1.keep hb) (And.intro (F20.out.2.2.2.2.2.2.2.2.2.2.2.1.keep hb) (And.intro (F20.out.2.2.2.2.2.2.2.2.2.2.2.2.1.keep hb) (And.intro (F20.out.2.2.2.2.2.2.2.2.2.2.2.2.2.1.keep hb) (And.intro F20.out.2.2.2.2.2.2.2.2.2.2.2.2.2.2.2.1 (((hb.block _ (lt_of_blk F20.out.2.2.2.2.2.2.2.2.2.2.2.2.2.2.2.2.1)).trans F20.out.2.2.2.2.2.2.2.2.2.2.2.2.2.2.2.2.1)))))))))))))))))
  clear F20
  clear hb
  have p4 := cell_of (o := 4) F21.out.2.2.2.2.2.2.2.2.2.2.2.2.2.2.2 rfl
  have p5 := cell_of (o := 5) F21.out.2.2.2.2.2.2.2.2.2.2.2.2.2.2.2 rfl
  have p6 := cell_of (o := 6) F21.out.2.2.2.2.2.2.2.2.2.2.2.2.2.2.2 rfl
  have p7 := cell_of (o := 7) F21.out.2.2.2.2.2.2.2.2.2.2.2.2.2.2.2 rfl
  have HK := Lib.hid (dcheckY_any F21.out.2.2.2.2.2.2.2.1 true)
  rw [HE.out.2.1, okLB] at HK
  have e0 : (errI true 1 : Int) = 0 := rfl
  go_wp2_with fail
  refine (HK.out).mono ?_
  rintro e V9 ⟨rfl, hb⟩
  have F22 := Lib.hid (And.intro (bcall F21.out.1 (Nat.le_refl _) hb) (And.intro F21.out.2.1 (And.intro F21.out.2.2.1 (And.intro (F21.out.2.2.2.1.keepY hb) (And.intro F21.out.2.2.2.2.1 (And.intro F21.out.2.2.2.2.2.1 (And.intro F21.out.2.2.2.2.2.2.1 (And.intro (F21.out.2.2.2.2.2.2.2.1.keepY hb) (And.intro (F21.out.2.2.2.2.2.2.2.2.1.keepU hb) (And.intro F21.out.2.2.2.2.2.2.2.2.2.1 (And.intro (F21.out.2.2.2.2.2.2.2.2.2.2.1.keep hb) (And.intro (F21.out.2.2.2.2.2.2.2.2.2.2.2.1.keep hb) (And.intro (F21.out.2.2.2.2.2.2.2.2.2.2.2.2.1.keep hb) (And.intro (F21.out.2.2.2.2.2.2.2.2.2.2.2.2.2.1.keep hb) (And.intro F21.out.2.2.2.2.2.2.2.2.2.2.2.2.2.2.1 (((hb.block _ (lt_of_blk F21.out.2.2.2.2.2.2.2.2.2.2.2.2.2.2.2)).trans F21.out.2.2.2.2.2.2.2.2.2.2.2.2.2.2.2)))))))))))))))))
  clear F21
  clear hb p4 p5 p6 p7 HK
  go_wp2_with fail
  go_ret
  exact ⟨rfl, F22.out.1⟩
end Go.Proofs.Ytadoflcomienoaa
/- DiffUpdates. -/
namespace Go.Proofs.Ytadoflcomienoaa
open Go.RowKit

theorem small_of {w : World} {sa : Option Addr} {sn sc : Nat} {sl : List SyV} (h : SlOk RSy SyOk w ⟨sa, sn, sc, sl⟩) (hl : largeY (sl.map SyV.sy) = false) : sn ≤ 60 := by
  unfold largeY at hl
  rw [Bool.or_eq_false_iff, decide_eq_false_iff_not, List.length_map] at hl
  have h1 : sn = sl.length := h.sl.len
  omega
end Go.Proofs.Ytadoflcomienoaa
/- DiffTells. -/
namespace Go.Proofs.Ytadoflcomienoaa
open Go.RowKit

theorem ups_len {four : Bool} {was is : List Sy} (_hi : okY four is = true) : (upsI szN (asz four) was is).length ≤ was.length + is.length := by
  unfold upsI
  rw [List.length_append]
  have h1 := goneI_len (goingI was is)
  have h2 := comeI_lenA (sz := szN) (asz := asz four) (newsI was is).length (newsI was is)
  have h3 : (goingI was is).length ≤ was.length := by
    unfold goingI
    rw [List.length_map]
    refine Nat.le_trans (List.length_filter_le _ _) ?_
    rw [sortK_length]
    exact Nat.le_refl _
  have h4 : (newsI was is).length ≤ is.length := by
    unfold newsI
    refine Nat.le_trans (List.length_filter_le _ _) ?_
    rw [sortK_length]
    exact Nat.le_refl _
  omega
/-- behind the first i updates -/
structure TlI (was : List Sy) (us : List Up) (i : Nat) (S : List SyV) : Prop where
  look : lookA (S.map SyV.sy) = foldF (us.take i) (lookA was)
  sm : ∀ s ∈ S, smAt s.a.at
  len : S.length ≤ 60 + 60 * i
  ord : 0 < i → Kl.Ordered (ltB SyV.k) S
  fst : i = 0 → S.map SyV.sy = was
theorem TlI.step {was : List Sy} {us : List Up} {i : Nat} {S O : List SyV} {u : Up} (h : TlI was us i S) (hi : i < us.length) (hu : us.getD i default = u) (hO : Kl.Ordered (ltB SyV.k) O) (hl : ∀ k, lookA (O.map SyV.sy) k = appF u (lookA (S.map SyV.sy)) k) (hs : ∀ s ∈ O, smAt s.a.at) (hn : O.length ≤ S.length + 60) : TlI was us (i + 1) O := by
  refine ⟨?_, hs, by have := h.len; omega, fun _ => hO, fun e => by omega⟩
  funext k
  rw [hl k, h.look, take_snoc us i hi, hu, foldF_append]
  rfl
theorem TlI.done {four : Bool} {was is : List Sy} {i : Nat} {S : List SyV} (h : TlI was (upsI szN (asz four) was is) i S) (hw : okY four was = true) (hk : okY four is = true) (hi : i = (upsI szN (asz four) was is).length) (h0 : 0 < i) : S.map SyV.sy = sortK Sy.k is := by
  have hl := h.look
  rw [hi, List.take_length, tells hw hk] at hl
  exact sorted_eq (List.pairwise_map.2 (h.ord h0)) (okY_all.1 hk).2 hl
theorem TlI.none {four : Bool} {was is : List Sy} {i : Nat} {S : List SyV} (h : TlI was (upsI szN (asz four) was is) i S) (hw : okY four was = true) (hk : okY four is = true) (hi : i = (upsI szN (asz four) was is).length) (h0 : i = 0) : (sortK SyV.k S).map SyV.sy = sortK Sy.k is := by
  have hl := h.look
  rw [hi, List.take_length, tells hw hk] at hl
  have e := h.fst h0
  rw [sortK_map (key := SyV.k) (key' := Sy.k) SyV.sy (fun _ => rfl), e]
  rw [e] at hl
  refine sorted_eq (sortK_ord (okY_all.1 hw).2) (okY_all.1 hk).2 ?_
  rw [← hl]
  funext k
  unfold lookA
  rw [look_sortK (okY_all.1 hw).2]
end Go.Proofs.Ytadoflcomienoaa
/- DiffBack. -/
namespace Go.Proofs.Ytadoflcomienoaa
open Go.RowKit

/-- behind the first i of some updates -/
structure BkI (f : PK → Option At) (us : List Up) (i n0 : Nat) (S : List SyV) : Prop where
  look : lookA (S.map SyV.sy) = foldF (us.take i) f
  sm : ∀ s ∈ S, smAt s.a.at
  len : S.length ≤ n0 + 60 * i
  ord : Kl.Ordered (ltB SyV.k) S
theorem BkI.step {f : PK → Option At} {us : List Up} {i n0 : Nat} {S O : List SyV} {u : Up} (h : BkI f us i n0 S) (hi : i < us.length) (hu : us.getD i default = u) (hO : Kl.Ordered (ltB SyV.k) O) (hl : ∀ k, lookA (O.map SyV.sy) k = appF u (lookA (S.map SyV.sy)) k) (hs : ∀ s ∈ O, smAt s.a.at) (hn : O.length ≤ S.length + 60) : BkI f us (i + 1) n0 O := by
  refine ⟨?_, hs, by have := h.len; omega, hO⟩
  funext k
  rw [hl k, h.look, take_snoc us i hi, hu, foldF_append]
  rfl
theorem BkI.done {f : PK → Option At} {us : List Up} {i n0 : Nat} {S : List SyV} (h : BkI f us i n0 S) (hi : i = us.length) : lookA (S.map SyV.sy) = foldF us f := by
  rw [h.look, hi, List.take_length]
def upZV : UpV := ⟨⟨none, 0, 0, []⟩, ⟨none, 0, 0, []⟩, atZV, false⟩
theorem upZ_ok (w : World) : UpOk w upZV := ⟨slZ, slZ, atZ_ok w⟩
set_option maxRecDepth 100000 in
set_option maxHeartbeats 16000000 in
theorem back_law {w : World} {wa ia : Option Addr} {wn wc jn jc : Nat} {wl il : List SyV} (four : Bool) (hw : SlOk RSy SyOk w ⟨wa, wn, wc, wl⟩) (hi : SlOk RSy SyOk w ⟨ia, jn, jc, il⟩) : Calls Try.prog 4 #[.slice wa wn wc, .slice ia jn jc, .bool four] w fun e w' => e = .returned (.bool true) ∧ Below w.heap.size w w' := by
  have H0 := Lib.hid (And.intro hw hi)
  have HL1 := Lib.hid (rlargeY_any hw)
  obtain ⟨b1, hb1⟩ : ∃ b, largeY (wl.map SyV.sy) = b := ⟨_, rfl⟩
  rw [hb1] at HL1
  have HB1 := Lib.hid hb1
  clear hw hi hb1
  go_enter Try.func4, Try.ntmps4
  go_wp2_with fail
  refine (HL1.out).mono ?_
  rintro e w1 ⟨rfl, hb⟩
  have F := Lib.hid hb
  clear hb HL1
  cases b1 with
  | true =>
    go_wp2_with fail
    refine (lives24 _).mono ?_
    rintro e w9 ⟨rfl, hb⟩
    have F9 := Lib.hid (bcall F.out (Nat.le_refl _) hb)
    clear hb
    go_wp2_with fail
    go_ret
    exact ⟨rfl, F9.out⟩
  | false =>
    have HL2 := Lib.hid (rlargeY_any (H0.out.2.keepY F.out))
    obtain ⟨b2, hb2⟩ : ∃ b, largeY (il.map SyV.sy) = b := ⟨_, rfl⟩
    rw [hb2] at HL2
    have HB2 := Lib.hid hb2
    clear hb2
    go_wp2_with fail
    refine (HL2.out).mono ?_
    rintro e w2 ⟨rfl, hb⟩
    have FN := Lib.hid (bcall F.out (Nat.le_refl _) hb)
    clear hb HL2 F
    have F := FN
    clear FN
    cases b2 with
    | true =>
      go_wp2_with fail
      refine (lives24 _).mono ?_
      rintro e w9 ⟨rfl, hb⟩
      have F9 := Lib.hid (bcall F.out (Nat.le_refl _) hb)
      clear hb
      go_wp2_with fail
      go_ret
      exact ⟨rfl, F9.out⟩
    | false =>
      have HC1 := Lib.hid (rcheckY_any (H0.out.1.keepY F.out) four)
      obtain ⟨k1, hk1⟩ : ∃ b, okY four (wl.map SyV.sy) = b := ⟨_, rfl⟩
      rw [hk1] at HC1
      have HK1 := Lib.hid hk1
      clear hk1
      go_wp2_with fail
      refine (HC1.out).mono ?_
      rintro e w3 ⟨rfl, hb⟩
      have FN := Lib.hid (bcall F.out (Nat.le_refl _) hb)
      clear hb HC1 F
      have F := FN
      clear FN
      cases k1 with
      | false =>
        go_wp2_with fail
        refine (lives24 _).mono ?_
        rintro e w9 ⟨rfl, hb⟩
        have F9 := Lib.hid (bcall F.out (Nat.le_refl _) hb)
        clear hb
        go_wp2_with fail
        go_ret
        exact ⟨rfl, F9.out⟩
      | true =>
        have HC2 := Lib.hid (rcheckY_any (H0.out.2.keepY F.out) four)
        obtain ⟨k2, hk2⟩ : ∃ b, okY four (il.map SyV.sy) = b := ⟨_, rfl⟩
        rw [hk2] at HC2
        have HK2 := Lib.hid hk2
        clear hk2
        go_wp2_with fail
        refine (HC2.out).mono ?_
        rintro e w4 ⟨rfl, hb⟩
        have FN := Lib.hid (bcall F.out (Nat.le_refl _) hb)
        clear hb HC2 F
        have F := FN
        clear FN
        cases k2 with
        | false =>
          go_wp2_with fail
          refine (lives24 _).mono ?_
          rintro e w9 ⟨rfl, hb⟩
          have F9 := Lib.hid (bcall F.out (Nat.le_refl _) hb)
          clear hb
          go_wp2_with fail
          go_ret
          exact ⟨rfl, F9.out⟩
        | true =>
          have hn1 := small_of H0.out.1 HB1.out
          have hn2 := small_of H0.out.2 HB2.out
          have HN := Lib.hid (And.intro hn1 hn2)
          clear hn1 hn2
          have HU := Lib.hid (dupdates_any (H0.out.1.keepY F.out) (H0.out.2.keepY F.out) HK1.out HK2.out (by have := HN.out; omega) (by have := HN.out; omega))
          go_wp2_with fail
          refine (HU.out).mono ?_
          rintro e w5 ⟨v, M, rfl, ho, hm, hb⟩
          obtain ⟨⟨la, ln, lc, ll⟩, rfl, hl1, hl2, -, -⟩ := ho.slok
          dsimp only at hl1
          subst hl1
          have F3 := Lib.hid (And.intro (bcall F.out (Nat.le_refl _) hb) (And.intro hl2 hm))
          clear ho hm hb hl2 HU F
          have HU := Lib.hid (dupdates_any (H0.out.2.keepY F3.out.1) (H0.out.1.keepY F3.out.1) HK2.out HK1.out (by have := HN.out; omega) (by have := HN.out; omega))
          go_wp2_with fail
          refine (HU.out).mono ?_
          rintro e w6 ⟨v, M, rfl, ho, hm, hb⟩
          obtain ⟨⟨na, nn, nc, nl⟩, rfl, hl1, hl2, -, -⟩ := ho.slok
          dsimp only at hl1
          subst hl1
          have F4 := Lib.hid (And.intro (bcall F3.out.1 (Nat.le_refl _) hb) (And.intro (And.intro (F3.out.2.1.keepU hb) F3.out.2.2) (And.intro hl2 hm)))
          clear ho hm hb hl2 HU F3
          have hln : ln = ll.length := F4.out.2.1.1.sl.len
          have hnn : nn = nl.length := F4.out.2.2.1.sl.len
          have hlu : ll.length = (upsI szN (asz four) (wl.map SyV.sy) (il.map SyV.sy)).length := by rw [← F4.out.2.1.2, List.length_map]
          have hnu : nl.length = (upsI szN (asz four) (il.map SyV.sy) (wl.map SyV.sy)).length := by rw [← F4.out.2.2.2, List.length_map]
          have hl120 : ln ≤ 120 ∧ nn ≤ 120 := by
            have h1 := ups_len (was := wl.map SyV.sy) (HK2.out)
            have h1' := ups_len (was := il.map SyV.sy) (HK1.out)
            rw [List.length_map, List.length_map] at h1 h1'
            have h2 : wn = wl.length := H0.out.1.sl.len
            have h3 : jn = il.length := H0.out.2.sl.len
            have h4 := HN.out
            omega
          have HLN := Lib.hid (And.intro hln (And.intro hlu (And.intro hnn hnu)))
          have hl1 := hl120.1
          have hl2 := hl120.2
          clear hln hlu hnn hnu hl120
          have HA := Lib.hid (dapply_any (H0.out.1.keepY F4.out.1) (upZ_ok w6) (fun s hs => sm_ok (okA_of ((okY_iff.1 HK1.out).1 s hs))) sm_zero (by show wn + 0 ≤ 16384; have := HN.out; omega))
          unfold upZV UpV.v atZV at HA
          dsimp only at HA
          go_wp2_with fail
          refine (HA.out).mono ?_
          rintro e w7 ⟨v, O, rfl, ho, hord, hlk, hsm, hle, hb⟩
          obtain ⟨⟨p0, p1, p2, p3⟩, rfl, hp1, hp2, -, -⟩ := ho.slok
          dsimp only at hp1
          subst hp1
          have hB0 : BkI (lookA (wl.map SyV.sy)) (upsI szN (asz four) (wl.map SyV.sy) (il.map SyV.sy)) 0 60 p3 := ⟨by
            rw [List.take_zero]
            funext k
            rw [hlk k]
            rfl, hsm, by have h4 := HN.out; omega, hord⟩
          have F5 := Lib.hid (And.intro (bcall F4.out.1 (Nat.le_refl _) hb) (And.intro (F4.out.2.1.1.keepU hb) (And.intro (F4.out.2.2.1.keepU hb) (And.intro hp2 hB0))))
          have HM := Lib.hid (And.intro F4.out.2.1.2 F4.out.2.2.2)
          clear ho hord hlk hsm hle hb hp2 hB0 HA F4
          go_wp2_with fail
          go_loopw [11, 12] (fun sv iv wr => ∃ (i : Nat) (S : SlV SyV), i ≤ ln ∧ iv = .int .i64 i ∧ sv = .slice S.a S.n S.c ∧ SlOk RSy SyOk wr S ∧ BkI (lookA (wl.map SyV.sy)) (upsI szN (asz four) (wl.map SyV.sy) (il.map SyV.sy)) i 60 S.l ∧ Below w7.heap.size w7 wr) (fun _ iv _ => ln - (intOf iv).toNat)
          case atStart => exact ⟨0, ⟨p0, p1, p2, p3⟩, Nat.zero_le _, rfl, rfl, F5.out.2.2.2.1, F5.out.2.2.2.2, Below.refl _ _⟩
          case round =>
            obtain ⟨i, ⟨ta, tn, tc, tl⟩, hi, rfl, rfl, hs, ht, hb⟩ := hrel
            dsimp only at *
            obtain ⟨w8, rfl⟩ : ∃ w8 : World, w8 = wr := ⟨_, rfl⟩
            by_cases hlt : i < ln
            · have hil : ((i : Int) < (ln : Int)) = True := by simp; omega
              have hi0 : ((0 : Int) ≤ (i : Int)) = True := by simp
              have hw3 := wrapS hlt (show ln ≤ maxLen by unfold maxLen; omega)
              have hlL : i < ll.length := by rw [← HLN.out.1]; exact hlt
              have hsl := F5.out.2.1.keepU hb
              obtain ⟨b, o, ea, hbb, hat⟩ := hsl.sl.at hlt
              dsimp only at ea
              subst ea
              obtain ⟨u, hu⟩ : ∃ u, ll.getD i default = u := ⟨_, rfl⟩
              dsimp only at hat
              rw [hu] at hat
              have hmem : u ∈ ll := by rw [← hu]; exact getD_mem hlL
              have huo : UpOk w8 u := hsl.all u hmem
              have hup : u.up ∈ upsI szN (asz four) (wl.map SyV.sy) (il.map SyV.sy) := by rw [← HM.out.1]; exact List.mem_map_of_mem hmem
              have hck := ups_chk HK1.out HK2.out u.up hup
              have hrn : u.r.n ≤ 60 := by
                have h1 : u.r.n = u.r.l.length := huo.r.sl.len
                have h2 : u.r.l.length ≤ (il.map SyV.sy).length := hck.2.2
                rw [List.length_map] at h2
                have h3 : jn = il.length := H0.out.2.sl.len
                have h4 := HN.out
                omega
              have hgd : (upsI szN (asz four) (wl.map SyV.sy) (il.map SyV.sy)).getD i default = u.up := by
                rw [← HM.out.1, ← hu]
                simp [List.getD_eq_getElem?_getD, List.getElem?_map, List.getElem?_eq_getElem hlL]
              have htn : tn = tl.length := hs.sl.len
              have htl := ht.len
              have HA := Lib.hid (dapply_any hs huo ht.sm hck.2.1 (show tn + u.r.n ≤ 16384 by omega))
              have G := Lib.hid (And.intro ht (And.intro hb (And.intro hrn (And.intro hgd (And.intro hlt (And.intro (show i < (upsI szN (asz four) (wl.map SyV.sy) (il.map SyV.sy)).length by rw [← HLN.out.2.1]; exact hlL) htn))))))
              have c0 := hat 0 (by decide)
              have c1 := hat 1 (by decide)
              have c2 := hat 2 (by decide)
              have c3 := hat 3 (by decide)
              have c4 := hat 4 (by decide)
              have c5 := hat 5 (by decide)
              have c6 := hat 6 (by decide)
              have c7 := hat 7 (by decide)
              have c8 := hat 8 (by decide)
              simp only [RUp, Nat.add_zero, List.getElem?_cons_zero, List.getElem?_cons_succ] at c0 c1 c2 c3 c4 c5 c6 c7 c8
              unfold UpV.v at HA
              clear hs ht hb hat hbb hsl hlL hu hmem huo hup hck hrn hgd htn htl hi
              go_wp2_with fail
              refine (HA.out).mono ?_
              rintro e V2 ⟨v, O, rfl, ho, hord, hlk, hsm, hle, hb⟩
              obtain ⟨⟨pa, pn, pc, pl⟩, rfl, hp1, hp2, -, -⟩ := ho.slok
              dsimp only at hp1
              subst hp1
              have HF := Lib.hid (And.intro hp2 (And.intro (G.out.1.step G.out.2.2.2.2.2.1 G.out.2.2.2.1 hord hlk hsm (by have h1 := G.out.2.2.1; have h2 := G.out.2.2.2.2.2.2; omega)) (bcall G.out.2.1 (Nat.le_refl _) hb)))
              have hlt := G.out.2.2.2.2.1
              clear ho hord hlk hsm hle hb hp2 HA c0 c1 c2 c3 c4 c5 c6 c7 c8
              go_wp2_with fail
              exact ⟨⟨i + 1, ⟨pa, pn, pc, pl⟩, hlt, by first | rw [hw3] | rw [Int.natCast_succ], rfl, HF.out⟩, by first | (rw [hw3]; exact mSucc hlt) | (rw [← Int.natCast_succ]; exact mSucc hlt)⟩
            · obtain rfl : i = ln := by omega
              have hil : ((i : Int) < (i : Int)) = False := by simp
              have hfin := ht.done (by rw [HLN.out.1, HLN.out.2.1])
              rw [tells HK1.out HK2.out] at hfin
              have hB0 : BkI (lookA (il.map SyV.sy)) (upsI szN (asz four) (il.map SyV.sy) (wl.map SyV.sy)) 0 8000 tl := ⟨hfin, ht.sm, by have := ht.len; omega, ht.ord⟩
              have F6 := Lib.hid (And.intro (bcall F5.out.1 (Nat.le_refl _) hb) (And.intro (F5.out.2.2.1.keepU hb) (And.intro hs hB0)))
              clear hb hs ht hi hlt hfin hB0 F5
              go_wp2_with fail
              go_loopw [11, 13] (fun sv iv wr => ∃ (i : Nat) (S : SlV SyV), i ≤ nn ∧ iv = .int .i64 i ∧ sv = .slice S.a S.n S.c ∧ SlOk RSy SyOk wr S ∧ BkI (lookA (il.map SyV.sy)) (upsI szN (asz four) (il.map SyV.sy) (wl.map SyV.sy)) i 8000 S.l ∧ Below w8.heap.size w8 wr) (fun _ iv _ => nn - (intOf iv).toNat)
              case atStart => exact ⟨0, ⟨ta, tn, tc, tl⟩, Nat.zero_le _, rfl, rfl, F6.out.2.2.1, F6.out.2.2.2, Below.refl _ _⟩
              case round =>
                obtain ⟨k, ⟨ta2, tn2, tc2, tl2⟩, hk, rfl, rfl, hs, ht, hb⟩ := hrel
                dsimp only at *
                obtain ⟨w9, rfl⟩ : ∃ w9 : World, w9 = wr := ⟨_, rfl⟩
                by_cases hlt : k < nn
                · have hil : ((k : Int) < (nn : Int)) = True := by simp; omega
                  have hi0 : ((0 : Int) ≤ (k : Int)) = True := by simp
                  have hw3 := wrapS hlt (show nn ≤ maxLen by unfold maxLen; omega)
                  have hlL : k < nl.length := by rw [← HLN.out.2.2.1]; exact hlt
                  have hsl := F6.out.2.1.keepU hb
                  obtain ⟨b, o, ea, hbb, hat⟩ := hsl.sl.at hlt
                  dsimp only at ea
                  subst ea
                  obtain ⟨u, hu⟩ : ∃ u, nl.getD k default = u := ⟨_, rfl⟩
                  dsimp only at hat
                  rw [hu] at hat
                  have hmem : u ∈ nl := by rw [← hu]; exact getD_mem hlL
                  have huo : UpOk w9 u := hsl.all u hmem
                  have hup : u.up ∈ upsI szN (asz four) (il.map SyV.sy) (wl.map SyV.sy) := by rw [← HM.out.2]; exact List.mem_map_of_mem hmem
                  have hck := ups_chk HK2.out HK1.out u.up hup
                  have hrn : u.r.n ≤ 60 := by
                    have h1 : u.r.n = u.r.l.length := huo.r.sl.len
                    have h2 : u.r.l.length ≤ (wl.map SyV.sy).length := hck.2.2
                    rw [List.length_map] at h2
                    have h3 : wn = wl.length := H0.out.1.sl.len
                    have h4 := HN.out
                    omega
                  have hgd : (upsI szN (asz four) (il.map SyV.sy) (wl.map SyV.sy)).getD k default = u.up := by
                    rw [← HM.out.2, ← hu]
                    simp [List.getD_eq_getElem?_getD, List.getElem?_map, List.getElem?_eq_getElem hlL]
                  have htn : tn2 = tl2.length := hs.sl.len
                  have htl := ht.len
                  have HA := Lib.hid (dapply_any hs huo ht.sm hck.2.1 (show tn2 + u.r.n ≤ 16384 by omega))
                  have G := Lib.hid (And.intro ht (And.intro hb (And.intro hrn (And.intro hgd (And.intro hlt (And.intro (show k < (upsI szN (asz four) (il.map SyV.sy) (wl.map SyV.sy)).length by rw [← HLN.out.2.2.2]; exact hlL) htn))))))
                  have c0 := hat 0 (by decide)
                  have c1 := hat 1 (by decide)
                  have c2 := hat 2 (by decide)
                  have c3 := hat 3 (by decide)
                  have c4 := hat 4 (by decide)
                  have c5 := hat 5 (by decide)
                  have c6 := hat 6 (by decide)
                  have c7 := hat 7 (by decide)
                  have c8 := hat 8 (by decide)
                  simp only [RUp, Nat.add_zero, List.getElem?_cons_zero, List.getElem?_cons_succ] at c0 c1 c2 c3 c4 c5 c6 c7 c8
                  unfold UpV.v at HA
                  clear hs ht hb hat hbb hsl hlL hu hmem huo hup hck hrn hgd htn htl hk
                  go_wp2_with fail
                  refine (HA.out).mono ?_
                  rintro e V2 ⟨v, O, rfl, ho, hord, hlk, hsm, hle, hb⟩
                  obtain ⟨⟨pa, pn, pc, pl⟩, rfl, hp1, hp2, -, -⟩ := ho.slok
                  dsimp only at hp1
                  subst hp1
                  have HF := Lib.hid (And.intro hp2 (And.intro (G.out.1.step G.out.2.2.2.2.2.1 G.out.2.2.2.1 hord hlk hsm (by have h1 := G.out.2.2.1; have h2 := G.out.2.2.2.2.2.2; omega)) (bcall G.out.2.1 (Nat.le_refl _) hb)))
                  have hlt := G.out.2.2.2.2.1
                  clear ho hord hlk hsm hle hb hp2 HA c0 c1 c2 c3 c4 c5 c6 c7 c8
                  go_wp2_with fail
                  exact ⟨⟨k + 1, ⟨pa, pn, pc, pl⟩, hlt, by first | rw [hw3] | rw [Int.natCast_succ], rfl, HF.out⟩, by first | (rw [hw3]; exact mSucc hlt) | (rw [← Int.natCast_succ]; exact mSucc hlt)⟩
                · obtain rfl : k = nn := by omega
                  have hil : ((k : Int) < (k : Int)) = False := by simp
                  have hfin := ht.done (by rw [HLN.out.2.2.1, HLN.out.2.2.2])
                  rw [tells HK2.out HK1.out] at hfin
                  have hres : List.map SyV.sy tl2 = sortK Sy.k (wl.map SyV.sy) := sorted_eq (List.pairwise_map.2 ht.ord) (okY_all.1 HK1.out).2 hfin
                  have F7 := Lib.hid (And.intro (bcall F6.out.1 (Nat.le_refl _) hb) (And.intro hs hres))
                  clear hb hs ht hk hlt hfin hres F6
                  go_wp2_with fail
                  refine (lives24 _).mono ?_
                  rintro e V6 ⟨rfl, hb⟩
                  have F8 := Lib.hid (And.intro (bcall F7.out.1 (Nat.le_refl _) hb) (And.intro (F7.out.2.1.keepY hb) F7.out.2.2))
                  clear hb F7
                  have HSI := Lib.hid (rsortY_any (H0.out.1.keepY F8.out.1).sl (by have := HN.out; show wn ≤ 16384; omega))
                  go_wp2_with fail
                  refine (HSI.out).mono ?_
                  rintro e V7 ⟨v, rfl, ho, hb⟩
                  obtain ⟨⟨ra, rn, rc, rl⟩, rfl, hr1, hr2, -, -⟩ := Own_slok (ok := SyOk) ho (fun x hx => (H0.out.1.keepY (bcall F8.out.1 (Nat.le_refl _) hb)).all x ((sortK_perm _).mem_iff.1 hx))
                  dsimp only at hr1
                  have HSM := Lib.hid (rsameY_any (F8.out.2.1.keepY hb) hr2)
                  rw [F8.out.2.2, hr1, sortK_map (key := SyV.k) (key' := Sy.k) SyV.sy (fun _ => rfl), show decide (sortK Sy.k (wl.map SyV.sy) = sortK Sy.k (wl.map SyV.sy)) = true from decide_eq_true rfl] at HSM
                  have F9 := Lib.hid (bcall F8.out.1 (Nat.le_refl _) hb)
                  clear ho hb hr1 hr2 HSI F8
                  go_wp2_with fail
                  refine (HSM.out).mono ?_
                  rintro e V8 ⟨rfl, hb⟩
                  have F10 := Lib.hid (bcall F9.out (Nat.le_refl _) hb)
                  clear hb HSM
                  go_wp2_with fail
                  go_ret
                  exact ⟨rfl, F10.out⟩
end Go.Proofs.Ytadoflcomienoaa
/- Arguments that come in: chapter 24. -/
namespace Go.Proofs.Ytadoflcomienoaa
open Go.ChangeShapes Go.WideShapes Go.ChangeAt Go.RowKit Go.Deep

theorem reads3 : Reads Try.prog 3 (fun n : Int => [.int .i64 n]) (fun _ n => I64 n) := (Reads.int Try.underlying3).conv fun _ n h => ⟨n, rfl, wf64 h⟩
theorem readsI : Reads Try.prog 3 RI.cells OkI := (Reads.int Try.underlying3).conv fun _ n h => ⟨n, rfl, wf64 h⟩
theorem readsBo : Reads Try.prog 4 (fun b : Bool => [.bool b]) (fun _ _ => True) := Reads.bool Try.underlying4
theorem readsU : Reads Try.prog 23 (fun n : Nat => [.int .u32 (n : Int)]) (fun _ n => n < 4294967296) := (Reads.int Try.underlying23).conv fun _ n h => ⟨n.toNat, by rw [Int.toNat_of_nonneg (wfu32 h).1], by have := wfu32 h; omega⟩
theorem readsV : Reads Try.prog 23 (fun n : Int => [.int .u32 n]) (fun _ n => 0 ≤ n ∧ n ≤ 4294967295) := (Reads.int Try.underlying23).conv fun _ n h => ⟨n, rfl, wfu32 h⟩
theorem readsIs : Reads Try.prog 24 (fun s : SlV Int => [.slice s.a s.n s.c]) (SlOk RI OkI) := Reads.slice (R := RI) Try.underlying24 (by kernel_rfl) readsI
set_option maxRecDepth 100000 in
theorem readsP : Reads Try.prog 33 (fun p : Nat × Int => [.int .u32 (p.1 : Int), .int .i64 p.2]) (fun _ p => p.1 < 4294967296 ∧ I64 p.2) :=
  ⟨fun {H enc w spare held fuel cs x} h => by
    obtain ⟨hl, hf⟩ := Reads.fields Try.underlying33 h
    rw [show Try.prog.cellsOf 33 = 2 by kernel_rfl] at hl
    obtain ⟨c0, c1, rfl⟩ : ∃ c0 c1, cs = [c0, c1] := by
      match cs, hl with
      | [c0, c1], _ => exact ⟨c0, c1, rfl⟩
    obtain ⟨n0, y0, h0⟩ := hf 0 _ rfl
    have h0 : DataW.trod enc Try.prog w 0 spare held n0 23 [c0] = some y0 := by
      have q : Try.prog.cellsOf 23 = 1 := by kernel_rfl
      have z : DataW.trod enc Try.prog w 0 spare held n0 23 (([c0, c1].drop 0).take (Try.prog.cellsOf 23)) = some y0 := h0
      rw [q] at z; exact z
    obtain ⟨a0, e0, k0⟩ := (readsU).read h0
    obtain ⟨n1, y1, h1⟩ := hf 1 _ rfl
    have h1 : DataW.trod enc Try.prog w 0 spare held n1 3 [c1] = some y1 := by
      have q : Try.prog.cellsOf 3 = 1 := by kernel_rfl
      have z : DataW.trod enc Try.prog w 0 spare held n1 3 (([c0, c1].drop 1).take (Try.prog.cellsOf 3)) = some y1 := h1
      rw [q] at z; exact z
    obtain ⟨a1, e1, k1⟩ := (reads3).read h1
    simp only [List.cons.injEq, and_true] at e0 e1
    subst e0
    subst e1
    exact ⟨(a0, a1), rfl, ⟨k0, k1⟩⟩⟩
set_option maxRecDepth 100000 in
theorem readsSg : Reads Try.prog 53 (RSg.cells) (SgOk) :=
  ⟨fun {H enc w spare held fuel cs x} h => by
    obtain ⟨hl, hf⟩ := Reads.fields Try.underlying53 h
    rw [show Try.prog.cellsOf 53 = 2 by kernel_rfl] at hl
    obtain ⟨c0, c1, rfl⟩ : ∃ c0 c1, cs = [c0, c1] := by
      match cs, hl with
      | [c0, c1], _ => exact ⟨c0, c1, rfl⟩
    obtain ⟨n0, y0, h0⟩ := hf 0 _ rfl
    have h0 : DataW.trod enc Try.prog w 0 spare held n0 4 [c0] = some y0 := by
      have q : Try.prog.cellsOf 4 = 1 := by kernel_rfl
      have z : DataW.trod enc Try.prog w 0 spare held n0 4 (([c0, c1].drop 0).take (Try.prog.cellsOf 4)) = some y0 := h0
      rw [q] at z; exact z
    obtain ⟨a0, e0, k0⟩ := (readsBo).read h0
    obtain ⟨n1, y1, h1⟩ := hf 1 _ rfl
    have h1 : DataW.trod enc Try.prog w 0 spare held n1 24 [c1] = some y1 := by
      have q : Try.prog.cellsOf 24 = 1 := by kernel_rfl
      have z : DataW.trod enc Try.prog w 0 spare held n1 24 (([c0, c1].drop 1).take (Try.prog.cellsOf 24)) = some y1 := h1
      rw [q] at z; exact z
    obtain ⟨a1, e1, k1⟩ := (readsIs).read h1
    simp only [List.cons.injEq, and_true] at e0 e1
    subst e0
    subst e1
    exact ⟨⟨a0, a1⟩, rfl, k1⟩⟩
theorem readsSgs : Reads Try.prog 22 (fun s : SlV SgV => [.slice s.a s.n s.c]) (SlOk RSg SgOk) := Reads.slice (R := RSg) Try.underlying22 (by kernel_rfl) readsSg
set_option maxRecDepth 100000 in
theorem readsAt : Reads Try.prog 26 (fun x : AtV => [.int .i64 x.o, .slice x.p.a x.p.n x.p.c, .int .u32 x.nx, .int .i64 x.md, .int .i64 x.pf, .slice x.c.a x.c.n x.c.c]) (AtOk) :=
  ⟨fun {H enc w spare held fuel cs x} h => by
    obtain ⟨hl, hf⟩ := Reads.fields Try.underlying26 h
    rw [show Try.prog.cellsOf 26 = 6 by kernel_rfl] at hl
    obtain ⟨c0, c1, c2, c3, c4, c5, rfl⟩ : ∃ c0 c1 c2 c3 c4 c5, cs = [c0, c1, c2, c3, c4, c5] := by
      match cs, hl with
      | [c0, c1, c2, c3, c4, c5], _ => exact ⟨c0, c1, c2, c3, c4, c5, rfl⟩
    obtain ⟨n0, y0, h0⟩ := hf 0 _ rfl
    have h0 : DataW.trod enc Try.prog w 0 spare held n0 3 [c0] = some y0 := by
      have q : Try.prog.cellsOf 3 = 1 := by kernel_rfl
      have z : DataW.trod enc Try.prog w 0 spare held n0 3 (([c0, c1, c2, c3, c4, c5].drop 0).take (Try.prog.cellsOf 3)) = some y0 := h0
      rw [q] at z; exact z
    obtain ⟨a0, e0, k0⟩ := (reads3).read h0
    obtain ⟨n1, y1, h1⟩ := hf 1 _ rfl
    have h1 : DataW.trod enc Try.prog w 0 spare held n1 22 [c1] = some y1 := by
      have q : Try.prog.cellsOf 22 = 1 := by kernel_rfl
      have z : DataW.trod enc Try.prog w 0 spare held n1 22 (([c0, c1, c2, c3, c4, c5].drop 1).take (Try.prog.cellsOf 22)) = some y1 := h1
      rw [q] at z; exact z
    obtain ⟨a1, e1, k1⟩ := (readsSgs).read h1
    obtain ⟨n2, y2, h2⟩ := hf 2 _ rfl
    have h2 : DataW.trod enc Try.prog w 0 spare held n2 23 [c2] = some y2 := by
      have q : Try.prog.cellsOf 23 = 1 := by kernel_rfl
      have z : DataW.trod enc Try.prog w 0 spare held n2 23 (([c0, c1, c2, c3, c4, c5].drop 2).take (Try.prog.cellsOf 23)) = some y2 := h2
      rw [q] at z; exact z
    obtain ⟨a2, e2, k2⟩ := (readsV).read h2
    obtain ⟨n3, y3, h3⟩ := hf 3 _ rfl
    have h3 : DataW.trod enc Try.prog w 0 spare held n3 3 [c3] = some y3 := by
      have q : Try.prog.cellsOf 3 = 1 := by kernel_rfl
      have z : DataW.trod enc Try.prog w 0 spare held n3 3 (([c0, c1, c2, c3, c4, c5].drop 3).take (Try.prog.cellsOf 3)) = some y3 := h3
      rw [q] at z; exact z
    obtain ⟨a3, e3, k3⟩ := (reads3).read h3
    obtain ⟨n4, y4, h4⟩ := hf 4 _ rfl
    have h4 : DataW.trod enc Try.prog w 0 spare held n4 3 [c4] = some y4 := by
      have q : Try.prog.cellsOf 3 = 1 := by kernel_rfl
      have z : DataW.trod enc Try.prog w 0 spare held n4 3 (([c0, c1, c2, c3, c4, c5].drop 4).take (Try.prog.cellsOf 3)) = some y4 := h4
      rw [q] at z; exact z
    obtain ⟨a4, e4, k4⟩ := (reads3).read h4
    obtain ⟨n5, y5, h5⟩ := hf 5 _ rfl
    have h5 : DataW.trod enc Try.prog w 0 spare held n5 24 [c5] = some y5 := by
      have q : Try.prog.cellsOf 24 = 1 := by kernel_rfl
      have z : DataW.trod enc Try.prog w 0 spare held n5 24 (([c0, c1, c2, c3, c4, c5].drop 5).take (Try.prog.cellsOf 24)) = some y5 := h5
      rw [q] at z; exact z
    obtain ⟨a5, e5, k5⟩ := (readsIs).read h5
    simp only [List.cons.injEq, and_true] at e0 e1 e2 e3 e4 e5
    subst e0
    subst e1
    subst e2
    subst e3
    subst e4
    subst e5
    exact ⟨⟨a0, a1, a2, a3, a4, a5⟩, rfl, ⟨k1, k5, k0, k2, k3, k4⟩⟩⟩
set_option maxRecDepth 100000 in
theorem readsSy : Reads Try.prog 35 (RSy.cells) (SyOk) :=
  ⟨fun {H enc w spare held fuel cs x} h => by
    obtain ⟨hl, hf⟩ := Reads.fields Try.underlying35 h
    rw [show Try.prog.cellsOf 35 = 8 by kernel_rfl] at hl
    obtain ⟨c0, c1, c2, c3, c4, c5, c6, c7, rfl⟩ : ∃ c0 c1 c2 c3 c4 c5 c6 c7, cs = [c0, c1, c2, c3, c4, c5, c6, c7] := by
      match cs, hl with
      | [c0, c1, c2, c3, c4, c5, c6, c7], _ => exact ⟨c0, c1, c2, c3, c4, c5, c6, c7, rfl⟩
    obtain ⟨n0, y0, h0⟩ := hf 0 _ rfl
    have h0 : DataW.trod enc Try.prog w 0 spare held n0 33 [c0, c1] = some y0 := by
      have q : Try.prog.cellsOf 33 = 2 := by kernel_rfl
      have z : DataW.trod enc Try.prog w 0 spare held n0 33 (([c0, c1, c2, c3, c4, c5, c6, c7].drop 0).take (Try.prog.cellsOf 33)) = some y0 := h0
      rw [q] at z; exact z
    obtain ⟨a0, e0, k0⟩ := (readsP).read h0
    obtain ⟨n1, y1, h1⟩ := hf 1 _ rfl
    have h1 : DataW.trod enc Try.prog w 0 spare held n1 26 [c2, c3, c4, c5, c6, c7] = some y1 := by
      have q : Try.prog.cellsOf 26 = 6 := by kernel_rfl
      have z : DataW.trod enc Try.prog w 0 spare held n1 26 (([c0, c1, c2, c3, c4, c5, c6, c7].drop 2).take (Try.prog.cellsOf 26)) = some y1 := h1
      rw [q] at z; exact z
    obtain ⟨a1, e1, k1⟩ := (readsAt).read h1
    simp only [List.cons.injEq, and_true] at e0 e1
    obtain ⟨rfl, rfl⟩ := e0
    obtain ⟨rfl, rfl, rfl, rfl, rfl, rfl⟩ := e1
    exact ⟨⟨a0, a1⟩, rfl, ⟨k0, k1⟩⟩⟩
theorem readsSys : Reads Try.prog 30 (fun s : SlV SyV => [.slice s.a s.n s.c]) (SlOk RSy SyOk) := Reads.slice (R := RSy) Try.underlying30 (by kernel_rfl) readsSy
theorem own : ownKnob Try.prog.godebug = none := by kernel_rfl
end Go.Proofs.Ytadoflcomienoaa
