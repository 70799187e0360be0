/- IpfixPuts. -/
import Derived.Test.YtjjhnnnpikfjpaaOc
namespace Go.Proofs.Ytjjhnnnpikfjpaa
open Go.RowKit

theorem pkB_bytes {w : World} {p : Pk} (hs : StsOk w p.ss) : Bytes (pkB p) := by
  intro x hx
  simp only [pkB, headB, bes, bodyB, setB, List.mem_append, List.mem_flatMap] at hx
  rcases hx with (⟨a, _, h⟩ | ⟨a, _, h⟩) | ⟨s, hs2, (h | h) | h⟩
  · exact be_bytes _ _ x h
  · exact be_bytes _ _ x h
  · exact be_bytes _ _ x h
  · exact be_bytes _ _ x h
  · exact (hs.all s hs2).2.all x h
theorem pkB_len {w : World} {p : Pk} (hs : StsOk w p.ss) (hok : okP p = true) : (pkB p).length ≤ 65535 := by
  obtain ⟨-, hz⟩ := okP_nat hok
  obtain ⟨hz1, -⟩ := sz_ok p.ss.l 16 hz
  rw [pkB, List.length_append, headB_length, bodyB_length p.ss.l hs.all]
  omega
def PutS (b1 : Nat) (c1 : Array Value) (b2 : Nat) (c2 : Array Value) (oa : Option Addr) (n c : Nat) (l : List Nat) (w : World) : Prop := PkS b1 c1 w ∧ PkS b2 c2 w ∧ RB.Sl w oa n c l
set_option maxRecDepth 100000 in
set_option maxHeartbeats 4000000 in
theorem puts_any (p : Pk) (w : World) (hs : StsOk w p.ss) : Calls Try.prog 3 #[p.v] w fun e w' => e = .returned (.bool true) ∧ Below w.heap.size w w' := by
  have hal := (Below.refl w.heap.size w).alloc (Nat.le_refl _) (.cells #[.int .i64 p.tm, .int .i64 p.sq, .int .i64 p.dm, .slice p.ss.a p.ss.n p.ss.c] 24)
  have hb1 : PkS w.heap.size #[.int .i64 p.tm, .int .i64 p.sq, .int .i64 p.dm, .slice p.ss.a p.ss.n p.ss.c] (w.alloc (.cells #[.int .i64 p.tm, .int .i64 p.sq, .int .i64 p.dm, .slice p.ss.a p.ss.n p.ss.c] 24)) := hnew _ _
  have F0 := Lib.hid (And.intro hal (And.intro hb1 (hs.keep hal)))
  clear hal hb1 hs
  go_enter Try.func3, Try.ntmps3
  unfold Pk.v
  go_wp2_with fail
  generalize w.alloc (.cells #[.int .i64 p.tm, .int .i64 p.sq, .int .i64 p.dm, .slice p.ss.a p.ss.n p.ss.c] 24) = W1 at *
  obtain ⟨z0, z1, z2, z3⟩ := F0.out.2.1.cells
  go_wp2_with fail
  clear z0 z1 z2 z3
  refine (large_any p W1 F0.out.2.2).mono ?_
  rintro e W2 ⟨⟨b, rfl, hlg⟩, hb2⟩
  have F1 := Lib.hid (And.intro (bcall F0.out.1 (Nat.le_refl _) hb2) (And.intro (F0.out.2.1.on hb2) ((F0.out.2.2.keep hb2))))
  clear F0
  clear hb2
  cases b
  rotate_left
  · clear hlg
    go_wp2_with fail
    refine (lives_any _).mono ?_
    rintro e W3 ⟨rfl, hb3⟩
    have F2 := Lib.hid (And.intro (bcall F1.out.1 (Nat.le_refl _) hb3) (And.intro (F1.out.2.1.on hb3) ((F1.out.2.2.keep hb3))))
    clear F1
    clear hb3
    go_wp2_with fail
    go_ret
    exact ⟨rfl, F2.out.1⟩
  have HL := Lib.hid (hlg rfl)
  clear hlg
  rcases hok : okP p with _ | _
  · have hok := Lib.hid hok
    obtain ⟨z0, z1, z2, z3⟩ := F1.out.2.1.cells
    go_wp2_with fail
    clear z0 z1 z2 z3
    refine (put_bad p W2 F1.out.2.2 (fun x hx => Nat.le_trans (HL.out.1 x hx) (by omega)) hok.out).mono ?_
    rintro e W3 ⟨rfl, hb3⟩
    have F3 := Lib.hid (And.intro (bcall F1.out.1 (Nat.le_refl _) hb3) (And.intro (F1.out.2.1.on hb3) ((F1.out.2.2.keep hb3))))
    clear F1
    clear hb3
    go_wp2_with fail
    refine (lives_any _).mono ?_
    rintro e W4 ⟨rfl, hb4⟩
    have F4 := Lib.hid (And.intro (bcall F3.out.1 (Nat.le_refl _) hb4) (And.intro (F3.out.2.1.on hb4) ((F3.out.2.2.keep hb4))))
    clear F3
    clear hb4
    obtain ⟨z0, z1, z2, z3⟩ := F4.out.2.1.cells
    go_wp2_with fail
    clear z0 z1 z2 z3
    have hrc := rcheck_any p W4 F4.out.2.2 (fun x hx => Nat.le_trans (HL.out.1 x hx) (by omega))
    rw [hok.out] at hrc
    have HC := Lib.hid hrc
    clear hrc
    refine (HC.out).mono ?_
    rintro e W5 ⟨rfl, hb5⟩
    have F5 := Lib.hid (And.intro (bcall F4.out.1 (Nat.le_refl _) hb5) (And.intro (F4.out.2.1.on hb5) ((F4.out.2.2.keep hb5))))
    clear F4
    clear hb5 HC
    obtain ⟨z0, z1, z2, z3⟩ := F5.out.2.1.cells
    go_wp2_with fail
    clear z0 z1 z2 z3
    have hck := check_any p W5 F5.out.2.2 (fun x hx => Nat.le_trans (HL.out.1 x hx) (by omega))
    rw [hok.out, if_neg (by simp)] at hck
    have HC := Lib.hid hck
    clear hck
    refine (HC.out).mono ?_
    rintro e W6 ⟨rfl, hb6⟩
    have F6 := Lib.hid ((bcall F5.out.1 (Nat.le_refl _) hb6))
    clear F5
    clear hb6 HC
    go_wp2_with fail
    go_ret
    exact ⟨rfl, F6.out⟩
  · have hok := Lib.hid hok
    have HBY := Lib.hid (pkB_bytes F1.out.2.2)
    have HLN := Lib.hid (pkB_len F1.out.2.2 hok.out)
    obtain ⟨z0, z1, z2, z3⟩ := F1.out.2.1.cells
    go_wp2_with fail
    clear z0 z1 z2 z3
    refine (put_ok p W2 F1.out.2.2 hok.out (Nat.le_trans HL.out.2 (by omega))).mono ?_
    rintro e W3 ⟨⟨v3, rfl, ho3⟩, hb3⟩
    obtain ⟨oa3, c3, rfl, hs3⟩ := b5_own ho3
    obtain ⟨n3, hn3⟩ : ∃ n, (pkB p).length = n := ⟨_, rfl⟩
    rw [hn3] at hs3
    simp only [hn3]
    have HN := Lib.hid hn3
    clear hn3
    have F7 := Lib.hid (And.intro (bcall F1.out.1 (Nat.le_refl _) hb3) (And.intro (F1.out.2.1.on hb3) (And.intro (F1.out.2.2.keep hb3) (hs3))))
    clear F1
    clear hb3 hs3 ho3
    go_wp2_with fail
    refine (lives_any _).mono ?_
    rintro e W4 ⟨rfl, hb4⟩
    have F8 := Lib.hid (And.intro (bcall F7.out.1 (Nat.le_refl _) hb4) (And.intro (F7.out.2.1.on hb4) (And.intro (F7.out.2.2.1.keep hb4) ((F7.out.2.2.2.below hb4)))))
    clear F7
    clear hb4
    obtain ⟨z0, z1, z2, z3⟩ := F8.out.2.1.cells
    go_wp2_with fail
    clear z0 z1 z2 z3
    have hrc := rcheck_any p W4 F8.out.2.2.1 (fun x hx => Nat.le_trans (HL.out.1 x hx) (by omega))
    rw [hok.out] at hrc
    have HC := Lib.hid hrc
    clear hrc
    refine (HC.out).mono ?_
    rintro e W5 ⟨rfl, hb5⟩
    have F9 := Lib.hid (And.intro (bcall F8.out.1 (Nat.le_refl _) hb5) (And.intro (F8.out.2.1.on hb5) (And.intro (F8.out.2.2.1.keep hb5) ((F8.out.2.2.2.below hb5)))))
    clear F8
    clear hb5 HC
    go_wp2_with fail
    refine (get_pk F9.out.2.2.2.sl F9.out.2.2.2.nil HBY.out (by have := HLN.out; have := HN.out; omega)).mono ?_
    rintro e W6 ⟨⟨q, hsq, hor⟩, hb6⟩
    obtain ⟨Q, hQ, hisp⟩ := getP_pkB p F9.out.2.2.1 hok.out
    rw [hQ] at hor
    rcases hor with ⟨h, -⟩ | ⟨Q1, hQ1, hisq, rfl⟩
    · cases h
    injection hQ1 with hQ1
    subst hQ1
    have IP := Lib.hid (And.intro hisp hisq)
    clear hisp hisq hQ
    have F10 := Lib.hid (And.intro (bcall F9.out.1 (Nat.le_refl _) hb6) (And.intro (F9.out.2.1.on hb6) (And.intro (F9.out.2.2.1.keep hb6) (And.intro (F9.out.2.2.2.below hb6) (hsq)))))
    clear F9
    clear hb6 hsq
    simp only [Pk.v]
    have hal := (Below.refl W6.heap.size W6).alloc (Nat.le_refl _) (.cells #[.int .i64 q.tm, .int .i64 q.sq, .int .i64 q.dm, .slice q.ss.a q.ss.n q.ss.c] 24)
    have h4 : PkS W6.heap.size #[.int .i64 q.tm, .int .i64 q.sq, .int .i64 q.dm, .slice q.ss.a q.ss.n q.ss.c] (W6.alloc (.cells #[.int .i64 q.tm, .int .i64 q.sq, .int .i64 q.dm, .slice q.ss.a q.ss.n q.ss.c] 24)) := hnew _ _
    have F11 := Lib.hid (And.intro (bcall F10.out.1 (Nat.le_refl _) hal) (And.intro (F10.out.2.1.on hal) (And.intro (F10.out.2.2.1.keep hal) (And.intro (F10.out.2.2.2.1.below hal) (And.intro (F10.out.2.2.2.2.keep hal) (h4))))))
    clear F10
    clear hal h4
    go_wp2_with fail
    generalize W6.alloc (.cells #[.int .i64 q.tm, .int .i64 q.sq, .int .i64 q.dm, .slice q.ss.a q.ss.n q.ss.c] 24) = W7 at *
    generalize W6.heap.size = q6 at *
    refine wp_region_heldP (PutS w.heap.size #[.int .i64 p.tm, .int .i64 p.sq, .int .i64 p.dm, .slice p.ss.a p.ss.n p.ss.c] q6 #[.int .i64 q.tm, .int .i64 q.sq, .int .i64 q.dm, .slice q.ss.a q.ss.n q.ss.c] oa3 n3 c3 (pkB p)) (by kernel_rfl) ?_
    have hd := (Below.refl W7.heap.size W7).drew
    have F12 := Lib.hid (And.intro (bcall F11.out.1 (Nat.le_refl _) hd) (And.intro (F11.out.2.1.on hd) (And.intro (F11.out.2.2.1.keep hd) (And.intro (F11.out.2.2.2.1.below hd) (And.intro (F11.out.2.2.2.2.1.keep hd) ((F11.out.2.2.2.2.2.on hd)))))))
    clear F11
    clear hd
    generalize W7.drew = W8 at *
    refine held_reads [0, 1, 2, 3] (g := 21) rfl (by kernel_rfl) ⟨F12.out.2.1, F12.out.2.2.2.2.2, F12.out.2.2.2.1.sl⟩ (fun _ _ d _ _ h => by cases d <;> exact h) ?_
    simp only [pick, List.getD_cons_zero, List.getD_cons_succ]
    iterate 4 ((with_reducible refine wpRead_step (fun K hK => ?_)); go_simp; first | ((with_reducible refine hK _ ?_); clear hK K) | (apply Exists.intro; (with_reducible refine ⟨fun w' hw' => ?_, hK _ ?_⟩); (obtain ⟨f0, f1, f2, f3⟩ := hw'.1.cells; obtain ⟨g0, g1, g2, g3⟩ := hw'.2.1.cells; have f4 := conv_bs hw'.2.2 HBY.out; go_simp; first | exact rfl | exact ⟨rfl, rfl⟩); clear hK K))
    with_reducible refine wpRead_nil ?_
    refine held_one 4 (by kernel_rfl) ?_
    simp only [pick, List.getD_cons_zero, List.getD_cons_succ]
    go_wp2_with fail
    have hck := check_any p W8 F12.out.2.2.1 (fun x hx => Nat.le_trans (HL.out.1 x hx) (by omega))
    rw [hok.out, if_pos rfl] at hck
    have HC := Lib.hid hck
    clear hck
    refine (HC.out).mono ?_
    rintro e W9 ⟨rfl, hb9⟩
    have F13 := Lib.hid (And.intro (bcall F12.out.1 (Nat.le_refl _) hb9) (And.intro (F12.out.2.1.on hb9) (And.intro (F12.out.2.2.1.keep hb9) (And.intro (F12.out.2.2.2.1.below hb9) (And.intro (F12.out.2.2.2.2.1.keep hb9) ((F12.out.2.2.2.2.2.on hb9)))))))
    clear F12
    clear hb9 HC
    go_wp2_with fail
    refine ⟨⟨F13.out.2.1, F13.out.2.2.2.2.2, F13.out.2.2.2.1.sl⟩, ?_⟩
    refine held_reads [5, 6, 7, 8, 9, 10] (g := 14) rfl (by kernel_rfl) ⟨F13.out.2.1, F13.out.2.2.2.2.2, F13.out.2.2.2.1.sl⟩ (fun _ _ d _ _ h => by cases d <;> exact h) ?_
    simp only [pick, List.getD_cons_zero, List.getD_cons_succ]
    iterate 6 ((with_reducible refine wpRead_step (fun K hK => ?_)); go_simp; first | ((with_reducible refine hK _ ?_); clear hK K) | (apply Exists.intro; (with_reducible refine ⟨fun w' hw' => ?_, hK _ ?_⟩); (obtain ⟨f0, f1, f2, f3⟩ := hw'.1.cells; obtain ⟨g0, g1, g2, g3⟩ := hw'.2.1.cells; have f4 := conv_bs hw'.2.2 HBY.out; go_simp; first | exact rfl | exact ⟨rfl, rfl⟩); clear hK K))
    with_reducible refine wpRead_nil ?_
    refine held_one 11 (by kernel_rfl) ?_
    simp only [pick, List.getD_cons_zero, List.getD_cons_succ]
    go_wp2_with fail
    refine (rput_ok p W9 F13.out.2.2.1 hok.out (Nat.le_trans HL.out.2 (by omega))).mono ?_
    rintro e Wa ⟨⟨v10, rfl, ho10⟩, hb10⟩
    obtain ⟨oa10, c10, rfl, hs10⟩ := b5_own ho10
    rw [HN.out] at hs10
    simp only [HN.out]
    have F14 := Lib.hid (And.intro (bcall F13.out.1 (Nat.le_refl _) hb10) (And.intro (F13.out.2.1.on hb10) (And.intro (F13.out.2.2.1.keep hb10) (And.intro (F13.out.2.2.2.1.below hb10) (And.intro (F13.out.2.2.2.2.1.keep hb10) (And.intro (F13.out.2.2.2.2.2.on hb10) (hs10)))))))
    clear F13
    clear hb10 hs10 ho10
    go_wp2_with fail
    refine ⟨⟨F14.out.2.1, F14.out.2.2.2.2.2.1, F14.out.2.2.2.1.sl⟩, ?_⟩
    refine held_one 12 (by kernel_rfl) ?_
    simp only [pick, List.getD_cons_zero, List.getD_cons_succ]
    have k10 := conv_bs F14.out.2.2.2.2.2.2.sl HBY.out
    go_wp2_with fail
    refine ⟨⟨F14.out.2.1, F14.out.2.2.2.2.2.1, F14.out.2.2.2.1.sl⟩, ?_⟩
    clear k10
    refine held_reads [13, 14, 15, 16, 17, 18, 19, 20, 21] (g := 3) rfl (by kernel_rfl) ⟨F14.out.2.1, F14.out.2.2.2.2.2.1, F14.out.2.2.2.1.sl⟩ (fun _ _ d _ _ h => by cases d <;> exact h) ?_
    simp only [pick, List.getD_cons_zero, List.getD_cons_succ]
    iterate 9 ((with_reducible refine wpRead_step (fun K hK => ?_)); go_simp; first | ((with_reducible refine hK _ ?_); clear hK K) | (apply Exists.intro; (with_reducible refine ⟨fun w' hw' => ?_, hK _ ?_⟩); (obtain ⟨f0, f1, f2, f3⟩ := hw'.1.cells; obtain ⟨g0, g1, g2, g3⟩ := hw'.2.1.cells; have f4 := conv_bs hw'.2.2 HBY.out; go_simp; first | exact rfl | exact ⟨rfl, rfl⟩); clear hK K))
    with_reducible refine wpRead_nil ?_
    refine held_one 22 (by kernel_rfl) ?_
    simp only [pick, List.getD_cons_zero, List.getD_cons_succ]
    go_wp2_with fail
    refine (same_any p q Wa F14.out.2.2.1 F14.out.2.2.2.2.1 (IP.out.1.1.trans IP.out.2.1.symm) (IP.out.1.2.1.trans IP.out.2.2.1.symm) (IP.out.1.2.2.1.trans IP.out.2.2.2.1.symm) (IP.out.1.2.2.2.trans IP.out.2.2.2.2.symm)).mono ?_
    rintro e Wb ⟨rfl, hb11⟩
    have F15 := Lib.hid (And.intro (bcall F14.out.1 (Nat.le_refl _) hb11) (And.intro (F14.out.2.1.on hb11) (And.intro (F14.out.2.2.1.keep hb11) (And.intro (F14.out.2.2.2.1.below hb11) (And.intro (F14.out.2.2.2.2.1.keep hb11) ((F14.out.2.2.2.2.2.1.on hb11)))))))
    clear F14
    clear hb11
    go_wp2_with fail
    refine ⟨⟨F15.out.2.1, F15.out.2.2.2.2.2, F15.out.2.2.2.1.sl⟩, ?_⟩
    refine held_one 23 (by kernel_rfl) ?_
    simp only [pick, List.getD_cons_zero, List.getD_cons_succ]
    go_wp2_with fail
    refine ⟨⟨F15.out.2.1, F15.out.2.2.2.2.2, F15.out.2.2.2.1.sl⟩, ?_⟩
    refine held_one 24 (by kernel_rfl) ?_
    simp only [pick, List.getD_cons_zero, List.getD_cons_succ]
    go_wp2_with fail
    refine ⟨⟨F15.out.2.1, F15.out.2.2.2.2.2, F15.out.2.2.2.1.sl⟩, ?_⟩
    refine wpAnyH_done (by kernel_rfl) ?_ _
    go_wp2_with fail
    go_ret
    exact ⟨rfl, F15.out.1⟩
end Go.Proofs.Ytjjhnnnpikfjpaa
