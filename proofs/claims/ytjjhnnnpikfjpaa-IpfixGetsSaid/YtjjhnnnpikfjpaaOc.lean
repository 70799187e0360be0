/- IpfixGets. -/
import Derived.Test.YtjjhnnnpikfjpaaOa
import Derived.Test.YtjjhnnnpikfjpaaOb
namespace Go.Proofs.Ytjjhnnnpikfjpaa
open Go.RowKit

theorem cnt_le {w : World} {p : Pk} (hs : StsOk w p.ss) (hok : okP p = true) : 5 * p.ss.l.length + 16 ≤ (pkB p).length := by
  obtain ⟨-, hz⟩ := okP_nat hok
  obtain ⟨-, hz2⟩ := sz_ok p.ss.l 16 hz
  rw [pkB, List.length_append, headB_length, bodyB_length p.ss.l hs.all]
  have : ∀ l : List (Int × SlV Nat), (∀ x ∈ l, oddI x.1 x.2.n = false) → 5 * l.length ≤ ssum l := by
    intro l
    induction l with
    | nil => intro _; exact Nat.le_refl _
    | cons x r ih =>
      intro h
      have h1 := ih (fun y hy => h y (by simp [hy]))
      have h2 := oddI_false (h x (by simp))
      unfold ssum at *
      simp only [List.map_cons, List.sum_cons, List.length_cons]
      omega
  have := this _ hz2
  omega
theorem okP_zero : okP ⟨0, 0, 0, ⟨none, 0, 0, []⟩⟩ = true := by rfl
set_option maxRecDepth 100000 in
set_option maxHeartbeats 2000000 in
theorem gets_any {w : World} {oa : Option Addr} {n c : Nat} {l : List Nat} (h : RB.Sl w oa n c l) (hnil : oa = none → c = 0) (hby : Bytes l) : Calls Try.prog 4 #[.slice oa n c] w fun e w' => e = .returned (.bool true) ∧ Below w.heap.size w w' := by
  have hlen := Lib.hid h.len
  have F0 := Lib.hid (And.intro (Below.refl w.heap.size w) h)
  have HH := Lib.hid (And.intro hnil hby)
  clear h hnil hby
  go_enter Try.func4, Try.ntmps4
  by_cases hlong : 5000 < n
  · have hil : ((5000 : Int) < (n : Int)) = True := by simp; omega
    go_wp2_with fail
    refine (lives_any _).mono ?_
    rintro e W1 ⟨rfl, hb1⟩
    have F1 := Lib.hid hb1
    clear hb1
    go_wp2_with fail
    go_ret
    exact ⟨rfl, F1.out⟩
  have hil : ((5000 : Int) < (n : Int)) = False := by simp; omega
  have hn5 := Lib.hid (show n ≤ 5000 by omega)
  clear hlong
  rcases hG : getP l with _ | Q
  · go_wp2_with fail
    clear hil
    refine (get_pk F0.out.2 HH.out.1 HH.out.2 (by have := hn5.out; omega)).mono ?_
    rintro e W1 ⟨⟨p, hsp, hor⟩, hb1⟩
    rw [hG] at hor
    rcases hor with ⟨-, rfl, rfl⟩ | ⟨Q, hQ, -⟩
    rotate_left
    · cases hQ
    have F1 := Lib.hid (And.intro (bcall F0.out.1 (Nat.le_refl _) hb1) (And.intro (F0.out.2.keep hb1) (hsp)))
    clear F0
    clear hb1 hsp
    simp only [Pk.v]
    have hal := (Below.refl W1.heap.size W1).alloc (Nat.le_refl _) (.cells #[.int .i64 0, .int .i64 0, .int .i64 0, .slice none 0 0] 24)
    have h4 : PkS W1.heap.size #[.int .i64 0, .int .i64 0, .int .i64 0, .slice none 0 0] (W1.alloc (.cells #[.int .i64 0, .int .i64 0, .int .i64 0, .slice none 0 0] 24)) := hnew _ _
    have F2 := Lib.hid (And.intro (bcall F1.out.1 (Nat.le_refl _) hal) (And.intro (F1.out.2.1.keep hal) (And.intro (F1.out.2.2.keep hal) (h4))))
    clear F1
    clear hal h4
    go_wp2_with fail
    generalize W1.alloc (.cells #[.int .i64 0, .int .i64 0, .int .i64 0, .slice none 0 0] 24) = W2 at *
    generalize W1.heap.size = q2 at *
    refine (rget_pk F2.out.2.1 HH.out.1 HH.out.2 (by have := hn5.out; omega)).mono ?_
    rintro e W3 ⟨⟨q, hsq, hor⟩, hb3⟩
    rw [hG] at hor
    rcases hor with ⟨-, rfl, rfl⟩ | ⟨Q, hQ, -⟩
    rotate_left
    · cases hQ
    have F3 := Lib.hid (And.intro (bcall F2.out.1 (Nat.le_refl _) hb3) (And.intro (F2.out.2.1.keep hb3) (And.intro (F2.out.2.2.1.keep hb3) (And.intro (F2.out.2.2.2.on hb3) (hsq)))))
    clear F2
    clear hb3 hsq
    simp only [Pk.v]
    have hal := (Below.refl W3.heap.size W3).alloc (Nat.le_refl _) (.cells #[.int .i64 0, .int .i64 0, .int .i64 0, .slice none 0 0] 24)
    have h4 : PkS W3.heap.size #[.int .i64 0, .int .i64 0, .int .i64 0, .slice none 0 0] (W3.alloc (.cells #[.int .i64 0, .int .i64 0, .int .i64 0, .slice none 0 0] 24)) := hnew _ _
    have F4 := Lib.hid (And.intro (bcall F3.out.1 (Nat.le_refl _) hal) (And.intro (F3.out.2.1.keep hal) (And.intro (F3.out.2.2.1.keep hal) (And.intro (F3.out.2.2.2.1.on hal) (And.intro (F3.out.2.2.2.2.keep hal) (h4))))))
    clear F3
    clear hal h4
    go_wp2_with fail
    generalize W3.alloc (.cells #[.int .i64 0, .int .i64 0, .int .i64 0, .slice none 0 0] 24) = W4 at *
    generalize W3.heap.size = q4 at *
    refine (lives_any _).mono ?_
    rintro e W5 ⟨rfl, hb5⟩
    have F5 := Lib.hid (And.intro (bcall F4.out.1 (Nat.le_refl _) hb5) (And.intro (F4.out.2.1.keep hb5) (And.intro (F4.out.2.2.1.keep hb5) (And.intro (F4.out.2.2.2.1.on hb5) (And.intro (F4.out.2.2.2.2.1.keep hb5) ((F4.out.2.2.2.2.2.on hb5)))))))
    clear F4
    clear hb5
    obtain ⟨z0, z1, z2, z3⟩ := F5.out.2.2.2.1.cells
    obtain ⟨y0, y1, y2, y3⟩ := F5.out.2.2.2.2.2.cells
    go_wp2_with fail
    clear z0 z1 z2 z3 y0 y1 y2 y3
    refine (same_any ⟨0, 0, 0, ⟨none, 0, 0, []⟩⟩ ⟨0, 0, 0, ⟨none, 0, 0, []⟩⟩ W5 F5.out.2.2.1 F5.out.2.2.2.2.1 rfl rfl rfl rfl).mono ?_
    rintro e W6 ⟨rfl, hb6⟩
    have F6 := Lib.hid (And.intro (bcall F5.out.1 (Nat.le_refl _) hb6) (And.intro (F5.out.2.1.keep hb6) (And.intro (F5.out.2.2.1.keep hb6) ((F5.out.2.2.2.1.on hb6)))))
    clear F5
    clear hb6
    obtain ⟨z0, z1, z2, z3⟩ := F6.out.2.2.2.cells
    go_wp2_with fail
    clear z0 z1 z2 z3
    have HC := Lib.hid (put_ok ⟨0, 0, 0, ⟨none, 0, 0, []⟩⟩ W6 F6.out.2.2.1 okP_zero (Nat.zero_le _))
    refine (HC.out).mono ?_
    rintro e W7 ⟨⟨v7, rfl, ho7⟩, hb7⟩
    obtain ⟨oa7, c7, rfl, hs7⟩ := b5_own ho7
    have F7 := Lib.hid (And.intro (bcall F6.out.1 (Nat.le_refl _) hb7) ((F6.out.2.1.keep hb7)))
    clear F6
    clear hb7 hs7 ho7 HC
    go_wp2_with fail
    go_ret
    exact ⟨rfl, F7.out.1⟩
  · go_wp2_with fail
    clear hil
    refine (get_pk F0.out.2 HH.out.1 HH.out.2 (by have := hn5.out; omega)).mono ?_
    rintro e W1 ⟨⟨p, hsp, hor⟩, hb1⟩
    rw [hG] at hor
    rcases hor with ⟨h, -⟩ | ⟨Q1, hQ, his, rfl⟩
    · cases h
    injection hQ with hQ
    subst hQ
    have IP := Lib.hid his
    clear his
    have F8 := Lib.hid (And.intro (bcall F0.out.1 (Nat.le_refl _) hb1) (And.intro (F0.out.2.keep hb1) (hsp)))
    clear F0
    clear hb1 hsp
    simp only [Pk.v]
    have hal := (Below.refl W1.heap.size W1).alloc (Nat.le_refl _) (.cells #[.int .i64 p.tm, .int .i64 p.sq, .int .i64 p.dm, .slice p.ss.a p.ss.n p.ss.c] 24)
    have h4 : PkS W1.heap.size #[.int .i64 p.tm, .int .i64 p.sq, .int .i64 p.dm, .slice p.ss.a p.ss.n p.ss.c] (W1.alloc (.cells #[.int .i64 p.tm, .int .i64 p.sq, .int .i64 p.dm, .slice p.ss.a p.ss.n p.ss.c] 24)) := hnew _ _
    have F9 := Lib.hid (And.intro (bcall F8.out.1 (Nat.le_refl _) hal) (And.intro (F8.out.2.1.keep hal) (And.intro (F8.out.2.2.keep hal) (h4))))
    clear F8
    clear hal h4
    go_wp2_with fail
    generalize W1.alloc (.cells #[.int .i64 p.tm, .int .i64 p.sq, .int .i64 p.dm, .slice p.ss.a p.ss.n p.ss.c] 24) = W2 at *
    generalize W1.heap.size = q2 at *
    refine (rget_pk F9.out.2.1 HH.out.1 HH.out.2 (by have := hn5.out; omega)).mono ?_
    rintro e W3 ⟨⟨q, hsq, hor⟩, hb3⟩
    rw [hG] at hor
    rcases hor with ⟨h, -⟩ | ⟨Q1, hQ, his, rfl⟩
    · cases h
    injection hQ with hQ
    subst hQ
    have IQ := Lib.hid his
    clear his
    have F10 := Lib.hid (And.intro (bcall F9.out.1 (Nat.le_refl _) hb3) (And.intro (F9.out.2.1.keep hb3) (And.intro (F9.out.2.2.1.keep hb3) (And.intro (F9.out.2.2.2.on hb3) (hsq)))))
    clear F9
    clear hb3 hsq
    simp only [Pk.v]
    have hal := (Below.refl W3.heap.size W3).alloc (Nat.le_refl _) (.cells #[.int .i64 q.tm, .int .i64 q.sq, .int .i64 q.dm, .slice q.ss.a q.ss.n q.ss.c] 24)
    have h4 : PkS W3.heap.size #[.int .i64 q.tm, .int .i64 q.sq, .int .i64 q.dm, .slice q.ss.a q.ss.n q.ss.c] (W3.alloc (.cells #[.int .i64 q.tm, .int .i64 q.sq, .int .i64 q.dm, .slice q.ss.a q.ss.n q.ss.c] 24)) := hnew _ _
    have F11 := Lib.hid (And.intro (bcall F10.out.1 (Nat.le_refl _) hal) (And.intro (F10.out.2.1.keep hal) (And.intro (F10.out.2.2.1.keep hal) (And.intro (F10.out.2.2.2.1.on hal) (And.intro (F10.out.2.2.2.2.keep hal) (h4))))))
    clear F10
    clear hal h4
    go_wp2_with fail
    generalize W3.alloc (.cells #[.int .i64 q.tm, .int .i64 q.sq, .int .i64 q.dm, .slice q.ss.a q.ss.n q.ss.c] 24) = W4 at *
    generalize W3.heap.size = q4 at *
    refine (lives_any _).mono ?_
    rintro e W5 ⟨rfl, hb5⟩
    have F12 := Lib.hid (And.intro (bcall F11.out.1 (Nat.le_refl _) hb5) (And.intro (F11.out.2.1.keep hb5) (And.intro (F11.out.2.2.1.keep hb5) (And.intro (F11.out.2.2.2.1.on hb5) (And.intro (F11.out.2.2.2.2.1.keep hb5) ((F11.out.2.2.2.2.2.on hb5)))))))
    clear F11
    clear hb5
    obtain ⟨z0, z1, z2, z3⟩ := F12.out.2.2.2.1.cells
    obtain ⟨y0, y1, y2, y3⟩ := F12.out.2.2.2.2.2.cells
    go_wp2_with fail
    clear z0 z1 z2 z3 y0 y1 y2 y3
    refine (same_any p q W5 F12.out.2.2.1 F12.out.2.2.2.2.1 (IP.out.1.trans IQ.out.1.symm) (IP.out.2.1.trans IQ.out.2.1.symm) (IP.out.2.2.1.trans IQ.out.2.2.1.symm) (IP.out.2.2.2.trans IQ.out.2.2.2.symm)).mono ?_
    rintro e W6 ⟨rfl, hb6⟩
    have F13 := Lib.hid (And.intro (bcall F12.out.1 (Nat.le_refl _) hb6) (And.intro (F12.out.2.1.keep hb6) (And.intro (F12.out.2.2.1.keep hb6) ((F12.out.2.2.2.1.on hb6)))))
    clear F12
    clear hb6
    obtain ⟨z0, z1, z2, z3⟩ := F13.out.2.2.2.cells
    go_wp2_with fail
    clear z0 z1 z2 z3
    obtain ⟨hok0, hpk0⟩ := pkB_getP HH.out.2 hG
    have hokp : okP p = true := IP.out.eqs.1.trans hok0
    have hpk : pkB p = l := IP.out.eqs.2.trans hpk0
    clear hok0 hpk0
    have hcnt := cnt_le F13.out.2.2.1 hokp
    rw [hpk] at hcnt
    have HC := Lib.hid (put_ok p W6 F13.out.2.2.1 hokp (by have := hlen.out; have := hn5.out; omega))
    rw [hpk] at HC
    clear hcnt hokp hpk
    refine (HC.out).mono ?_
    rintro e W7 ⟨⟨v7, rfl, ho7⟩, hb7⟩
    obtain ⟨oa7, c7, rfl, hs7⟩ := b5_own ho7
    have F14 := Lib.hid (And.intro (bcall F13.out.1 (Nat.le_refl _) hb7) (And.intro (F13.out.2.1.keep hb7) (hs7)))
    clear F13
    clear hb7 hs7 ho7 HC
    have e1 := conv_bs F14.out.2.2.sl HH.out.2
    have e2 := conv_bs F14.out.2.1 HH.out.2
    go_wp2_with fail
    go_ret
    exact ⟨rfl, F14.out.1⟩
end Go.Proofs.Ytjjhnnnpikfjpaa
