/- The reference's Put. -/
import Derived.Test.YtcbpdjenncbbeaaQal
import Derived.Test.YtcbpdjenncbbeaaQaa
namespace Go.Proofs.Ytcbpdjenncbbeaa.Ip
open Go.RowKit

theorem StS.same {b : Nat} {cs : Array Value} {w w' : World} (e : w'.heap[b]? = w.heap[b]?) (h : StS b cs w) : StS b cs w' := e.trans h
theorem PkS.same {b : Nat} {cs : Array Value} {w w' : World} (e : w'.heap[b]? = w.heap[b]?) (h : PkS b cs w) : PkS b cs w' := e.trans h
set_option maxRecDepth 100000 in
set_option maxHeartbeats 1000000 in
theorem rput_ok (p : Pk) (w : World) (hs : StsOk w p.ss) (hok : okP p = true) (hcnt : p.ss.l.length ≤ 1000) : Calls Try.prog 39 #[p.v] w fun e w' => (∃ v, e = .returned v ∧ RB.Own w' w.heap.size v (pkB p)) ∧ Below w.heap.size w w' := by
  obtain ⟨⟨a, b, d, ha, hb, hd, ha2, hb2, hd2⟩, hz⟩ := okP_nat hok
  obtain ⟨hz1, hz2⟩ := sz_ok p.ss.l 16 hz
  have hal := (Below.refl w.heap.size w).alloc (Nat.le_refl _) (.cells #[.int .i64 p.tm, .int .i64 p.sq, .int .i64 p.dm, .slice p.ss.a p.ss.n p.ss.c] 76)
  have hnew0 : PkS w.heap.size #[.int .i64 p.tm, .int .i64 p.sq, .int .i64 p.dm, .slice p.ss.a p.ss.n p.ss.c] (w.alloc (.cells #[.int .i64 p.tm, .int .i64 p.sq, .int .i64 p.dm, .slice p.ss.a p.ss.n p.ss.c] 76)) := hnew _ _
  have hres : pkB p = be 2 10 ++ be 2 (ssum p.ss.l + 16) ++ be 4 a ++ be 4 b ++ be 4 d ++ bodyB p.ss.l := by
    simp only [pkB, headB, ha, hb, hd, hz1, Int.toNat_natCast, bes]
    simp [Nat.add_comm]
  have HR := Lib.hid hres
  clear hres hok
  generalize pkB p = RES at *
  obtain ⟨tm, sq, dm, s⟩ := p
  dsimp only at *
  obtain ⟨oa, n, c, l⟩ := s
  subst ha hb hd
  unfold Pk.v at *
  dsimp only at *
  have HP := Lib.hid (And.intro hs (And.intro (And.intro ha2 (And.intro hb2 hd2)) (And.intro (show 16 + ssum l ≤ 65535 by omega) hz2)))
  have F0 := Lib.hid (And.intro hal hnew0)
  clear hal hs hnew0 ha2 hb2 hd2 hz hz1 hz2
  have hlen : l.length = n := HP.out.1.sl.len.symm
  go_enter Try.func39, Try.ntmps39
  go_wp2_with fail
  generalize w.alloc (.cells #[.int .i64 (a : Int), .int .i64 (b : Int), .int .i64 (d : Int), .slice oa n c] 76) = W0 at *
  go_loopw [3, 4, 5] (fun sv iv _ wr => ∃ i : Nat, i ≤ n ∧ iv = .int .i64 i ∧ RB.Own wr w.heap.size sv (bodyB (l.take i)) ∧ sv.ownBlock ≠ some w.heap.size ∧ Below w.heap.size w wr ∧ PkS w.heap.size #[.int .i64 (a : Int), .int .i64 (b : Int), .int .i64 (d : Int), .slice oa n c] wr) (fun _ iv _ _ => n - (intOf iv).toNat)
  case atStart => exact ⟨0, Nat.zero_le _, rfl, Rep.Own.nil _ _, (by intro h; cases h), F0.out.1, F0.out.2⟩
  case round =>
    obtain ⟨i, hi, rfl, hown, hn0, hb, hpk⟩ := hrel
    obtain ⟨w2, rfl⟩ : ∃ w2 : World, w2 = wr := ⟨_, rfl⟩
    clear F0
    obtain ⟨e0, e1, e2, e3⟩ := hpk.cells
    by_cases hlt : i < n
    · obtain ⟨bb, oo, rfl, hbb, hat⟩ := (HP.out.1.sl.keep hb).at hlt
      have c0 := hat 0 (by decide)
      have c1 := hat 1 (by decide)
      simp only [RSt, Nat.add_zero, List.getElem?_cons_zero, List.getElem?_cons_succ] at c0 c1
      have hil : ((i : Int) < (n : Int)) = True := by simp; omega
      have hx := HP.out.1.all _ (getD_mem (i := i) (hlen.symm ▸ hlt))
      have hodd := oddI_false (HP.out.2.2.2 _ (getD_mem (i := i) (by omega)))
      have ht : l.take (i + 1) = l.take i ++ [l.getD i default] := take_snoc l i (by omega)
      have hbl := bodyB_length (l.take i) (fun x hx => HP.out.1.all x (List.mem_of_mem_take hx))
      have hst := ssum_take l i
      have hz := HP.out.2.2.1
      generalize l.getD i default = x at *
      obtain ⟨x1, x2⟩ := x
      dsimp only at *
      obtain ⟨xn, rfl⟩ := Int.eq_ofNat_of_zero_le (a := x1) (by omega)
      have hset : setB ((xn : Int), x2) = be 2 xn ++ be 2 (x2.n + 4) ++ x2.l := by simp [setB]
      have hLL : (bodyB (l.take i)).length ≤ 65535 := by rw [hbl]; omega
      have hfin : bodyB (l.take (i + 1)) = bodyB (l.take i) ++ be 2 xn ++ be 2 (x2.n + 4) ++ x2.l := by rw [ht, bodyB_snoc, hset]; simp
      generalize bodyB (l.take i) = LL at *
      have hal := (Below.refl w2.heap.size w2).alloc (Nat.le_refl _) (.cells #[.int .i64 (xn : Int), .slice x2.a x2.n x2.c] 83)
      have hnw : StS w2.heap.size #[.int .i64 (xn : Int), .slice x2.a x2.n x2.c] (w2.alloc (.cells #[.int .i64 (xn : Int), .slice x2.a x2.n x2.c] 83)) := hnew _ _
      have hxn : xn < 65536 ∧ x2.n ≤ 65000 ∧ 1 ≤ x2.n := by omega
      have hn7 : u3.ownBlock ≠ some w2.heap.size := fun h => by have := (World.ownsRow.lt hown _ h).2; omega
      have HF := Lib.hid (And.intro hfin (And.intro hLL hxn))
      have hlx := hx.2.sl.len.symm
      have HL := Lib.hid (And.intro hlx hx.2)
      have hw1 : IntKind.i64.wrap ((x2.n : Int) + 4) = (x2.n : Int) + 4 := by rw [IntWalk.i64_in _ (by omega)]
      have hw3 := wrapS hlt HP.out.1.sl.max
      have hW := (Below.refl w2.heap.size (w2.alloc (.cells #[.int .i64 (xn : Int), .slice x2.a x2.n x2.c] 83))).drew
      have hbd : Below w2.heap.size w2 (w2.alloc (.cells #[.int .i64 (xn : Int), .slice x2.a x2.n x2.c] 83)).drew := hal.drew
      have F0 := Lib.hid (And.intro (bcall hb (Nat.le_refl _) hbd) (And.intro (hnw.on (Below.refl _ _).drew) (And.intro (hpk.on hbd) (And.intro (hown.below hbd) (And.intro hn0 hn7)))))
      clear hat hb hx ht hbl hst hz hset hLL hfin hal hnw hodd hxn hlx hW hbd hn0 hn7 hown hpk
      go_wp2_with fail
      clear e0 e1 e2 e3
      refine wp_region_heldP (StS w2.heap.size #[.int .i64 (xn : Int), .slice x2.a x2.n x2.c]) (by kernel_rfl) ?_
      generalize (w2.alloc (.cells #[.int .i64 (xn : Int), .slice x2.a x2.n x2.c] 83)).drew = w4 at *
      refine held_reads [0, 1, 2, 5, 6, 7, 8, 11, 12] (g := 6) rfl (by kernel_rfl) F0.out.2.1 (fun _ _ d _ _ h => by cases d <;> exact h) ?_
      simp only [pick, List.getD_cons_zero, List.getD_cons_succ]
      iterate 9 ((with_reducible refine wpRead_step (fun K hK => ?_)); go_simp; first | ((with_reducible refine hK _ ?_); clear hK K) | (apply Exists.intro; (with_reducible refine ⟨fun w' hw' => ?_, hK _ ?_⟩); (obtain ⟨f0, f1⟩ := hw'.cells; go_simp; first | exact rfl | exact ⟨rfl, rfl⟩); clear hK K))
      with_reducible refine wpRead_nil ?_
      refine held_one 3 (by kernel_rfl) ?_
      simp only [pick, List.getD_cons_zero, List.getD_cons_succ]
      go_wp2_with fail
      refine (two_any xn (by have := HF.out.2.2.1; omega) _).mono ?_
      rintro e w1 ⟨v1, rfl, ho1, hb1⟩
      obtain ⟨oa1, c1, rfl, hs1⟩ := bs_own ho1
      have F2 := Lib.hid (And.intro (bcall F0.out.1 (Nat.le_refl _) hb1) (And.intro (F0.out.2.1.on hb1) (And.intro (F0.out.2.2.1.on hb1) (And.intro (F0.out.2.2.2.1.below hb1) (And.intro F0.out.2.2.2.2.1 (And.intro F0.out.2.2.2.2.2 (hs1)))))))
      clear F0
      clear hb1 ho1 hs1
      go_wp2_with fail
      refine ⟨F2.out.2.1, ?_⟩
      refine held_one 4 (by kernel_rfl) ?_
      simp only [pick, List.getD_cons_zero, List.getD_cons_succ]
      go_wp2_with (at_builtin; refine halt ?_)
      refine Halted.go ?_
      refine Rep.append_list2 T27 rfl _ _ rfl (base := w.heap.size) (m := (be 2 xn).length) rfl F2.out.2.2.2.1 rfl F2.out.2.2.2.2.2.2.sl (by rw [be_length]; omega) (by (try simp only [be_length]); have h := HF.out.2; unfold maxLen; omega) (by (try simp only [be_length]); have h := HF.out.2; omega) F2.out.1.size ?_
      intro v3 w3 ho3 hb3 he3
      have h03 := he3 _ F2.out.2.2.2.2.1 (lt_of_blk F2.out.2.2.1)
      have h73 := he3 _ F2.out.2.2.2.2.2.1 (lt_of_blk F2.out.2.1)
      have F4 := Lib.hid (And.intro (F2.out.1.trans hb3) (And.intro (StS.same h73.2 F2.out.2.1) (And.intro (PkS.same h03.2 F2.out.2.2.1) (And.intro ho3 (And.intro h03.1 (h73.1))))))
      clear F2
      clear hb3 ho3 he3 h03 h73
      go_wp2_with fail
      refine ⟨F4.out.2.1, ?_⟩
      refine held_one 9 (by kernel_rfl) ?_
      simp only [pick, List.getD_cons_zero, List.getD_cons_succ]
      go_wp2_with fail
      refine (two_any (x2.n + 4) (by have := HF.out.2.2.2; omega) _).mono ?_
      rintro e w5 ⟨v5, rfl, ho5, hb5⟩
      obtain ⟨oa5, c5, rfl, hs5⟩ := bs_own ho5
      have F6 := Lib.hid (And.intro (bcall F4.out.1 (Nat.le_refl _) hb5) (And.intro (F4.out.2.1.on hb5) (And.intro (F4.out.2.2.1.on hb5) (And.intro (F4.out.2.2.2.1.below hb5) (And.intro F4.out.2.2.2.2.1 (And.intro F4.out.2.2.2.2.2 (hs5)))))))
      clear F4
      clear hb5 ho5 hs5
      go_wp2_with fail
      refine ⟨F6.out.2.1, ?_⟩
      refine held_one 10 (by kernel_rfl) ?_
      simp only [pick, List.getD_cons_zero, List.getD_cons_succ]
      go_wp2_with (at_builtin; refine halt ?_)
      refine Halted.go ?_
      refine Rep.append_list2 T27 rfl _ _ rfl (base := w.heap.size) (m := (be 2 (x2.n + 4)).length) rfl F6.out.2.2.2.1 rfl F6.out.2.2.2.2.2.2.sl (by rw [be_length]; omega) (by (try simp only [List.length_append, be_length]); have h := HF.out.2; unfold maxLen; omega) (by (try simp only [List.length_append, be_length]); have h := HF.out.2; omega) F6.out.1.size ?_
      intro v7 w7 ho7 hb7 he7
      have h07 := he7 _ F6.out.2.2.2.2.1 (lt_of_blk F6.out.2.2.1)
      have h77 := he7 _ F6.out.2.2.2.2.2.1 (lt_of_blk F6.out.2.1)
      have F8 := Lib.hid (And.intro (F6.out.1.trans hb7) (And.intro (StS.same h77.2 F6.out.2.1) (And.intro (PkS.same h07.2 F6.out.2.2.1) (And.intro ho7 (And.intro h07.1 (h77.1))))))
      clear F6
      clear hb7 ho7 he7 h07 h77
      go_wp2_with fail
      refine ⟨F8.out.2.1, ?_⟩
      refine held_one 13 (by kernel_rfl) ?_
      simp only [pick, List.getD_cons_zero, List.getD_cons_succ]
      go_wp2_with (at_builtin; refine halt ?_)
      refine Halted.go ?_
      refine Rep.append_list2 T27 rfl _ _ rfl (base := w.heap.size) (m := x2.n) rfl F8.out.2.2.2.1 rfl (HL.out.2.keep F8.out.1).sl HF.out.2.2.2.2 (by (try simp only [List.length_append, be_length]); have h := HF.out.2; unfold maxLen; omega) (by (try simp only [List.length_append, be_length]); have h := HF.out.2; omega) F8.out.1.size ?_
      intro v9 w9 ho9 hb9 he9
      have h09 := he9 _ F8.out.2.2.2.2.1 (lt_of_blk F8.out.2.2.1)
      have h79 := he9 _ F8.out.2.2.2.2.2 (lt_of_blk F8.out.2.1)
      have F10 := Lib.hid (And.intro (F8.out.1.trans hb9) (And.intro (StS.same h79.2 F8.out.2.1) (And.intro (PkS.same h09.2 F8.out.2.2.1) (And.intro ho9 (And.intro h09.1 (h79.1))))))
      clear F8
      clear hb9 ho9 he9 h09 h79
      go_wp2_with fail
      refine ⟨F10.out.2.1, ?_⟩
      refine held_one 14 (by kernel_rfl) ?_
      simp only [pick, List.getD_cons_zero, List.getD_cons_succ]
      go_wp2_with fail
      refine ⟨F10.out.2.1, ?_⟩
      refine wpAnyH_done (by kernel_rfl) ?_ _
      go_wp2_with fail
      exact ⟨⟨i + 1, hlt, by first | rw [hw3] | rw [Int.natCast_succ], by rw [HF.out.1]; exact F10.out.2.2.2.1, F10.out.2.2.2.2.1, F10.out.1, F10.out.2.2.1⟩, by first | (rw [hw3]; exact mSucc hlt) | (rw [← Int.natCast_succ]; exact mSucc hlt)⟩
    · obtain rfl : n = i := by omega
      have hil : ((n : Int) < (n : Int)) = False := by simp
      have he : List.take n l = l := List.take_of_length_le (by omega)
      rw [he] at hown
      have hbl := bodyB_length l HP.out.1.all
      obtain ⟨oa3, c3, rfl, hbs3⟩ := bs_own hown
      have F0 := Lib.hid (And.intro hb (And.intro hpk (And.intro hown hbs3)))
      have HB := Lib.hid hbl
      clear hb hpk hown hbs3 he hn0
      have hsz : ssum l ≤ 65535 := by have := HP.out.2.2.1; omega
      clear hbl
      have G0 := Lib.hid (Below.refl w2.heap.size w2)
      have hw1 : IntKind.i64.wrap (((bodyB l).length : Int) + 16) = ((ssum l + 16 : Nat) : Int) := by rw [HB.out, IntWalk.i64_in _ (by omega)]; omega
      have hbl : (bodyB l).length ≤ 65535 := by rw [HB.out]; omega
      go_wp2_with fail
      refine (two_any 10 (by omega) _).mono ?_
      rintro e w11 ⟨v11, rfl, ho11, hb11⟩
      have F12 := Lib.hid (And.intro (bcall G0.out (Nat.le_refl _) hb11) (ho11))
      clear G0
      clear hb11 ho11
      go_wp2_with fail
      refine (two_any (ssum l + 16) (by have := HP.out.2.2.1; omega) _).mono ?_
      rintro e w13 ⟨v13, rfl, ho13, hb13⟩
      obtain ⟨oa13, c13, rfl, hs13⟩ := bs_own ho13
      have F14 := Lib.hid (And.intro (bcall F12.out.1 (Nat.le_refl _) hb13) (And.intro (F12.out.2.below hb13) (hs13)))
      clear F12
      clear hb13 ho13 hs13
      go_wp2_with (at_builtin; refine halt ?_)
      refine Halted.go ?_
      refine Rep.append_list T27 rfl _ _ rfl (base := w2.heap.size) (m := (be 2 (ssum l + 16)).length) rfl F14.out.2.1 rfl F14.out.2.2.sl F14.out.2.2.nil (by (try simp only [be_length]); unfold maxLen; omega) (by (try simp only [be_length]); omega) F14.out.1.size ?_
      intro v15 w15 ho15 hb15 _
      have F16 := Lib.hid (And.intro (F14.out.1.trans hb15) (ho15))
      clear F14
      clear hb15 ho15
      go_wp2_with fail
      clear e0 e1 e2 e3
      refine wp_region_heldP (PkS w.heap.size #[.int .i64 (a : Int), .int .i64 (b : Int), .int .i64 (d : Int), .slice oa n c]) (by kernel_rfl) ?_
      have hd := (Below.refl w15.heap.size w15).drew
      have F17 := Lib.hid (And.intro (bcall F16.out.1 (Nat.le_refl _) hd) ((F16.out.2.below hd)))
      clear F16
      clear hd
      generalize w15.drew = wd at *
      refine held_reads [0, 1, 2, 5, 6, 9, 10] (g := 7) rfl (by kernel_rfl) (F0.out.2.1.on F17.out.1) (fun _ _ d _ _ h => by cases d <;> exact h) ?_
      simp only [pick, List.getD_cons_zero, List.getD_cons_succ]
      iterate 7 ((with_reducible refine wpRead_step (fun K hK => ?_)); go_simp; first | ((with_reducible refine hK _ ?_); clear hK K) | (apply Exists.intro; (with_reducible refine ⟨fun w' hw' => ?_, hK _ ?_⟩); (obtain ⟨f0, f1, f2, f3⟩ := hw'.cells; go_simp; first | exact rfl | exact ⟨rfl, rfl⟩); clear hK K))
      with_reducible refine wpRead_nil ?_
      refine held_one 3 (by kernel_rfl) ?_
      simp only [pick, List.getD_cons_zero, List.getD_cons_succ]
      go_wp2_with fail
      refine (four_any a (by have := HP.out.2.1; omega) _).mono ?_
      rintro e w18 ⟨v18, rfl, ho18, hb18⟩
      obtain ⟨oa18, c18, rfl, hs18⟩ := bs_own ho18
      have F19 := Lib.hid (And.intro (bcall F17.out.1 (Nat.le_refl _) hb18) (And.intro (F17.out.2.below hb18) (hs18)))
      clear F17
      clear hb18 ho18 hs18
      go_wp2_with fail
      refine ⟨F0.out.2.1.on F19.out.1, ?_⟩
      refine held_one 4 (by kernel_rfl) ?_
      simp only [pick, List.getD_cons_zero, List.getD_cons_succ]
      go_wp2_with (at_builtin; refine halt ?_)
      refine Halted.go ?_
      refine Rep.append_list T27 rfl _ _ rfl (base := w2.heap.size) (m := (be 4 a).length) rfl F19.out.2.1 rfl F19.out.2.2.sl F19.out.2.2.nil (by (try simp only [List.length_append, be_length]); unfold maxLen; omega) (by (try simp only [List.length_append, be_length]); omega) F19.out.1.size ?_
      intro v20 w20 ho20 hb20 _
      have F21 := Lib.hid (And.intro (F19.out.1.trans hb20) (ho20))
      clear F19
      clear hb20 ho20
      go_wp2_with fail
      refine ⟨F0.out.2.1.on F21.out.1, ?_⟩
      refine held_one 7 (by kernel_rfl) ?_
      simp only [pick, List.getD_cons_zero, List.getD_cons_succ]
      go_wp2_with fail
      refine (four_any b (by have := HP.out.2.1; omega) _).mono ?_
      rintro e w22 ⟨v22, rfl, ho22, hb22⟩
      obtain ⟨oa22, c22, rfl, hs22⟩ := bs_own ho22
      have F23 := Lib.hid (And.intro (bcall F21.out.1 (Nat.le_refl _) hb22) (And.intro (F21.out.2.below hb22) (hs22)))
      clear F21
      clear hb22 ho22 hs22
      go_wp2_with fail
      refine ⟨F0.out.2.1.on F23.out.1, ?_⟩
      refine held_one 8 (by kernel_rfl) ?_
      simp only [pick, List.getD_cons_zero, List.getD_cons_succ]
      go_wp2_with (at_builtin; refine halt ?_)
      refine Halted.go ?_
      refine Rep.append_list T27 rfl _ _ rfl (base := w2.heap.size) (m := (be 4 b).length) rfl F23.out.2.1 rfl F23.out.2.2.sl F23.out.2.2.nil (by (try simp only [List.length_append, be_length]); unfold maxLen; omega) (by (try simp only [List.length_append, be_length]); omega) F23.out.1.size ?_
      intro v24 w24 ho24 hb24 _
      have F25 := Lib.hid (And.intro (F23.out.1.trans hb24) (ho24))
      clear F23
      clear hb24 ho24
      go_wp2_with fail
      refine ⟨F0.out.2.1.on F25.out.1, ?_⟩
      refine held_one 11 (by kernel_rfl) ?_
      simp only [pick, List.getD_cons_zero, List.getD_cons_succ]
      go_wp2_with fail
      refine (four_any d (by have := HP.out.2.1; omega) _).mono ?_
      rintro e w26 ⟨v26, rfl, ho26, hb26⟩
      obtain ⟨oa26, c26, rfl, hs26⟩ := bs_own ho26
      have F27 := Lib.hid (And.intro (bcall F25.out.1 (Nat.le_refl _) hb26) (And.intro (F25.out.2.below hb26) (hs26)))
      clear F25
      clear hb26 ho26 hs26
      go_wp2_with fail
      refine ⟨F0.out.2.1.on F27.out.1, ?_⟩
      refine held_one 12 (by kernel_rfl) ?_
      simp only [pick, List.getD_cons_zero, List.getD_cons_succ]
      go_wp2_with (at_builtin; refine halt ?_)
      refine Halted.go ?_
      refine Rep.append_list T27 rfl _ _ rfl (base := w2.heap.size) (m := (be 4 d).length) rfl F27.out.2.1 rfl F27.out.2.2.sl F27.out.2.2.nil (by (try simp only [List.length_append, be_length]); unfold maxLen; omega) (by (try simp only [List.length_append, be_length]); omega) F27.out.1.size ?_
      intro v28 w28 ho28 hb28 _
      have F29 := Lib.hid (And.intro (F27.out.1.trans hb28) (ho28))
      clear F27
      clear hb28 ho28
      go_wp2_with fail
      refine ⟨F0.out.2.1.on F29.out.1, ?_⟩
      refine held_one 13 (by kernel_rfl) ?_
      simp only [pick, List.getD_cons_zero, List.getD_cons_succ]
      go_wp2_with fail
      refine ⟨F0.out.2.1.on F29.out.1, ?_⟩
      refine wpAnyH_done (by kernel_rfl) ?_ _
      go_wp2_with (at_builtin; refine halt ?_)
      refine Halted.go ?_
      refine Rep.append_list T27 rfl _ _ rfl (base := w2.heap.size) (m := (bodyB l).length) rfl F29.out.2 rfl (F0.out.2.2.2.below F29.out.1).sl (F0.out.2.2.2.below F29.out.1).nil (by (try simp only [List.length_append, be_length]); unfold maxLen; omega) (by (try simp only [List.length_append, be_length]); omega) F29.out.1.size ?_
      intro v30 w30 ho30 hb30 _
      have F31 := Lib.hid (And.intro (F29.out.1.trans hb30) (ho30))
      clear F29
      clear hb30 ho30
      go_wp2_with fail
      go_ret
      refine ⟨⟨_, rfl, ?_⟩, bcall F0.out.1 (Nat.le_refl _) F31.out.1⟩
      rw [HR.out]
      exact F31.out.2.mono F0.out.1.size
end Go.Proofs.Ytcbpdjenncbbeaa.Ip
/- Readers: numbers. -/
namespace Go.Proofs.Ytcbpdjenncbbeaa.Ip
open Go.RowKit

theorem or_u32 (m z : Nat) (hm : m < 16777216) (hz : z < 256) : bits .or .u32 ((m : Int) * 256) (z : Int) = ((256 * m + z : Nat) : Int) := by
  unfold bits
  dsimp only
  have h1 : BitVec.ofInt IntKind.u32.bits ((m : Int) * 256) = BitVec.ofNat 32 (m * 256) := by
    show BitVec.ofInt 32 ((m : Int) * 256) = _
    rw [show ((m : Int) * 256) = ((m * 256 : Nat) : Int) by omega, BitVec.ofInt_natCast]
  have h2 : BitVec.ofInt IntKind.u32.bits (z : Int) = BitVec.ofNat 32 z := by show BitVec.ofInt 32 (z : Int) = _; rw [BitVec.ofInt_natCast]
  rw [h1, h2]
  have h3 : (BitVec.ofNat 32 (m * 256) ||| BitVec.ofNat 32 z).toNat = 256 * m + z := by
    rw [BitVec.toNat_or, BitVec.toNat_ofNat, BitVec.toNat_ofNat, Nat.mod_eq_of_lt (by omega), Nat.mod_eq_of_lt (by omega)]
    have h := Nat.shiftLeft_add_eq_or_of_lt (i := 8) (b := z) (by omega) m
    rw [Nat.shiftLeft_eq, show (2 : Nat) ^ 8 = 256 from rfl] at h
    omega
  have h4 : IntKind.u32.wrap ((BitVec.ofNat 32 (m * 256) ||| BitVec.ofNat 32 z).toNat : Int) = ((256 * m + z : Nat) : Int) := by
    rw [h3]
    show (((256 * m + z : Nat) : Int) % 4294967296) = _
    omega
  exact h4
set_option maxRecDepth 100000 in
set_option maxHeartbeats 400000 in
theorem get_any (oa : Option Addr) (n c : Nat) (l : List Nat) (w : World) (hs : RB.Sl w oa n c l) (hb : Bytes l) (h4 : n ≤ 4) : Calls Try.prog 77 #[.slice oa n c] w fun e w' => (∃ x, e = .returned (.tuple #[.int .i64 (getN l : Nat), x])) ∧ w' = w := by
  have HS := Lib.hid (And.intro hs hb)
  have hlen := hs.len
  have HL := Lib.hid hlen
  clear hs hb
  go_enter Try.func77, Try.ntmps77
  rcases Nat.eq_zero_or_pos n with h0 | h0
  · subst h0
    obtain rfl : l = [] := List.length_eq_zero_iff.1 hlen.symm
    clear hlen
    go_wp2_with fail
    go_ret2
    exact ⟨⟨_, rfl⟩, rfl⟩
  · have g1 : ((n : Int) < 1) = False := by simp; omega
    have g2 : ((4 : Int) < (n : Int)) = False := by simp; omega
    clear hlen
    go_wp2_with fail
    go_loop [4, 6, 17] (fun nv _ iv => ∃ k : Nat, k ≤ n ∧ iv = .int .i64 k ∧ nv = .int .u32 (getN (l.take k) : Nat)) (fun _ _ iv => n - (intOf iv).toNat)
    case atStart => exact ⟨0, Nat.zero_le _, rfl, rfl⟩
    case round =>
      obtain ⟨k, hk, rfl, rfl⟩ := hrel
      by_cases hlt : k < n
      · obtain ⟨b, o, rfl, hbl, hat⟩ := HS.out.1.at hlt
        have hc := hat 0 (by decide)
        have hg : getN (l.take (k + 1)) = 256 * getN (l.take k) + l.getD k default := by rw [take_snoc l k (by rw [← HL.out]; exact hlt), getN_snoc]
        have hby : l.getD k default < 256 := HS.out.2 _ (getD_mem (by rw [← HL.out]; exact hlt))
        have hlt2 : getN (l.take k) < 16777216 := by
          have h1 := getN_lt (l.take k) (fun x hx => HS.out.2 x (List.mem_of_mem_take hx))
          have h2 : (l.take k).length ≤ 3 := by rw [List.length_take]; omega
          have h3 : 256 ^ (l.take k).length ≤ 256 ^ 3 := Nat.pow_le_pow_right (by omega) h2
          omega
        generalize l.getD k default = z at *
        generalize getN (l.take k) = m at *
        simp only [RB, Nat.mul_one, Nat.add_zero, List.getElem?_cons_zero] at hc
        have hor := or_u32 m z hlt2 hby
        have HG := Lib.hid hg
        clear hg hat
        go_wp2_with fail
        exact ⟨⟨k + 1, hlt, by rw [Int.natCast_succ], by rw [HG.out]; first | rfl | (rw [hor]) | (congr 1)⟩, by rw [← Int.natCast_succ]; exact mSucc hlt⟩
      · have hf : ((k : Int) < n) = False := by simp; omega
        have hkn : l.take k = l := List.take_of_length_le (by have := HL.out; omega)
        have hlt2 : getN l < 4294967296 := by
          have h1 := getN_lt l HS.out.2
          have h2 : l.length ≤ 4 := by have := HL.out; omega
          have h3 : 256 ^ l.length ≤ 256 ^ 4 := Nat.pow_le_pow_right (by omega) h2
          omega
        rw [hkn]
        clear hkn
        go_wp2_with fail
        go_ret2
        exact ⟨⟨_, rfl⟩, rfl⟩
/-- blocks of bytes stay as they are -/
structure Keep5 (w w' : World) : Prop where
  size : w.heap.size ≤ w'.heap.size
  blk : ∀ (b : Nat) (cs : Array Value), w.heap[b]? = some (Obj.cells cs 5) → w'.heap[b]? = w.heap[b]?
theorem Keep5.of_below {w w' : World} (h : Below w.heap.size w w') : Keep5 w w' := ⟨h.size, fun b _ hb => h.block b (lt_of_blk hb)⟩
theorem Keep5.of_but {w w' : World} {g : Nat} {cs : Array Value} {T : TypeId} (h : But w w' [g]) (hg : w.heap[g]? = some (.cells cs T)) (hT : T ≠ 5) : Keep5 w w' :=
  ⟨h.size, fun b cs' hb => h.block b (lt_of_blk hb) (by
    intro hm
    obtain rfl : b = g := by simpa using hm
    rw [hg] at hb; injection hb with hb; injection hb with _ hb _; exact hT hb)⟩
theorem Keep5.of_set {w w' : World} {q : Nat} {cs : Array Value} {T : TypeId} {o : Obj} (h : SetB w w' q o) (hq : w.heap[q]? = some (.cells cs T)) (hT : T ≠ 5) : Keep5 w w' :=
  ⟨by rw [h.size]; exact Nat.le_refl _, fun b cs' hb => h.other (by
    rintro rfl
    rw [hq] at hb; injection hb with hb; injection hb with _ hb _; exact hT hb)⟩
theorem Keep5.trans {a b c : World} (h : Keep5 a b) (k : Keep5 b c) : Keep5 a c := ⟨Nat.le_trans h.size k.size, fun q cs hq => (k.blk q cs ((h.blk q cs hq).trans hq)).trans (h.blk q cs hq)⟩
/-- a slice that reads as bytes, out of a block of bytes -/
structure B5 (w : World) (oa : Option Addr) (n c : Nat) (l : List Nat) : Prop where
  bs : BS w oa n c l
  t5 : ∀ b o, oa = some ⟨b, o, none⟩ → ∃ cs : Array Value, w.heap[b]? = some (Obj.cells cs 5)
namespace B5
variable {w w' : World} {oa : Option Addr} {n c : Nat} {l : List Nat}
theorem sl (h : B5 w oa n c l) : RB.Sl w oa n c l := h.bs.sl
theorem nil (h : B5 w oa n c l) : oa = none → c = 0 := h.bs.nil
theorem le (h : B5 w oa n c l) : n ≤ c := h.bs.le
theorem cap (h : B5 w oa n c l) : c ≤ maxLen := h.bs.cap
theorem ad (h : B5 w oa n c l) : oa = none ∨ ∃ b o, oa = some ⟨b, o, none⟩ := h.bs.ad
theorem keep (h : B5 w oa n c l) (hb : Keep5 w w') : B5 w' oa n c l :=
  ⟨⟨⟨h.sl.len, h.sl.max, fun h0 => by
    obtain ⟨b, o, e, hr⟩ := h.sl.row h0
    obtain ⟨cs, hcs⟩ := h.t5 b o e
    exact ⟨b, o, e, Nat.lt_of_lt_of_le hr.lt hb.size, fun i hi => (hr.get i hi).keep (hb.blk b cs hcs)⟩⟩, h.nil, h.le, h.cap, h.ad⟩, fun b o e => by
    obtain ⟨cs, hcs⟩ := h.t5 b o e
    exact ⟨cs, (hb.blk b cs hcs).trans hcs⟩⟩
theorem below (h : B5 w oa n c l) (hb : Below w.heap.size w w') : B5 w' oa n c l := h.keep (.of_below hb)
end B5
theorem b5_own {w : World} {base : Nat} {v : Value} {l : List Nat} (h : RB.Own w base v l) : ∃ oa c, v = .slice oa l.length c ∧ B5 w oa l.length c l := by
  obtain ⟨oa, c, hv, hs⟩ := bs_own h
  refine ⟨oa, c, hv, hs, fun b o e => ?_⟩
  rcases h.2 with ⟨h2, _⟩ | ⟨g, cap, cur, hv2, _, hh, _⟩
  · rw [hv] at h2; injection h2 with h2; rw [e] at h2; cases h2
  · rw [hv] at hv2
    injection hv2 with hv2
    rw [e] at hv2
    injection hv2 with hv2
    injection hv2 with hv2
    subst hv2
    exact ⟨cur, hh⟩
/-- a reader at a block: what is left, and whether it is bad -/
structure RdAt (T : TypeId) (g : Nat) (l : List Nat) (bad : Bool) (w : World) : Prop where
  out : ∃ oa n c, w.heap[g]? = some (.cells #[.slice oa n c, .bool bad] T) ∧ B5 w oa n c l ∧ ∀ b o, oa = some ⟨b, o, none⟩ → b ≠ g
  bytes : Bytes l
  le : l.length ≤ 100000
  t5 : T ≠ 5
/-- the next n bytes -/
def rdB (n : Int) (l : List Nat) (bad : Bool) : List Nat × List Nat × Bool := if bad = true ∨ n < 0 ∨ (l.length : Int) < n then ([], l, true) else (l.take n.toNat, l.drop n.toNat, false)
theorem BS.tail {w : World} {b o n c : Nat} {l : List Nat} (h : BS w (some ⟨b, o, none⟩) n c l) {k : Nat} (hk : k ≤ n) : BS w (some ⟨b, o + k, none⟩) (n - k) (c - k) (l.drop k) := by
  refine ⟨⟨by rw [List.length_drop, ← h.sl.len], by have := h.sl.max; omega, fun h0 => ?_⟩, by simp, by have := h.le; omega, by have := h.cap; omega, .inr ⟨_, _, rfl⟩⟩
  obtain ⟨b', o', e, hr⟩ := h.sl.row (by omega)
  cases e
  refine ⟨b, o + k, rfl, hr.lt, fun i hi => ?_⟩
  rw [List.length_drop] at hi
  have := hr.get (k + i) (by omega)
  intro j hj
  have h2 := this j hj
  simp only [RB, Nat.mul_one] at h2 ⊢
  rw [show o + k + i + j = o + (k + i) + j by omega, h2]
  simp [List.getD_eq_getElem?_getD, List.getElem?_drop]
theorem BS.init {w : World} {oa : Option Addr} {n c : Nat} {l : List Nat} (h : BS w oa n c l) {k : Nat} (hk : k ≤ n) : RB.Sl w oa k c (l.take k) := by
  have hl := h.sl.len
  refine ⟨by rw [List.length_take]; omega, by have := h.sl.max; omega, fun h0 => ?_⟩
  obtain ⟨b, o, e, hr⟩ := h.sl.row (by omega)
  refine ⟨b, o, e, hr.lt, fun i hi => ?_⟩
  rw [List.length_take] at hi
  have := hr.get i (by omega)
  intro j hj
  rw [this j hj]
  have : (l.take k).getD i default = l.getD i default := by simp [List.getD_eq_getElem?_getD, show i < k by omega]
  rw [this]
theorem B5.tail {w : World} {b o n c : Nat} {l : List Nat} (h : B5 w (some ⟨b, o, none⟩) n c l) {k : Nat} (hk : k ≤ n) : B5 w (some ⟨b, o + k, none⟩) (n - k) (c - k) (l.drop k) := by
  refine ⟨h.bs.tail hk, fun b' o' e => ?_⟩
  injection e with e; injection e with e _ _; subst e
  exact h.t5 _ _ rfl
theorem B5.init {w : World} {oa : Option Addr} {n c : Nat} {l : List Nat} (h : B5 w oa n c l) {k : Nat} (hk : k ≤ n) : RB.Sl w oa k c (l.take k) := h.bs.init hk
theorem Bytes.drop {l : List Nat} (h : Bytes l) (k : Nat) : Bytes (l.drop k) := fun x hx => h x (List.mem_of_mem_drop hx)
theorem Bytes.take {l : List Nat} (h : Bytes l) (k : Nat) : Bytes (l.take k) := fun x hx => h x (List.mem_of_mem_take hx)
theorem RdAt.keep {T : TypeId} {g : Nat} {l : List Nat} {bad : Bool} {w w' : World} (h : RdAt T g l bad w) (hb : Keep5 w w') (hg : w'.heap[g]? = w.heap[g]?) : RdAt T g l bad w' := by
  obtain ⟨⟨oa, n, c, h1, h2, h3⟩, h4, h5, h6⟩ := h
  exact ⟨⟨oa, n, c, hg.trans h1, h2.keep hb, h3⟩, h4, h5, h6⟩
theorem RdAt.lt {T : TypeId} {g : Nat} {l : List Nat} {bad : Bool} {w : World} (h : RdAt T g l bad w) : g < w.heap.size := by
  obtain ⟨⟨oa, n, c, h1, h2, h3⟩, h4, h5⟩ := h
  exact lt_of_blk h1
theorem RdAt.on {T : TypeId} {g : Nat} {l : List Nat} {bad : Bool} {w w' : World} (h : RdAt T g l bad w) (hb : Below w.heap.size w w') : RdAt T g l bad w' := h.keep (.of_below hb) (hb.block g h.lt)
theorem RdAt.k5 {T : TypeId} {g : Nat} {l : List Nat} {bad : Bool} {w w' : World} (h : RdAt T g l bad w) (hb : But w w' [g]) : Keep5 w w' := by
  obtain ⟨⟨oa, n, c, h1, h2, h3⟩, h4, h5, h6⟩ := h
  exact .of_but hb h1 h6
theorem RdAt.spoil {T : TypeId} {g : Nat} {oa : Option Addr} {n c : Nat} {l : List Nat} {bad : Bool} {w : World} (hg : w.heap[g]? = some (.cells #[.slice oa n c, .bool bad] T)) (hT : T ≠ 5) (hbs : B5 w oa n c l) (hne : ∀ b o, oa = some ⟨b, o, none⟩ → b ≠ g) (hby : Bytes l) (hle : l.length ≤ 100000) :
    RdAt T g l true (w.setCell ⟨g, 1, none⟩ (.bool true)) ∧ But w (w.setCell ⟨g, 1, none⟩ (.bool true)) [g] := by
  have hbut : But w (w.setCell ⟨g, 1, none⟩ (.bool true)) [g] := (But.refl w [g]).setCell (.inr (by simp)) _
  refine ⟨⟨⟨oa, n, c, ?_, hbs.keep (.of_but hbut hg hT), hne⟩, hby, hle, hT⟩, hbut⟩
  have := setCell_blk hg 1 (.bool true)
  rw [this]; rfl
theorem RdAt.adv {T : TypeId} {g : Nat} {oa oa' : Option Addr} {n c n' c' : Nat} {l' : List Nat} {bad : Bool} {w : World} (hg : w.heap[g]? = some (.cells #[.slice oa n c, .bool bad] T)) (hT : T ≠ 5) (hbs : B5 w oa' n' c' l') (hne : ∀ b o, oa' = some ⟨b, o, none⟩ → b ≠ g) (hby : Bytes l') (hle : l'.length ≤ 100000) :
    RdAt T g l' bad (w.setCell ⟨g, 0, none⟩ (.slice oa' n' c')) ∧ But w (w.setCell ⟨g, 0, none⟩ (.slice oa' n' c')) [g] := by
  have hbut : But w (w.setCell ⟨g, 0, none⟩ (.slice oa' n' c')) [g] := (But.refl w [g]).setCell (.inr (by simp)) _
  refine ⟨⟨⟨oa', n', c', ?_, hbs.keep (.of_but hbut hg hT), hne⟩, hby, hle, hT⟩, hbut⟩
  have := setCell_blk hg 0 (.slice oa' n' c')
  rw [this]; rfl
set_option maxRecDepth 100000 in
set_option maxHeartbeats 400000 in
theorem rbytes_any {g : Nat} {l : List Nat} {bad : Bool} {w : World} (h : RdAt 137 g l bad w) (n : Int) : Calls Try.prog 66 #[.pointer (some ⟨g, 0, none⟩), .int .i64 n] w fun e w' => (∃ v, e = .returned v ∧ RB.Own w' w.heap.size v (rdB n l bad).1) ∧ RdAt 137 g (rdB n l bad).2.1 (rdB n l bad).2.2 w' ∧ But w w' [g] := by
  obtain ⟨⟨oa, m, c, hg, hbs, hne⟩, hby, hle, -⟩ := h
  have hlen := hbs.sl.len.symm
  have e0 := cell_of (o := 0) hg rfl
  have e1 := cell_of (o := 1) hg rfl
  have f0 : w.frozen? ⟨g, 0, none⟩ = false := free_of hg
  have f1 : w.frozen? ⟨g, 1, none⟩ = false := free_of hg
  have HB := Lib.hid (And.intro hg (And.intro hbs (And.intro hne (And.intro hby hle))))
  clear hg hbs hne hby
  have hm : m ≤ 100000 := by omega
  have HL := Lib.hid hlen
  clear hle hlen
  go_enter Try.func66, Try.ntmps66
  have hs := RdAt.spoil HB.out.1 (by decide) HB.out.2.1 HB.out.2.2.1 HB.out.2.2.2.1 HB.out.2.2.2.2
  have HS := Lib.hid hs
  clear hs
  cases bad with
  | true =>
    have hr : rdB n l true = ([], l, true) := by simp [rdB]
    rw [hr]
    dsimp only
    clear hr
    go_wp2_with fail
    go_ret
    exact ⟨⟨_, rfl, Rep.Own.nil _ _⟩, HS.out.1, HS.out.2⟩
  | false =>
    by_cases h0 : n < 0
    · have hr : rdB n l false = ([], l, true) := by simp [rdB, h0]
      rw [hr]
      dsimp only
      have g0 : (n < 0) = True := by simp [h0]
      clear hr h0
      go_wp2_with fail
      go_ret
      exact ⟨⟨_, rfl, Rep.Own.nil _ _⟩, HS.out.1, HS.out.2⟩
    · obtain ⟨k, rfl⟩ := Int.eq_ofNat_of_zero_le (a := n) (by omega)
      have g0 : ((k : Int) < 0) = False := by simp
      clear h0
      by_cases h1 : m < k
      · have hr : rdB k l false = ([], l, true) := by have := HL.out; simp [rdB]; omega
        rw [hr]
        dsimp only
        have g1 : ((m : Int) < (k : Int)) = True := by simp [h1]
        clear hr
        go_wp2_with fail
        go_ret
        exact ⟨⟨_, rfl, Rep.Own.nil _ _⟩, HS.out.1, HS.out.2⟩
      · have hr : rdB k l false = (l.take k, l.drop k, false) := by have := HL.out; simp [rdB]; omega
        rw [hr]
        dsimp only
        have g1 : ((m : Int) < (k : Int)) = False := by simp; omega
        have hkm : k ≤ m := by omega
        have hmc := HB.out.2.1.le
        have hcm := HB.out.2.1.cap
        clear hr HS
        have fin : ∀ (w1 : World) (v1 : Value) (oa' : Option Addr) (n' c' : Nat), w1.heap[g]? = some (.cells #[.slice oa m c, .bool false] 137) → RB.Own w1 w.heap.size v1 (l.take k) → Below w.heap.size w w1 → B5 w1 oa' n' c' (l.drop k) → (∀ b o, oa' = some ⟨b, o, none⟩ → b ≠ g) → (∃ v, Ending.returned v1 = .returned v ∧ RB.Own (w1.setCell ⟨g, 0, none⟩ (.slice oa' n' c')) w.heap.size v (l.take k)) ∧ RdAt 137 g (l.drop k) false (w1.setCell ⟨g, 0, none⟩ (.slice oa' n' c')) ∧ But w (w1.setCell ⟨g, 0, none⟩ (.slice oa' n' c')) [g] := by
          intro w1 v1 oa' n' c' q1 q2 q3 q4 q5
          have h := RdAt.adv q1 (by decide) q4 q5 (HB.out.2.2.2.1.drop k) (by rw [List.length_drop]; have := HB.out.2.2.2.2; omega)
          have hglt := lt_of_blk HB.out.1
          exact ⟨⟨_, rfl, q2.but h.2 (by intro x hx; simp at hx; omega)⟩, h.1, (But.of_below q3 [g]).trans h.2⟩
        have HI := Lib.hid fin
        clear fin
        cases oa with
        | none =>
          obtain rfl : c = 0 := HB.out.2.1.nil rfl
          obtain rfl : m = 0 := by omega
          obtain rfl : k = 0 := by omega
          go_wp2_with fail
          refine (clone_any (HB.out.2.1.init hkm) (fun h => rfl) (by omega)).mono ?_
          rintro e w1 ⟨v1, rfl, ho1, hb1⟩
          have hg1 := (hb1.block g (lt_of_blk HB.out.1)).trans HB.out.1
          clear e0 e1 f0 f1
          have e0 := cell_of (o := 0) hg1 rfl
          have f0 : w1.frozen? ⟨g, 0, none⟩ = false := free_of hg1
          have hbs1 := HB.out.2.1.below hb1
          have HC := Lib.hid (And.intro hg1 (And.intro ho1 (And.intro hb1 hbs1)))
          clear hg1 ho1 hb1 hbs1
          go_wp2_with fail
          go_ret
          exact HI.out _ _ _ _ _ HC.out.1 HC.out.2.1 HC.out.2.2.1 HC.out.2.2.2 (by intro b o h; cases h)
        | some ad =>
          obtain ⟨b, o, had⟩ : ∃ b o, ad = ⟨b, o, none⟩ := by
            rcases HB.out.2.1.ad with h | ⟨b, o, h⟩
            · cases h
            · exact ⟨b, o, by injection h⟩
          subst had
          have hbg : b ≠ g := HB.out.2.2.1 b o rfl
          go_wp2_with fail
          refine (clone_any (HB.out.2.1.init hkm) (fun h => by cases h) (by omega)).mono ?_
          rintro e w1 ⟨v1, rfl, ho1, hb1⟩
          have hg1 := (hb1.block g (lt_of_blk HB.out.1)).trans HB.out.1
          clear e0 e1 f0 f1
          have e0 := cell_of (o := 0) hg1 rfl
          have f0 : w1.frozen? ⟨g, 0, none⟩ = false := free_of hg1
          have hbs1 := HB.out.2.1.below hb1
          have HC := Lib.hid (And.intro hg1 (And.intro ho1 (And.intro hb1 (And.intro hbs1 hbg))))
          clear hg1 ho1 hb1 hbs1 hbg
          by_cases hck : c = k
          · subst hck
            obtain rfl : m = c := by omega
            go_wp2_with fail
            go_ret
            refine HI.out _ _ _ _ _ HC.out.1 HC.out.2.1 HC.out.2.2.1 ?_ (by intro b' o' h; injection h with h; injection h with h1 _ _; rw [← h1]; exact HC.out.2.2.2.2)
            rw [List.drop_eq_nil_of_le (by have := HL.out; omega)]
            exact ⟨⟨⟨by simp, by unfold maxLen; omega, fun h0 => absurd h0 (by omega)⟩, by simp, by omega, by unfold maxLen; omega, .inr ⟨_, _, rfl⟩⟩, HC.out.2.2.2.1.t5⟩
          · go_wp2_with fail
            go_ret
            exact HI.out _ _ _ _ _ HC.out.1 HC.out.2.1 HC.out.2.2.1 (HC.out.2.2.2.1.tail hkm) (by intro b' o' h; injection h with h; injection h with h1 _ _; rw [← h1]; exact HC.out.2.2.2.2)
theorem rdB_len (k : Nat) (l : List Nat) (bad : Bool) : (rdB k l bad).1.length ≤ k := by
  unfold rdB; split <;> simp; omega
theorem rdB_bytes (n : Int) (l : List Nat) (bad : Bool) (h : Bytes l) : Bytes (rdB n l bad).1 := by
  unfold rdB; split
  · intro x hx; cases hx
  · exact h.take _
set_option maxRecDepth 100000 in
set_option maxHeartbeats 400000 in
theorem num_any {k : Nat} (hk : k = 2 ∨ k = 4) {g : Nat} {l : List Nat} {bad : Bool} {w : World} (h : RdAt 137 g l bad w) : Calls Try.prog 65 #[.pointer (some ⟨g, 0, none⟩), .int .i64 k] w fun e w' => e = .returned (.int .i64 (getN (rdB k l bad).1 : Nat)) ∧ RdAt 137 g (rdB k l bad).2.1 (rdB k l bad).2.2 w' ∧ But w w' [g] := by
  have HB := Lib.hid h
  clear h
  have h1 : ((k : Int) < 1) = False := by simp; omega
  have h2 : ((4 : Int) < (k : Int)) = False := by simp; omega
  have hrl := rdB_len k l bad
  have hby := rdB_bytes k l bad HB.out.bytes
  have hrb := rbytes_any HB.out (k : Int)
  generalize rdB k l bad = R at *
  have HR := Lib.hid (And.intro hrl (And.intro hby hrb))
  clear hrl hby hrb
  go_enter Try.func65, Try.ntmps65
  go_wp2_with fail
  refine (HR.out.2.2).mono ?_
  rintro e w1 ⟨⟨v1, rfl, ho1⟩, hr1, hb1⟩
  obtain ⟨oa1, c1, rfl, hs1⟩ := bs_own ho1
  have HC := Lib.hid (And.intro hs1 (And.intro hr1 hb1))
  clear hs1 hr1 hb1 ho1
  go_wp2_with fail
  refine (get_any _ _ _ _ _ HC.out.1.sl HR.out.2.1 (by have := HR.out.1; omega)).mono ?_
  rintro e w2 ⟨⟨x, rfl⟩, rfl⟩
  go_wp2_with fail
  go_ret
  exact ⟨rfl, HC.out.2.1, HC.out.2.2⟩
theorem two_rd {g : Nat} {l : List Nat} {bad : Bool} {w : World} (h : RdAt 137 g l bad w) : Calls Try.prog 50 #[.agg #[.pointer (some ⟨g, 0, none⟩)]] w fun e w' => e = .returned (.int .i64 (getN (rdB 2 l bad).1 : Nat)) ∧ RdAt 137 g (rdB 2 l bad).2.1 (rdB 2 l bad).2.2 w' ∧ But w w' [g] := by
  have hal := (Below.refl w.heap.size w).alloc (Nat.le_refl _) (.cells #[.pointer (some ⟨g, 0, none⟩)] 113)
  have hn := num_any (k := 2) (.inl rfl) (h.on hal)
  generalize rdB ((2 : Nat) : Int) l bad = R at *
  have HB := Lib.hid (And.intro hal hn)
  clear h hal hn
  go_enter Try.func50, Try.ntmps50
  go_wp2_with fail
  refine (HB.out.2).mono ?_
  rintro e w1 ⟨rfl, hr1, hb1⟩
  have HC := Lib.hid (And.intro hr1 ((But.of_below HB.out.1 [g]).trans hb1))
  clear hr1 hb1
  go_wp2_with fail
  go_ret
  exact ⟨rfl, HC.out.1, HC.out.2⟩
theorem four_rd {g : Nat} {l : List Nat} {bad : Bool} {w : World} (h : RdAt 137 g l bad w) : Calls Try.prog 51 #[.agg #[.pointer (some ⟨g, 0, none⟩)]] w fun e w' => e = .returned (.int .i64 (getN (rdB 4 l bad).1 : Nat)) ∧ RdAt 137 g (rdB 4 l bad).2.1 (rdB 4 l bad).2.2 w' ∧ But w w' [g] := by
  have hal := (Below.refl w.heap.size w).alloc (Nat.le_refl _) (.cells #[.pointer (some ⟨g, 0, none⟩)] 113)
  have hn := num_any (k := 4) (.inr rfl) (h.on hal)
  generalize rdB ((4 : Nat) : Int) l bad = R at *
  have HB := Lib.hid (And.intro hal hn)
  clear h hal hn
  go_enter Try.func51, Try.ntmps51
  go_wp2_with fail
  refine (HB.out.2).mono ?_
  rintro e w1 ⟨rfl, hr1, hb1⟩
  have HC := Lib.hid (And.intro hr1 ((But.of_below HB.out.1 [g]).trans hb1))
  clear hr1 hb1
  go_wp2_with fail
  go_ret
  exact ⟨rfl, HC.out.1, HC.out.2⟩
theorem bad_any {g : Nat} {l : List Nat} {bad : Bool} {w : World} (h : RdAt 137 g l bad w) : Calls Try.prog 54 #[.pointer (some ⟨g, 0, none⟩)] w fun e w' => e = .returned (.bool bad) ∧ w' = w := by
  obtain ⟨⟨oa, m, c, hg, -, -⟩, -, -, -⟩ := h
  have e1 := cell_of (o := 1) hg rfl
  clear hg
  go_enter Try.func54, Try.ntmps54
  go_wp2_with fail
  go_ret
  exact ⟨rfl, rfl⟩
theorem left_any {g : Nat} {l : List Nat} {bad : Bool} {w : World} (h : RdAt 137 g l bad w) : Calls Try.prog 52 #[.pointer (some ⟨g, 0, none⟩)] w fun e w' => e = .returned (.int .i64 (if bad then 0 else l.length : Nat)) ∧ w' = w := by
  have h0 := h
  obtain ⟨⟨oa, m, c, hg, hbs, -⟩, -, -, -⟩ := h
  have e0 := cell_of (o := 0) hg rfl
  have H := Lib.hid (And.intro h0 hbs.sl.len)
  clear hg h0 hbs
  go_enter Try.func52, Try.ntmps52
  cases bad with
  | true =>
    go_wp2_with fail
    refine (bad_any H.out.1).mono ?_
    rintro e w1 ⟨rfl, rfl⟩
    go_wp2_with fail
    go_ret
    exact ⟨rfl, rfl⟩
  | false =>
    go_wp2_with fail
    refine (bad_any H.out.1).mono ?_
    rintro e w1 ⟨rfl, rfl⟩
    go_wp2_with fail
    go_ret
    exact ⟨by rw [← H.out.2]; rfl, rfl⟩
/-- a reader of bytes -/
theorem from_any {w : World} {oa : Option Addr} {n c : Nat} {l : List Nat} (h : RB.Sl w oa n c l) (hnil : oa = none → c = 0) (hby : Bytes l) (hn : n ≤ 100000) : Calls Try.prog 49 #[.slice oa n c] w fun e w' => (∃ g, e = .returned (.pointer (some ⟨g, 0, none⟩)) ∧ w.heap.size ≤ g ∧ RdAt 137 g l false w') ∧ Below w.heap.size w w' := by
  have HB := Lib.hid (And.intro h (And.intro hnil hby))
  have hlen := h.len
  have HL := Lib.hid hlen
  clear h hnil hby hlen
  go_enter Try.func49, Try.ntmps49
  go_wp2_with fail
  refine (clone_any HB.out.1 HB.out.2.1 (by omega)).mono ?_
  rintro e w1 ⟨v1, rfl, ho1, hb1⟩
  obtain ⟨oa1, c1, rfl, hs1⟩ := b5_own ho1
  have hlt1 : ∀ b o, oa1 = some ⟨b, o, none⟩ → b ≠ w1.heap.size := by
    rintro b o rfl
    have := (World.ownsRow.lt ho1 b rfl).2
    omega
  have hal := (Below.refl w1.heap.size w1).alloc (Nat.le_refl _) (.cells #[.slice oa1 l.length c1, .bool false] 137)
  have HC := Lib.hid (And.intro (bcall hb1 (Nat.le_refl _) hal) (And.intro (hs1.below hal) (And.intro hlt1 hb1.size)))
  clear hs1 hb1 ho1 hlt1 hal
  go_wp2_with fail
  go_ret
  exact ⟨⟨_, rfl, HC.out.2.2.2, ⟨⟨_, _, _, hnew _ _, HC.out.2.1, HC.out.2.2.1⟩, HB.out.2.2, by have := HL.out; omega, by decide⟩⟩, HC.out.1⟩
end Go.Proofs.Ytcbpdjenncbbeaa.Ip
/- The reference's reader. -/
namespace Go.Proofs.Ytcbpdjenncbbeaa.Ip
open Go.RowKit

end Go.Proofs.Ytcbpdjenncbbeaa.Ip
/- The next set. -/
namespace Go.Proofs.Ytcbpdjenncbbeaa.Ip
open Go.RowKit

/-- a set's number and data, and the reader behind it -/
def rdSet (l : List Nat) (bad : Bool) : (Nat × List Nat) × List Nat × Bool :=
  let a := rdB 2 l bad
  let b := rdB 2 a.2.1 a.2.2
  let d := rdB ((getN b.1 : Int) - 4) b.2.1 b.2.2
  ((getN a.1, d.1), d.2)
theorem getN_two {n : Int} {l : List Nat} {bad : Bool} (h : Bytes l) (hn : n ≤ 2) : getN (rdB n l bad).1 < 65536 := by
  have h1 := getN_lt _ (rdB_bytes n l bad h)
  have h2 : (rdB n l bad).1.length ≤ 2 := by unfold rdB; split <;> simp; omega
  have h3 : 256 ^ (rdB n l bad).1.length ≤ 256 ^ 2 := Nat.pow_le_pow_right (by omega) h2
  omega
theorem own_base {w : World} {base n c : Nat} {oa : Option Addr} {l : List Nat} (h : RB.Own w base (.slice oa n c) l) : ∀ b o, oa = some ⟨b, o, none⟩ → base ≤ b := by
  intro b o e
  obtain ⟨a, c', hv, -, -, -, hb⟩ := h.sl
  simp only [Value.slice.injEq] at hv
  exact hb b o (hv.1 ▸ e)
def BxS (b : Nat) (v : Value) (T : TypeId) (w : World) : Prop := w.heap[b]? = some (.cells #[v] T)
theorem BxS.cell {b : Nat} {v : Value} {T : TypeId} {w : World} (h : BxS b v T w) : w.cell? ⟨b, 0, none⟩ = some v := cell_of h rfl
theorem BxS.but {b : Nat} {v : Value} {T : TypeId} {w w' : World} {bs : List Nat} (h : BxS b v T w) (hb : But w w' bs) (hn : b ∉ bs) : BxS b v T w' := (hb.block b (lt_of_blk h) hn).trans h
set_option maxRecDepth 100000 in
set_option maxHeartbeats 400000 in
theorem set_rd {g : Nat} {l : List Nat} {bad : Bool} {w : World} (h : RdAt 137 g l bad w) : Calls Try.prog 53 #[.agg #[.pointer (some ⟨g, 0, none⟩)]] w fun e w' => (∃ oa n c, e = .returned (.agg #[.int .i64 ((rdSet l bad).1.1 : Nat), .slice oa n c]) ∧ B5 w' oa n c (rdSet l bad).1.2 ∧ ∀ b o, oa = some ⟨b, o, none⟩ → w.heap.size ≤ b) ∧ RdAt 137 g (rdSet l bad).2.1 (rdSet l bad).2.2 w' ∧ But w w' [g] := by
  obtain ⟨R1, hR1⟩ : ∃ R1, R1 = rdB 2 l bad := ⟨_, rfl⟩
  obtain ⟨R2, hR2⟩ : ∃ R2, R2 = rdB 2 R1.2.1 R1.2.2 := ⟨_, rfl⟩
  obtain ⟨R3, hR3⟩ : ∃ R3, R3 = rdB ((getN R2.1 : Int) - 4) R2.2.1 R2.2.2 := ⟨_, rfl⟩
  have hrs : rdSet l bad = ((getN R1.1, R3.1), R3.2) := by subst hR3; subst hR2; subst hR1; rfl
  rw [hrs]
  dsimp only
  have HR := Lib.hid (And.intro hR1 (And.intro hR2 hR3))
  clear hrs hR1 hR2 hR3
  have hg := h.lt
  have h1 : BxS w.heap.size (.pointer (some ⟨g, 0, none⟩)) 113 ((w.alloc (.cells #[.pointer (some ⟨g, 0, none⟩)] 113)).alloc (.cells #[.int .i64 0, .slice none 0 0] 83)) := hold (hnew _ _)
  have h2 := hnewAt (w := w.alloc (.cells #[.pointer (some ⟨g, 0, none⟩)] 113)) (o := .cells #[.int .i64 0, .slice none 0 0] 83) (n := w.heap.size + 1) (Array.size_push _).symm
  have hb := ((Below.refl w.heap.size w).alloc (Nat.le_refl _) (.cells #[.pointer (some ⟨g, 0, none⟩)] 113)).alloc (by simp) (.cells #[.int .i64 0, .slice none 0 0] 83)
  have e0 := h1.cell
  go_enter Try.func53, Try.ntmps53
  go_wp2_with fail
  have F := Lib.hid (And.intro (h.on hb) (And.intro h1 (And.intro h2 (But.of_below hb [g]))))
  clear h hb h1 h2 e0
  generalize (w.alloc (.cells #[.pointer (some ⟨g, 0, none⟩)] 113)).alloc (.cells #[.int .i64 0, .slice none 0 0] 83) = W at *
  have hn1 : w.heap.size ∉ [g] := by simp; omega
  have hn2 : w.heap.size + 1 ∉ [g] := by simp; omega
  have HN := Lib.hid (And.intro hn1 hn2)
  clear hn1 hn2 hg
  have c1 := two_rd F.out.1
  rw [← HR.out.1] at c1
  have HC := Lib.hid c1
  clear c1
  refine (HC.out).mono ?_
  rintro e W1 ⟨rfl, hr1, hb1⟩
  have F1 := Lib.hid (And.intro hr1 (And.intro (F.out.2.1.but hb1 HN.out.1) (And.intro ((hb1.block _ (lt_of_blk F.out.2.2.1) HN.out.2).trans F.out.2.2.1) (F.out.2.2.2.trans hb1))))
  clear hr1 hb1 F HC
  go_wp2_with fail
  refine wp_region_heldP (BxS w.heap.size (.pointer (some ⟨g, 0, none⟩)) 113) (by kernel_rfl) ?_
  have hd := (Below.refl W1.heap.size W1).drew
  have F2 := Lib.hid (And.intro (F1.out.1.on hd) (And.intro (F1.out.2.1.but (But.of_below hd [g]) HN.out.1) (And.intro ((hd.block _ (lt_of_blk F1.out.2.2.1)).trans F1.out.2.2.1) (F1.out.2.2.2.trans (But.of_below hd [g])))))
  clear F1 hd
  generalize W1.drew = W2 at *
  refine held_reads [0, 1, 2, 3] (g := 5) rfl (by kernel_rfl) F2.out.2.1 (fun _ _ d _ _ h => by cases d <;> exact h) ?_
  simp only [pick, List.getD_cons_zero, List.getD_cons_succ]
  iterate 4 ((with_reducible refine wpRead_step (fun K hK => ?_)); go_simp; first | ((with_reducible refine hK _ ?_); clear hK K) | (apply Exists.intro; (with_reducible refine ⟨fun w' hw' => ?_, hK _ ?_⟩); (have f0 := cell_of (o := 0) hw' rfl; go_simp; first | exact rfl | exact ⟨rfl, rfl⟩); clear hK K))
  with_reducible refine wpRead_nil ?_
  refine held_one 4 (by kernel_rfl) ?_
  simp only [pick, List.getD_cons_zero, List.getD_cons_succ]
  have c1 := two_rd F2.out.1
  rw [← HR.out.2.1] at c1
  have hlt : getN R2.1 < 65536 := by rw [HR.out.2.1]; exact getN_two F2.out.1.bytes (by omega)
  have HC := Lib.hid c1
  clear c1
  go_wp2_with fail
  refine (HC.out).mono ?_
  rintro e W3 ⟨rfl, hr1, hb1⟩
  have F3 := Lib.hid (And.intro hr1 (And.intro (F2.out.2.1.but hb1 HN.out.1) (And.intro ((hb1.block _ (lt_of_blk F2.out.2.2.1) HN.out.2).trans F2.out.2.2.1) (F2.out.2.2.2.trans hb1))))
  clear hr1 hb1 F2 HC
  go_wp2_with fail
  refine ⟨F3.out.2.1, ?_⟩
  have hw1 : IntKind.i64.wrap ((getN R2.1 : Int) - 4) = (getN R2.1 : Int) - 4 := IntWalk.i64_in _ (by omega)
  refine held_one 5 (by kernel_rfl) ?_
  simp only [pick, List.getD_cons_zero, List.getD_cons_succ]
  go_wp2_with fail
  refine ⟨F3.out.2.1, ?_⟩
  refine held_one 6 (by kernel_rfl) ?_
  simp only [pick, List.getD_cons_zero, List.getD_cons_succ]
  have c1 := rbytes_any F3.out.1 ((getN R2.1 : Int) - 4)
  rw [← HR.out.2.2] at c1
  have HC := Lib.hid c1
  clear c1 hw1 hlt
  go_wp2_with fail
  refine (HC.out).mono ?_
  rintro e W4 ⟨⟨v4, rfl, ho4⟩, hr1, hb1⟩
  obtain ⟨oa4, c4, rfl, hs4⟩ := b5_own ho4
  have hnew4 : ∀ b o, oa4 = some ⟨b, o, none⟩ → w.heap.size + 2 ≤ b := by
    intro b o e
    have h1 := own_base ho4 b o e
    have h2 := lt_of_blk F3.out.2.2.1
    omega
  have F4 := Lib.hid (And.intro hr1 (And.intro (F3.out.2.1.but hb1 HN.out.1) (And.intro ((hb1.block _ (lt_of_blk F3.out.2.2.1) HN.out.2).trans F3.out.2.2.1) (And.intro (F3.out.2.2.2.trans hb1) (And.intro hs4 hnew4)))))
  clear hr1 hb1 F3 HC ho4 hs4 hnew4
  go_wp2_with fail
  refine ⟨F4.out.2.1, ?_⟩
  refine held_one 7 (by kernel_rfl) ?_
  simp only [pick, List.getD_cons_zero, List.getD_cons_succ]
  go_wp2_with fail
  refine ⟨F4.out.2.1, ?_⟩
  refine held_one 8 (by kernel_rfl) ?_
  simp only [pick, List.getD_cons_zero, List.getD_cons_succ]
  refine store_whole rfl 83 _ _ rfl (w.heap.size + 1) #[.int .i64 (getN R1.1 : Int), .slice oa4 R3.1.length c4] rfl rfl F4.out.2.2.1 rfl (by kernel_rfl) (by simp [Value.oneCell']) ?_
  intro W5 hw5 hset5
  have hk5 : Keep5 W4 W5 := .of_set hset5 F4.out.2.2.1 (by decide)
  have hr5 := F4.out.1.keep hk5 (hset5.other (by have := HN.out.2; simp at this; omega))
  have hbs5 := F4.out.2.2.2.2.1.keep hk5
  have hbx : BxS w.heap.size (.pointer (some ⟨g, 0, none⟩)) 113 W5 := (hset5.other (by omega)).trans F4.out.2.1
  have F5 := Lib.hid (And.intro hr5 (And.intro hbx (And.intro hw5 (And.intro (F4.out.2.2.2.1.thenSet hset5 (.inl (by omega))) (And.intro hbs5 F4.out.2.2.2.2.2)))))
  clear hk5 hr5 hbs5 hbx hw5 hset5 F4
  go_wp2_with fail
  refine ⟨F5.out.2.1, ?_⟩
  refine wpAnyH_done (by kernel_rfl) ?_ _
  go_wp2_with fail
  refine ret_cell rfl rfl rfl F5.out.2.2.1 Try.underlying83 rfl (by kernel_rfl) ?_
  exact ⟨⟨_, _, _, rfl, F5.out.2.2.2.2.1, fun b o e => by have := F5.out.2.2.2.2.2 b o e; omega⟩, F5.out.1, F5.out.2.2.2.1⟩
end Go.Proofs.Ytcbpdjenncbbeaa.Ip
