/- The reference's Put. -/
import Derived.Test.YtjjhnnnpikfjpaaNi
import Derived.Test.YtjjhnnnpikfjpaaAq
namespace Go.Proofs.Ytjjhnnnpikfjpaa
open Go.RowKit

theorem StS.same {b : Nat} {cs : Array Value} {w w' : World} (e : w'.heap[b]? = w.heap[b]?) (h : StS b cs w) : StS b cs w' := e.trans h
theorem PkS.same {b : Nat} {cs : Array Value} {w w' : World} (e : w'.heap[b]? = w.heap[b]?) (h : PkS b cs w) : PkS b cs w' := e.trans h
set_option maxRecDepth 100000 in
set_option maxHeartbeats 1000000 in
theorem rput_ok (p : Pk) (w : World) (hs : StsOk w p.ss) (hok : okP p = true) (hcnt : p.ss.l.length ≤ 1000) : Calls Try.prog 12 #[p.v] w fun e w' => (∃ v, e = .returned v ∧ RB.Own w' w.heap.size v (pkB p)) ∧ Below w.heap.size w w' := by
  obtain ⟨⟨a, b, d, ha, hb, hd, ha2, hb2, hd2⟩, hz⟩ := okP_nat hok
  obtain ⟨hz1, hz2⟩ := sz_ok p.ss.l 16 hz
  have hal := (Below.refl w.heap.size w).alloc (Nat.le_refl _) (.cells #[.int .i64 p.tm, .int .i64 p.sq, .int .i64 p.dm, .slice p.ss.a p.ss.n p.ss.c] 24)
  have hnew0 : PkS w.heap.size #[.int .i64 p.tm, .int .i64 p.sq, .int .i64 p.dm, .slice p.ss.a p.ss.n p.ss.c] (w.alloc (.cells #[.int .i64 p.tm, .int .i64 p.sq, .int .i64 p.dm, .slice p.ss.a p.ss.n p.ss.c] 24)) := hnew _ _
  have hres : pkB p = be 2 10 ++ be 2 (ssum p.ss.l + 16) ++ be 4 a ++ be 4 b ++ be 4 d ++ bodyB p.ss.l := by
    simp only [pkB, headB, ha, hb, hd, hz1, Int.toNat_natCast, bes]
    simp [Nat.add_comm]
  have HR := Lib.hid hres
  clear hres hok
  generalize pkB p = RES at *
  obtain ⟨tm, sq, dm, s⟩ := p
  dsimp only at *
  obtain ⟨oa, n, c, l⟩ := s
  subst ha hb hd
  unfold Pk.v at *
  dsimp only at *
  have HP := Lib.hid (And.intro hs (And.intro (And.intro ha2 (And.intro hb2 hd2)) (And.intro (show 16 + ssum l ≤ 65535 by omega) hz2)))
  have F0 := Lib.hid (And.intro hal hnew0)
  clear hal hs hnew0 ha2 hb2 hd2 hz hz1 hz2
  have hlen : l.length = n := HP.out.1.sl.len.symm
  go_enter Try.func12, Try.ntmps12
  go_wp2_with fail
  generalize w.alloc (.cells #[.int .i64 (a : Int), .int .i64 (b : Int), .int .i64 (d : Int), .slice oa n c] 24) = W0 at *
  go_loopw [3, 4, 5] (fun sv iv _ wr => ∃ i : Nat, i ≤ n ∧ iv = .int .i64 i ∧ RB.Own wr w.heap.size sv (bodyB (l.take i)) ∧ sv.ownBlock ≠ some w.heap.size ∧ Below w.heap.size w wr ∧ PkS w.heap.size #[.int .i64 (a : Int), .int .i64 (b : Int), .int .i64 (d : Int), .slice oa n c] wr) (fun _ iv _ _ => n - (intOf iv).toNat)
  case atStart => exact ⟨0, Nat.zero_le _, rfl, Rep.Own.nil _ _, (by intro h; cases h), F0.out.1, F0.out.2⟩
  case round =>
    obtain ⟨i, hi, rfl, hown, hn0, hb, hpk⟩ := hrel
    obtain ⟨w2, rfl⟩ : ∃ w2 : World, w2 = wr := ⟨_, rfl⟩
    clear F0
    obtain ⟨e0, e1, e2, e3⟩ := hpk.cells
    by_cases hlt : i < n
    · obtain ⟨bb, oo, rfl, hbb, hat⟩ := (HP.out.1.sl.keep hb).at hlt
      have c0 := hat 0 (by decide)
      have c1 := hat 1 (by decide)
      simp only [RSt, Nat.add_zero, List.getElem?_cons_zero, List.getElem?_cons_succ] at c0 c1
      have hil : ((i : Int) < (n : Int)) = True := by simp; omega
      have hx := HP.out.1.all _ (getD_mem (i := i) (hlen.symm ▸ hlt))
      have hodd := oddI_false (HP.out.2.2.2 _ (getD_mem (i := i) (by omega)))
      have ht : l.take (i + 1) = l.take i ++ [l.getD i default] := take_snoc l i (by omega)
      have hbl := bodyB_length (l.take i) (fun x hx => HP.out.1.all x (List.mem_of_mem_take hx))
      have hst := ssum_take l i
      have hz := HP.out.2.2.1
      generalize l.getD i default = x at *
      obtain ⟨x1, x2⟩ := x
      dsimp only at *
      obtain ⟨xn, rfl⟩ := Int.eq_ofNat_of_zero_le (a := x1) (by omega)
      have hset : setB ((xn : Int), x2) = be 2 xn ++ be 2 (x2.n + 4) ++ x2.l := by simp [setB]
      have hLL : (bodyB (l.take i)).length ≤ 65535 := by rw [hbl]; omega
      have hfin : bodyB (l.take (i + 1)) = bodyB (l.take i) ++ be 2 xn ++ be 2 (x2.n + 4) ++ x2.l := by rw [ht, bodyB_snoc, hset]; simp
      generalize bodyB (l.take i) = LL at *
      have hal := (Below.refl w2.heap.size w2).alloc (Nat.le_refl _) (.cells #[.int .i64 (xn : Int), .slice x2.a x2.n x2.c] 51)
      have hnw : StS w2.heap.size #[.int .i64 (xn : Int), .slice x2.a x2.n x2.c] (w2.alloc (.cells #[.int .i64 (xn : Int), .slice x2.a x2.n x2.c] 51)) := hnew _ _
      have hxn : xn < 65536 ∧ x2.n ≤ 65000 ∧ 1 ≤ x2.n := by omega
      have hn7 : u3.ownBlock ≠ some w2.heap.size := fun h => by have := (World.ownsRow.lt hown _ h).2; omega
      have HF := Lib.hid (And.intro hfin (And.intro hLL hxn))
      have hlx := hx.2.sl.len.symm
      have HL := Lib.hid (And.intro hlx hx.2)
      have hw1 : IntKind.i64.wrap ((x2.n : Int) + 4) = (x2.n : Int) + 4 := by rw [IntWalk.i64_in _ (by omega)]
      have hw3 := wrapS hlt HP.out.1.sl.max
      have hW := (Below.refl w2.heap.size (w2.alloc (.cells #[.int .i64 (xn : Int), .slice x2.a x2.n x2.c] 51))).drew
      have hbd : Below w2.heap.size w2 (w2.alloc (.cells #[.int .i64 (xn : Int), .slice x2.a x2.n x2.c] 51)).drew := hal.drew
      have F0 := Lib.hid (And.intro (bcall hb (Nat.le_refl _) hbd) (And.intro (hnw.on (Below.refl _ _).drew) (And.intro (hpk.on hbd) (And.intro (hown.below hbd) (And.intro hn0 hn7)))))
      clear hat hb hx ht hbl hst hz hset hLL hfin hal hnw hodd hxn hlx hW hbd hn0 hn7 hown hpk
      go_wp2_with fail
      clear e0 e1 e2 e3
      refine wp_region_heldP (StS w2.heap.size #[.int .i64 (xn : Int), .slice x2.a x2.n x2.c]) (by kernel_rfl) ?_
      generalize (w2.alloc (.cells #[.int .i64 (xn : Int), .slice x2.a x2.n x2.c] 51)).drew = w4 at *
      refine held_reads [0, 1, 2, 5, 6, 7, 8, 11, 12] (g := 6) rfl (by kernel_rfl) F0.out.2.1 (fun _ _ d _ _ h => by cases d <;> exact h) ?_
      simp only [pick, List.getD_cons_zero, List.getD_cons_succ]
      iterate 9 ((with_reducible refine wpRead_step (fun K hK => ?_)); go_simp; first | ((with_reducible refine hK _ ?_); clear hK K) | (apply Exists.intro; (with_reducible refine ⟨fun w' hw' => ?_, hK _ ?_⟩); (obtain ⟨f0, f1⟩ := hw'.cells; go_simp; first | exact rfl | exact ⟨rfl, rfl⟩); clear hK K))
      with_reducible refine wpRead_nil ?_
      refine held_one 3 (by kernel_rfl) ?_
      simp only [pick, List.getD_cons_zero, List.getD_cons_succ]
      go_wp2_with fail
      refine (two_any xn (by have := HF.out.2.2.1; omega) _).mono ?_
      rintro e w1 ⟨v1, rfl, ho1, hb1⟩
      obtain ⟨oa1, c1, rfl, hs1⟩ := bs_own ho1
      have F2 := Lib.hid (And.intro (bcall F0.out.1 (Nat.le_refl _) hb1) (And.intro (F0.out.2.1.on hb1) (And.intro (F0.out.2.2.1.on hb1) (And.intro (F0.out.2.2.2.1.below hb1) (And.intro F0.out.2.2.2.2.1 (And.intro F0.out.2.2.2.2.2 (hs1)))))))
      clear F0
      clear hb1 ho1 hs1
      go_wp2_with fail
      refine ⟨F2.out.2.1, ?_⟩
      refine held_one 4 (by kernel_rfl) ?_
      simp only [pick, List.getD_cons_zero, List.getD_cons_succ]
      go_wp2_with (at_builtin; refine halt ?_)
      refine Halted.go ?_
      refine Rep.append_list2 T27 rfl _ _ rfl (base := w.heap.size) (m := (be 2 xn).length) rfl F2.out.2.2.2.1 rfl F2.out.2.2.2.2.2.2.sl (by rw [be_length]; omega) (by (try simp only [be_length]); have h := HF.out.2; unfold maxLen; omega) (by (try simp only [be_length]); have h := HF.out.2; omega) F2.out.1.size ?_
      intro v3 w3 ho3 hb3 he3
      have h03 := he3 _ F2.out.2.2.2.2.1 (lt_of_blk F2.out.2.2.1)
      have h73 := he3 _ F2.out.2.2.2.2.2.1 (lt_of_blk F2.out.2.1)
      have F4 := Lib.hid (And.intro (F2.out.1.trans hb3) (And.intro (StS.same h73.2 F2.out.2.1) (And.intro (PkS.same h03.2 F2.out.2.2.1) (And.intro ho3 (And.intro h03.1 (h73.1))))))
      clear F2
      clear hb3 ho3 he3 h03 h73
      go_wp2_with fail
      refine ⟨F4.out.2.1, ?_⟩
      refine held_one 9 (by kernel_rfl) ?_
      simp only [pick, List.getD_cons_zero, List.getD_cons_succ]
      go_wp2_with fail
      refine (two_any (x2.n + 4) (by have := HF.out.2.2.2; omega) _).mono ?_
      rintro e w5 ⟨v5, rfl, ho5, hb5⟩
      obtain ⟨oa5, c5, rfl, hs5⟩ := bs_own ho5
      have F6 := Lib.hid (And.intro (bcall F4.out.1 (Nat.le_refl _) hb5) (And.intro (F4.out.2.1.on hb5) (And.intro (F4.out.2.2.1.on hb5) (And.intro (F4.out.2.2.2.1.below hb5) (And.intro F4.out.2.2.2.2.1 (And.intro F4.out.2.2.2.2.2 (hs5)))))))
      clear F4
      clear hb5 ho5 hs5
      go_wp2_with fail
      refine ⟨F6.out.2.1, ?_⟩
      refine held_one 10 (by kernel_rfl) ?_
      simp only [pick, List.getD_cons_zero, List.getD_cons_succ]
      go_wp2_with (at_builtin; refine halt ?_)
      refine Halted.go ?_
      refine Rep.append_list2 T27 rfl _ _ rfl (base := w.heap.size) (m := (be 2 (x2.n + 4)).length) rfl F6.out.2.2.2.1 rfl F6.out.2.2.2.2.2.2.sl (by rw [be_length]; omega) (by (try simp only [List.length_append, be_length]); have h := HF.out.2; unfold maxLen; omega) (by (try simp only [List.length_append, be_length]); have h := HF.out.2; omega) F6.out.1.size ?_
      intro v7 w7 ho7 hb7 he7
      have h07 := he7 _ F6.out.2.2.2.2.1 (lt_of_blk F6.out.2.2.1)
      have h77 := he7 _ F6.out.2.2.2.2.2.1 (lt_of_blk F6.out.2.1)
      have F8 := Lib.hid (And.intro (F6.out.1.trans hb7) (And.intro (StS.same h77.2 F6.out.2.1) (And.intro (PkS.same h07.2 F6.out.2.2.1) (And.intro ho7 (And.intro h07.1 (h77.1))))))
      clear F6
      clear hb7 ho7 he7 h07 h77
      go_wp2_with fail
      refine ⟨F8.out.2.1, ?_⟩
      refine held_one 13 (by kernel_rfl) ?_
      simp only [pick, List.getD_cons_zero, List.getD_cons_succ]
      go_wp2_with (at_builtin; refine halt ?_)
      refine Halted.go ?_
      refine Rep.append_list2 T27 rfl _ _ rfl (base := w.heap.size) (m := x2.n) rfl F8.out.2.2.2.1 rfl (HL.out.2.keep F8.out.1).sl HF.out.2.2.2.2 (by (try simp only [List.length_append, be_length]); have h := HF.out.2; unfold maxLen; omega) (by (try simp only [List.length_append, be_length]); have h := HF.out.2; omega) F8.out.1.size ?_
      intro v9 w9 ho9 hb9 he9
      have h09 := he9 _ F8.out.2.2.2.2.1 (lt_of_blk F8.out.2.2.1)
      have h79 := he9 _ F8.out.2.2.2.2.2 (lt_of_blk F8.out.2.1)
      have F10 := Lib.hid (And.intro (F8.out.1.trans hb9) (And.intro (StS.same h79.2 F8.out.2.1) (And.intro (PkS.same h09.2 F8.out.2.2.1) (And.intro ho9 (And.intro h09.1 (h79.1))))))
      clear F8
      clear hb9 ho9 he9 h09 h79
      go_wp2_with fail
      refine ⟨F10.out.2.1, ?_⟩
      refine held_one 14 (by kernel_rfl) ?_
      simp only [pick, List.getD_cons_zero, List.getD_cons_succ]
      go_wp2_with fail
      refine ⟨F10.out.2.1, ?_⟩
      refine wpAnyH_done (by kernel_rfl) ?_ _
      go_wp2_with fail
      exact ⟨⟨i + 1, hlt, by first | rw [hw3] | rw [Int.natCast_succ], by rw [HF.out.1]; exact F10.out.2.2.2.1, F10.out.2.2.2.2.1, F10.out.1, F10.out.2.2.1⟩, by first | (rw [hw3]; exact mSucc hlt) | (rw [← Int.natCast_succ]; exact mSucc hlt)⟩
    · obtain rfl : n = i := by omega
      have hil : ((n : Int) < (n : Int)) = False := by simp
      have he : List.take n l = l := List.take_of_length_le (by omega)
      rw [he] at hown
      have hbl := bodyB_length l HP.out.1.all
      obtain ⟨oa3, c3, rfl, hbs3⟩ := bs_own hown
      have F0 := Lib.hid (And.intro hb (And.intro hpk (And.intro hown hbs3)))
      have HB := Lib.hid hbl
      clear hb hpk hown hbs3 he hn0
      have hsz : ssum l ≤ 65535 := by have := HP.out.2.2.1; omega
      clear hbl
      have G0 := Lib.hid (Below.refl w2.heap.size w2)
      have hw1 : IntKind.i64.wrap (((bodyB l).length : Int) + 16) = ((ssum l + 16 : Nat) : Int) := by rw [HB.out, IntWalk.i64_in _ (by omega)]; omega
      have hbl : (bodyB l).length ≤ 65535 := by rw [HB.out]; omega
      go_wp2_with fail
      refine (two_any 10 (by omega) _).mono ?_
      rintro e w11 ⟨v11, rfl, ho11, hb11⟩
      have F12 := Lib.hid (And.intro (bcall G0.out (Nat.le_refl _) hb11) (ho11))
      clear G0
      clear hb11 ho11
      go_wp2_with fail
      refine (two_any (ssum l + 16) (by have := HP.out.2.2.1; omega) _).mono ?_
      rintro e w13 ⟨v13, rfl, ho13, hb13⟩
      obtain ⟨oa13, c13, rfl, hs13⟩ := bs_own ho13
      have F14 := Lib.hid (And.intro (bcall F12.out.1 (Nat.le_refl _) hb13) (And.intro (F12.out.2.below hb13) (hs13)))
      clear F12
      clear hb13 ho13 hs13
      go_wp2_with (at_builtin; refine halt ?_)
      refine Halted.go ?_
      refine Rep.append_list T27 rfl _ _ rfl (base := w2.heap.size) (m := (be 2 (ssum l + 16)).length) rfl F14.out.2.1 rfl F14.out.2.2.sl F14.out.2.2.nil (by (try simp only [be_length]); unfold maxLen; omega) (by (try simp only [be_length]); omega) F14.out.1.size ?_
      intro v15 w15 ho15 hb15 _
      have F16 := Lib.hid (And.intro (F14.out.1.trans hb15) (ho15))
      clear F14
      clear hb15 ho15
      go_wp2_with fail
      clear e0 e1 e2 e3
      refine wp_region_heldP (PkS w.heap.size #[.int .i64 (a : Int), .int .i64 (b : Int), .int .i64 (d : Int), .slice oa n c]) (by kernel_rfl) ?_
      have hd := (Below.refl w15.heap.size w15).drew
      have F17 := Lib.hid (And.intro (bcall F16.out.1 (Nat.le_refl _) hd) ((F16.out.2.below hd)))
      clear F16
      clear hd
      generalize w15.drew = wd at *
      refine held_reads [0, 1, 2, 5, 6, 9, 10] (g := 7) rfl (by kernel_rfl) (F0.out.2.1.on F17.out.1) (fun _ _ d _ _ h => by cases d <;> exact h) ?_
      simp only [pick, List.getD_cons_zero, List.getD_cons_succ]
      iterate 7 ((with_reducible refine wpRead_step (fun K hK => ?_)); go_simp; first | ((with_reducible refine hK _ ?_); clear hK K) | (apply Exists.intro; (with_reducible refine ⟨fun w' hw' => ?_, hK _ ?_⟩); (obtain ⟨f0, f1, f2, f3⟩ := hw'.cells; go_simp; first | exact rfl | exact ⟨rfl, rfl⟩); clear hK K))
      with_reducible refine wpRead_nil ?_
      refine held_one 3 (by kernel_rfl) ?_
      simp only [pick, List.getD_cons_zero, List.getD_cons_succ]
      go_wp2_with fail
      refine (four_any a (by have := HP.out.2.1; omega) _).mono ?_
      rintro e w18 ⟨v18, rfl, ho18, hb18⟩
      obtain ⟨oa18, c18, rfl, hs18⟩ := bs_own ho18
      have F19 := Lib.hid (And.intro (bcall F17.out.1 (Nat.le_refl _) hb18) (And.intro (F17.out.2.below hb18) (hs18)))
      clear F17
      clear hb18 ho18 hs18
      go_wp2_with fail
      refine ⟨F0.out.2.1.on F19.out.1, ?_⟩
      refine held_one 4 (by kernel_rfl) ?_
      simp only [pick, List.getD_cons_zero, List.getD_cons_succ]
      go_wp2_with (at_builtin; refine halt ?_)
      refine Halted.go ?_
      refine Rep.append_list T27 rfl _ _ rfl (base := w2.heap.size) (m := (be 4 a).length) rfl F19.out.2.1 rfl F19.out.2.2.sl F19.out.2.2.nil (by (try simp only [List.length_append, be_length]); unfold maxLen; omega) (by (try simp only [List.length_append, be_length]); omega) F19.out.1.size ?_
      intro v20 w20 ho20 hb20 _
      have F21 := Lib.hid (And.intro (F19.out.1.trans hb20) (ho20))
      clear F19
      clear hb20 ho20
      go_wp2_with fail
      refine ⟨F0.out.2.1.on F21.out.1, ?_⟩
      refine held_one 7 (by kernel_rfl) ?_
      simp only [pick, List.getD_cons_zero, List.getD_cons_succ]
      go_wp2_with fail
      refine (four_any b (by have := HP.out.2.1; omega) _).mono ?_
      rintro e w22 ⟨v22, rfl, ho22, hb22⟩
      obtain ⟨oa22, c22, rfl, hs22⟩ := bs_own ho22
      have F23 := Lib.hid (And.intro (bcall F21.out.1 (Nat.le_refl _) hb22) (And.intro (F21.out.2.below hb22) (hs22)))
      clear F21
      clear hb22 ho22 hs22
      go_wp2_with fail
      refine ⟨F0.out.2.1.on F23.out.1, ?_⟩
      refine held_one 8 (by kernel_rfl) ?_
      simp only [pick, List.getD_cons_zero, List.getD_cons_succ]
      go_wp2_with (at_builtin; refine halt ?_)
      refine Halted.go ?_
      refine Rep.append_list T27 rfl _ _ rfl (base := w2.heap.size) (m := (be 4 b).length) rfl F23.out.2.1 rfl F23.out.2.2.sl F23.out.2.2.nil (by (try simp only [List.length_append, be_length]); unfold maxLen; omega) (by (try simp only [List.length_append, be_length]); omega) F23.out.1.size ?_
      intro v24 w24 ho24 hb24 _
      have F25 := Lib.hid (And.intro (F23.out.1.trans hb24) (ho24))
      clear F23
      clear hb24 ho24
      go_wp2_with fail
      refine ⟨F0.out.2.1.on F25.out.1, ?_⟩
      refine held_one 11 (by kernel_rfl) ?_
      simp only [pick, List.getD_cons_zero, List.getD_cons_succ]
      go_wp2_with fail
      refine (four_any d (by have := HP.out.2.1; omega) _).mono ?_
      rintro e w26 ⟨v26, rfl, ho26, hb26⟩
      obtain ⟨oa26, c26, rfl, hs26⟩ := bs_own ho26
      have F27 := Lib.hid (And.intro (bcall F25.out.1 (Nat.le_refl _) hb26) (And.intro (F25.out.2.below hb26) (hs26)))
      clear F25
      clear hb26 ho26 hs26
      go_wp2_with fail
      refine ⟨F0.out.2.1.on F27.out.1, ?_⟩
      refine held_one 12 (by kernel_rfl) ?_
      simp only [pick, List.getD_cons_zero, List.getD_cons_succ]
      go_wp2_with (at_builtin; refine halt ?_)
      refine Halted.go ?_
      refine Rep.append_list T27 rfl _ _ rfl (base := w2.heap.size) (m := (be 4 d).length) rfl F27.out.2.1 rfl F27.out.2.2.sl F27.out.2.2.nil (by (try simp only [List.length_append, be_length]); unfold maxLen; omega) (by (try simp only [List.length_append, be_length]); omega) F27.out.1.size ?_
      intro v28 w28 ho28 hb28 _
      have F29 := Lib.hid (And.intro (F27.out.1.trans hb28) (ho28))
      clear F27
      clear hb28 ho28
      go_wp2_with fail
      refine ⟨F0.out.2.1.on F29.out.1, ?_⟩
      refine held_one 13 (by kernel_rfl) ?_
      simp only [pick, List.getD_cons_zero, List.getD_cons_succ]
      go_wp2_with fail
      refine ⟨F0.out.2.1.on F29.out.1, ?_⟩
      refine wpAnyH_done (by kernel_rfl) ?_ _
      go_wp2_with (at_builtin; refine halt ?_)
      refine Halted.go ?_
      refine Rep.append_list T27 rfl _ _ rfl (base := w2.heap.size) (m := (bodyB l).length) rfl F29.out.2 rfl (F0.out.2.2.2.below F29.out.1).sl (F0.out.2.2.2.below F29.out.1).nil (by (try simp only [List.length_append, be_length]); unfold maxLen; omega) (by (try simp only [List.length_append, be_length]); omega) F29.out.1.size ?_
      intro v30 w30 ho30 hb30 _
      have F31 := Lib.hid (And.intro (F29.out.1.trans hb30) (ho30))
      clear F29
      clear hb30 ho30
      go_wp2_with fail
      go_ret
      refine ⟨⟨_, rfl, ?_⟩, bcall F0.out.1 (Nat.le_refl _) F31.out.1⟩
      rw [HR.out]
      exact F31.out.2.mono F0.out.1.size
end Go.Proofs.Ytjjhnnnpikfjpaa
