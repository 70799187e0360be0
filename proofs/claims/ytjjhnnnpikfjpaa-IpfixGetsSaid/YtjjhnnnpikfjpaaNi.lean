/- Put. -/
import Derived.Test.YtjjhnnnpikfjpaaNg
import Derived.Test.YtjjhnnnpikfjpaaNh
import Derived.Test.YtjjhnnnpikfjpaaPy
namespace Go.Proofs.Ytjjhnnnpikfjpaa
open Go.RowKit

theorem BSS.nil (w : World) : BSS w [] [] := ⟨rfl, fun j hj => (by cases hj)⟩
theorem BSS.cons {w : World} {vs : List (Option Addr × Nat × Nat)} {ls : List (List Nat)} (h : BSS w vs ls) {oa : Option Addr} {n c : Nat} {l : List Nat} (hs : RB.Sl w oa n c l) (hn : oa = none → c = 0) : BSS w ((oa, n, c) :: vs) (l :: ls) := by
  refine ⟨by simp [h.len], fun j hj => ?_⟩
  cases j with
  | zero => exact ⟨hs, hn⟩
  | succ j => exact h.all j (by simpa using hj)
def PkS (b : Nat) (cs : Array Value) (w : World) : Prop := w.heap[b]? = some (.cells cs 24)
theorem PkS.cells {b : Nat} {x0 x1 x2 x3 : Value} {w : World} (h : PkS b #[x0, x1, x2, x3] w) : w.cell? ⟨b, 0, none⟩ = some x0 ∧ w.cell? ⟨b, 1, none⟩ = some x1 ∧ w.cell? ⟨b, 2, none⟩ = some x2 ∧ w.cell? ⟨b, 3, none⟩ = some x3 := ⟨cell_of h rfl, cell_of h rfl, cell_of h rfl, cell_of h rfl⟩
theorem PkS.on {b : Nat} {cs : Array Value} {w w' : World} (h : PkS b cs w) (hb : Below w.heap.size w w') : PkS b cs w' := (hb.block _ (lt_of_blk h)).trans h
def StS (b : Nat) (cs : Array Value) (w : World) : Prop := w.heap[b]? = some (.cells cs 51)
theorem StS.cells {b : Nat} {x0 x1 : Value} {w : World} (h : StS b #[x0, x1] w) : w.cell? ⟨b, 0, none⟩ = some x0 ∧ w.cell? ⟨b, 1, none⟩ = some x1 := ⟨cell_of h rfl, cell_of h rfl⟩
theorem StS.on {b : Nat} {cs : Array Value} {w w' : World} (h : StS b cs w) (hb : Below w.heap.size w w') : StS b cs w' := (hb.block _ (lt_of_blk h)).trans h
def ssum (l : List (Int × SlV Nat)) : Nat := (l.map fun x => 4 + x.2.n).sum
theorem sz_ok (l : List (Int × SlV Nat)) : ∀ k, sz k l ≤ 65535 → sz k l = k + ssum l ∧ ∀ x ∈ l, oddI x.1 x.2.n = false := by
  induction l with
  | nil => intro k _; exact ⟨rfl, fun x hx => by cases hx⟩
  | cons x r ih =>
    intro k h
    rw [sz_cons] at h ⊢
    by_cases hc : oddI x.1 x.2.n = true ∨ 65535 < k
    · rw [if_pos hc] at h; omega
    · rw [if_neg hc] at h ⊢
      obtain ⟨h1, h2⟩ := ih _ h
      refine ⟨by rw [h1]; simp only [ssum, List.map_cons, List.sum_cons]; omega, fun y hy => ?_⟩
      rcases List.mem_cons.1 hy with rfl | hy
      · simpa using fun h => hc (.inl h)
      · exact h2 y hy
def setB (x : Int × SlV Nat) : List Nat := be 2 x.1.toNat ++ be 2 (x.2.n + 4) ++ x.2.l
def bodyB (l : List (Int × SlV Nat)) : List Nat := l.flatMap setB
def headB (tm sq dm k : Nat) : List Nat := bes 2 [10, k] ++ bes 4 [tm, sq, dm]
def pkB (p : Pk) : List Nat := headB p.tm.toNat p.sq.toNat p.dm.toNat (sz 16 p.ss.l) ++ bodyB p.ss.l
theorem bodyB_length {w : World} (l : List (Int × SlV Nat)) (h : ∀ x ∈ l, StOk w x) : (bodyB l).length = ssum l := by
  induction l with
  | nil => rfl
  | cons x r ih =>
    have h1 := ih (fun y hy => h y (by simp [hy]))
    have h2 := (h x (by simp)).2.sl.len
    unfold bodyB ssum at *
    simp only [List.flatMap_cons, List.map_cons, List.sum_cons, List.length_append, setB, be_length, h1, ← h2]
theorem ssum_take (l : List (Int × SlV Nat)) (i : Nat) : ssum (l.take i) ≤ ssum l := by
  unfold ssum
  conv => rhs; rw [← List.take_append_drop i l, List.map_append, List.sum_append]
  omega
theorem bodyB_snoc (l : List (Int × SlV Nat)) (x : Int × SlV Nat) : bodyB (l ++ [x]) = bodyB l ++ setB x := by simp [bodyB]
theorem headB_length (a b c k : Nat) : (headB a b c k).length = 16 := by simp [headB, bes_length]
theorem okP_nat {p : Pk} (h : okP p = true) : (∃ a b c : Nat, p.tm = a ∧ p.sq = b ∧ p.dm = c ∧ a < 4294967296 ∧ b < 4294967296 ∧ c < 4294967296) ∧ sz 16 p.ss.l ≤ 65535 := by
  simp [okP, m32] at h
  obtain ⟨a, ha⟩ := Int.eq_ofNat_of_zero_le h.1.1.1.1
  obtain ⟨b, hb⟩ := Int.eq_ofNat_of_zero_le h.1.1.2.1
  obtain ⟨c, hc⟩ := Int.eq_ofNat_of_zero_le h.1.2.1
  exact ⟨⟨a, b, c, ha, hb, hc, by omega, by omega, by omega⟩, h.2⟩

set_option maxRecDepth 100000 in
theorem put_bad (p : Pk) (w : World) (hs : StsOk w p.ss) (hn : ∀ x ∈ p.ss.l, x.2.n ≤ 1000000000) (hok : okP p = false) : Calls Try.prog 8 #[p.v] w fun e w' => e = .returned (.tuple #[.slice none 0 0, .int .i64 310]) ∧ Below w.heap.size w w' := by
  have hal := (Below.refl w.heap.size w).alloc (Nat.le_refl _) (.cells #[.int .i64 p.tm, .int .i64 p.sq, .int .i64 p.dm, .slice p.ss.a p.ss.n p.ss.c] 24)
  have hck := check_any p (w.alloc (.cells #[.int .i64 p.tm, .int .i64 p.sq, .int .i64 p.dm, .slice p.ss.a p.ss.n p.ss.c] 24)) (hs.keep hal) hn
  rw [hok] at hck
  simp only [Bool.false_eq_true, if_false] at hck
  unfold Pk.v at *
  have HA := Lib.hid (And.intro hal hck)
  clear hal hs hn hck hok
  go_enter Try.func8, Try.ntmps8
  go_wp2_with fail
  refine (HA.out.2).mono ?_
  rintro e w3 ⟨rfl, hb3⟩
  have HB := Lib.hid (bcall HA.out.1 (Nat.le_refl _) hb3)
  clear hb3 HA
  go_wp2_with fail
  go_ret2
  exact ⟨rfl, HB.out⟩
set_option maxRecDepth 100000 in
set_option maxHeartbeats 1000000 in
theorem put_ok (p : Pk) (w : World) (hs : StsOk w p.ss) (hok : okP p = true) (hcnt : p.ss.l.length ≤ 1000) : Calls Try.prog 8 #[p.v] w fun e w' => (∃ v, e = .returned (.tuple #[v, .int .i64 0]) ∧ RB.Own w' w.heap.size v (pkB p)) ∧ Below w.heap.size w w' := by
  obtain ⟨⟨a, b, d, ha, hb, hd, ha2, hb2, hd2⟩, hz⟩ := okP_nat hok
  obtain ⟨hz1, hz2⟩ := sz_ok p.ss.l 16 hz
  have hn : ∀ x ∈ p.ss.l, x.2.n ≤ 1000000000 := fun x hx => by have := (oddI_false (hz2 x hx)).2; omega
  have hal := (Below.refl w.heap.size w).alloc (Nat.le_refl _) (.cells #[.int .i64 p.tm, .int .i64 p.sq, .int .i64 p.dm, .slice p.ss.a p.ss.n p.ss.c] 24)
  have hck := check_any p (w.alloc (.cells #[.int .i64 p.tm, .int .i64 p.sq, .int .i64 p.dm, .slice p.ss.a p.ss.n p.ss.c] 24)) (hs.keep hal) hn
  rw [hok] at hck
  simp only [if_true] at hck
  have hnew0 : PkS w.heap.size #[.int .i64 p.tm, .int .i64 p.sq, .int .i64 p.dm, .slice p.ss.a p.ss.n p.ss.c] (w.alloc (.cells #[.int .i64 p.tm, .int .i64 p.sq, .int .i64 p.dm, .slice p.ss.a p.ss.n p.ss.c] 24)) := hnew _ _
  have hres : pkB p = headB a b d (sz 16 p.ss.l) ++ bodyB p.ss.l := by simp [pkB, ha, hb, hd]
  have HR := Lib.hid hres
  clear hres hok
  generalize pkB p = RES at *
  obtain ⟨tm, sq, dm, s⟩ := p
  dsimp only at *
  subst ha hb hd
  unfold Pk.v at *
  dsimp only at *
  have HP := Lib.hid (And.intro hs (And.intro hn (And.intro (And.intro ha2 (And.intro hb2 hd2)) (And.intro hz (And.intro hz1 hz2)))))
  have HA := Lib.hid (And.intro hal (And.intro hck hnew0))
  clear hal hs hn hck hnew0 ha2 hb2 hd2 hz hz1 hz2
  go_enter Try.func8, Try.ntmps8
  go_wp2_with fail
  refine (HA.out.2.1).mono ?_
  rintro e w3 ⟨rfl, hb3⟩
  have HB := Lib.hid (And.intro (bcall HA.out.1 (Nat.le_refl _) hb3) (HA.out.2.2.on hb3))
  clear hb3 HA
  go_wp2_with fail
  refine wp_region_heldP (PkS w.heap.size #[.int .i64 a, .int .i64 b, .int .i64 d, .slice s.a s.n s.c]) (by kernel_rfl) ?_
  have HQ := Lib.hid (And.intro (Below.drew HB.out.1) (HB.out.2.on (Below.drew (Below.refl _ _))))
  clear HB
  generalize w3.drew = w3 at *
  refine held_reads [0, 4, 5, 6, 7, 8, 9] (g := 8) rfl (by kernel_rfl) HQ.out.2 (fun _ _ d _ _ h => by cases d <;> exact h) ?_
  simp only [pick, List.getD_cons_zero, List.getD_cons_succ]
  iterate 7 ((with_reducible refine wpRead_step (fun K hK => ?_)); go_simp; first | ((with_reducible refine hK _ ?_); clear hK K) | (apply Exists.intro; (with_reducible refine ⟨fun w' hw' => ?_, hK _ ?_⟩); (obtain ⟨f0, f1, f2, f3⟩ := hw'.cells; go_simp; first | exact rfl | exact ⟨rfl, rfl⟩); clear hK K))
  with_reducible refine wpRead_nil ?_
  rename_i K hK
  have hK2 : ∀ (v5 u14 u15 u16 u23 u24 u25 u26 : Value) (W : World), RB.Own W w.heap.size v5 (headB a b d (sz 16 s.l)) → Below w.heap.size w W → PkS w.heap.size #[.int .i64 (a : Int), .int .i64 (b : Int), .int .i64 (d : Int), .slice s.a s.n s.c] W → K ⟨#[.agg #[.int .i64 (a : Int), .int .i64 (b : Int), .int .i64 (d : Int), .slice s.a s.n s.c], .pointer (some ⟨w.heap.size, 0, none⟩), .slice none 0 0, .int .i64 0, .int .i64 0, v5, undef, undef, .agg #[.int .i64 (a : Int), .int .i64 (b : Int), .int .i64 (d : Int), .slice s.a s.n s.c], .int .i64 0, .int .i64 0, .bool false, undef, .agg #[.int .i64 (a : Int), .int .i64 (b : Int), .int .i64 (d : Int), .slice s.a s.n s.c], u14, u15, u16, .pointer (some ⟨w.heap.size, 0, none⟩), .int .i64 a, .pointer (some ⟨w.heap.size, 1, none⟩), .int .i64 b, .pointer (some ⟨w.heap.size, 2, none⟩), .int .i64 d, u23, u24, u25, u26, undef, undef, undef, undef, undef, undef, undef, undef, undef, undef, undef, undef, undef, undef, undef, undef, undef, undef, undef, undef, undef, undef], []⟩ W := by
    intro v5 u14 u15 u16 u23 u24 u25 u26 W ho hbW hpW
    refine hK _ _ ?_
    clear HQ hK
    obtain ⟨e0, e1, e2, e3⟩ := hpW.cells
    have HI := Lib.hid (And.intro ho hbW)
    clear ho hpW hbW
    have hlen : s.l.length = s.n := HP.out.1.sl.len.symm
    go_wp2_with fail
    clear e0 e1 e2 e3
    go_loopw [5, 7, 30] (fun sv _ iv wr => ∃ i : Nat, i ≤ s.n ∧ iv = .int .i64 i ∧ RB.Own wr w.heap.size sv (headB a b d (sz 16 s.l) ++ bodyB (s.l.take i)) ∧ Below w.heap.size w wr) (fun _ _ iv _ => s.n - (intOf iv).toNat)
    case atStart => exact ⟨0, Nat.zero_le _, rfl, by rw [List.take_zero]; simpa [bodyB] using HI.out.1, HI.out.2⟩
    case round =>
      obtain ⟨i, hi, rfl, hown, hb⟩ := hrel
      obtain ⟨w2, rfl⟩ : ∃ w2 : World, w2 = wr := ⟨_, rfl⟩
      have hown5 := hown
      obtain ⟨oa5, c5, rfl, hbs5⟩ := bs_own hown
      clear hown HI
      by_cases hlt : i < s.n
      · obtain ⟨bb, oo, hsa, hbb, hat⟩ := (HP.out.1.sl.keep hb).at hlt
        have c0 := hat 0 (by decide)
        have c1 := hat 1 (by decide)
        simp only [RSt, Nat.add_zero, List.getElem?_cons_zero, List.getElem?_cons_succ] at c0 c1
        have hil : ((i : Int) < (s.n : Int)) = True := by simp; omega
        have hx := HP.out.1.all _ (getD_mem (i := i) (by omega))
        have hodd := oddI_false (HP.out.2.2.2.2.2 _ (getD_mem (i := i) (by omega)))
        have ht : s.l.take (i + 1) = s.l.take i ++ [s.l.getD i default] := take_snoc s.l i (by omega)
        have hbl := bodyB_length (s.l.take i) (fun x hx => HP.out.1.all x (List.mem_of_mem_take hx))
        have hst := ssum_take s.l i
        have hz := HP.out.2.2.2.1
        have hz1 := HP.out.2.2.2.2.1
        generalize s.l.getD i default = x at *
        obtain ⟨x1, x2⟩ := x
        dsimp only at *
        obtain ⟨xn, rfl⟩ := Int.eq_ofNat_of_zero_le (a := x1) (by omega)
        have hdx : DOk w2 x2 := hx.2.keep hb
        have hset : setB ((xn : Int), x2) = be 2 xn ++ be 2 (x2.n + 4) ++ x2.l := by simp [setB]
        have hLL : (headB a b d (sz 16 s.l) ++ bodyB (s.l.take i)).length ≤ 65535 := by rw [List.length_append, headB_length, hbl]; omega
        have hfin : headB a b d (sz 16 s.l) ++ bodyB (s.l.take (i + 1)) = (headB a b d (sz 16 s.l) ++ bodyB (s.l.take i)) ++ (bes 2 [xn, x2.n + 4] ++ x2.l) := by rw [ht, bodyB_snoc, hset]; simp [bes]
        generalize headB a b d (sz 16 s.l) ++ bodyB (s.l.take i) = LL at *
        have hal := (Below.refl w2.heap.size w2).alloc (Nat.le_refl _) (.cells #[.int .i64 (xn : Int), .slice x2.a x2.n x2.c] 51)
        have hnw : StS w2.heap.size #[.int .i64 (xn : Int), .slice x2.a x2.n x2.c] (w2.alloc (.cells #[.int .i64 (xn : Int), .slice x2.a x2.n x2.c] 51)) := hnew _ _
        have hxn : xn < 65536 ∧ x2.n ≤ 65000 := by omega
        have HB := Lib.hid (And.intro (bcall hb (Nat.le_refl _) hal) (And.intro hnw (And.intro (hbs5.below hal) (hdx.keep hal))))
        have HF := Lib.hid (And.intro hfin (And.intro hLL hxn))
        have hlx := hdx.sl.len.symm
        have HL := Lib.hid hlx
        have hw1 : IntKind.i64.wrap ((x2.n : Int) + 4) = ((x2.n + 4 : Nat) : Int) := by rw [IntWalk.i64_in _ (by omega)]; omega
        have hw3 := wrapS hlt HP.out.1.sl.max
        clear hown5 hat hb hbs5 hx ht hbl hst hz hz1 hdx hset hLL hfin hal hnw hodd hxn hlx
        rw [hsa] at *
        go_wp2_with fail
        refine wp_region_heldP (StS w2.heap.size #[.int .i64 (xn : Int), .slice x2.a x2.n x2.c]) (by kernel_rfl) ?_
        have HQ := Lib.hid (And.intro (Below.drew HB.out.1) (And.intro (HB.out.2.1.on (Below.drew (Below.refl _ _))) (And.intro (HB.out.2.2.1.below (Below.drew (Below.refl _ _))) (HB.out.2.2.2.keep (Below.drew (Below.refl _ _))))))
        clear HB
        generalize (w2.alloc (.cells #[.int .i64 (xn : Int), .slice x2.a x2.n x2.c] 51)).drew = w4 at *
        refine held_reads [0, 1, 2, 3, 4, 5, 6, 9, 10] (g := 5) rfl (by kernel_rfl) HQ.out.2.1 (fun _ _ d _ _ h => by cases d <;> exact h) ?_
        simp only [pick, List.getD_cons_zero, List.getD_cons_succ]
        iterate 9 ((with_reducible refine wpRead_step (fun K hK => ?_)); go_simp; first | ((with_reducible refine hK _ ?_); clear hK K) | (apply Exists.intro; (with_reducible refine ⟨fun w' hw' => ?_, hK _ ?_⟩); (obtain ⟨f0, f1⟩ := hw'.cells; go_simp; first | exact rfl | exact ⟨rfl, rfl⟩); clear hK K))
        with_reducible refine wpRead_nil ?_
        refine held_one 7 (by kernel_rfl) ?_
        simp only [pick, List.getD_cons_zero, List.getD_cons_succ]
        have hb1 := (Below.refl w4.heap.size w4).alloc (Nat.le_refl _) (.cells #[.int .i64 (xn : Int), .int .i64 ((x2.n : Int) + 4)] 3)
        have ho1 : RIn.Own (w4.alloc (.cells #[.int .i64 (xn : Int), .int .i64 ((x2.n : Int) + 4)] 3)) w.heap.size (.slice (some ⟨w4.heap.size, 0, none⟩) 2 2) [xn, x2.n + 4] := ⟨rfl, .inr ⟨w4.heap.size, 2, #[.int .i64 (xn : Int), .int .i64 ((x2.n : Int) + 4)], rfl, HQ.out.1.size, hnew _ _, Nat.le_refl _, by unfold maxLen; omega, rfl, rfl⟩⟩
        have H1 := Lib.hid (And.intro (bcall HQ.out.1 (Nat.le_refl _) hb1) (And.intro (HQ.out.2.1.on hb1) (And.intro (HQ.out.2.2.1.below hb1) (And.intro (HQ.out.2.2.2.keep hb1) (ho1)))))
        clear hb1 ho1 HQ
        go_wp2_with fail
        refine ⟨H1.out.2.1, ?_⟩
        generalize hq1 : w4.heap.size = q1 at *
        clear hq1
        generalize w4.alloc (.cells #[.int .i64 (xn : Int), .int .i64 ((x2.n : Int) + 4)] 3) = w1 at *
        refine held_one 8 (by kernel_rfl) ?_
        simp only [pick, List.getD_cons_zero, List.getD_cons_succ]
        go_wp2_with fail
        obtain ⟨oa2, c2, hv2, -, -, hs2, -⟩ := H1.out.2.2.2.2.sl
        have hy2 := hv2
        simp only [Value.slice.injEq] at hy2
        obtain ⟨rfl, -, rfl⟩ := hy2
        refine (bytes_any (k := 2) (by omega) hs2 (by intro x hx; have h1 := HF.out.2.2; simp at hx; omega) (by simp)).mono ?_
        rintro e w2 ⟨v2, rfl, ho2, hb2⟩
        obtain ⟨oa2, c2, rfl, hs2⟩ := bs_own ho2
        have H2 := Lib.hid (And.intro (bcall H1.out.1 (Nat.le_refl _) hb2) (And.intro (H1.out.2.1.on hb2) (And.intro (H1.out.2.2.1.below hb2) (And.intro (H1.out.2.2.2.1.keep hb2) (And.intro (H1.out.2.2.2.2.below hb2) (hs2))))))
        clear hb2 H1 hv2 ho2 hs2
        go_wp2_with fail
        refine ⟨H2.out.2.1, ?_⟩
        refine held_one 11 (by kernel_rfl) ?_
        simp only [pick, List.getD_cons_zero, List.getD_cons_succ]
        have hb3 := (Below.refl w2.heap.size w2).alloc (Nat.le_refl _) (.cells #[.slice oa5 (LL).length c5, .slice oa2 (bes 2 [xn, x2.n + 4]).length c2, .slice x2.a x2.n x2.c] 27)
        have ho3 : RH.Own (w2.alloc (.cells #[.slice oa5 (LL).length c5, .slice oa2 (bes 2 [xn, x2.n + 4]).length c2, .slice x2.a x2.n x2.c] 27)) w.heap.size (.slice (some ⟨w2.heap.size, 0, none⟩) 3 3) [(oa5, (LL).length, c5), (oa2, (bes 2 [xn, x2.n + 4]).length, c2), (x2.a, x2.n, x2.c)] := ⟨rfl, .inr ⟨w2.heap.size, 3, #[.slice oa5 (LL).length c5, .slice oa2 (bes 2 [xn, x2.n + 4]).length c2, .slice x2.a x2.n x2.c], rfl, H2.out.1.size, hnew _ _, Nat.le_refl _, by unfold maxLen; omega, rfl, rfl⟩⟩
        have H3 := Lib.hid (And.intro (bcall H2.out.1 (Nat.le_refl _) hb3) (And.intro (H2.out.2.1.on hb3) (And.intro (H2.out.2.2.1.below hb3) (And.intro (H2.out.2.2.2.1.keep hb3) (And.intro (H2.out.2.2.2.2.1.below hb3) (And.intro (H2.out.2.2.2.2.2.below hb3) (ho3)))))))
        clear hb3 ho3 H2
        go_wp2_with fail
        refine ⟨H3.out.2.1, ?_⟩
        generalize hq3 : w2.heap.size = q3 at *
        clear hq3
        generalize w2.alloc (.cells #[.slice oa5 (LL).length c5, .slice oa2 (bes 2 [xn, x2.n + 4]).length c2, .slice x2.a x2.n x2.c] 27) = w3 at *
        refine held_one 12 (by kernel_rfl) ?_
        simp only [pick, List.getD_cons_zero, List.getD_cons_succ]
        go_wp2_with fail
        obtain ⟨oa4, c4, hv4, -, -, hs4, -⟩ := H3.out.2.2.2.2.2.2.sl
        have hy4 := hv4
        simp only [Value.slice.injEq] at hy4
        obtain ⟨rfl, -, rfl⟩ := hy4
        refine (concat_any hs4 (BSS.cons (BSS.cons (BSS.cons (BSS.nil _) H3.out.2.2.2.1.sl H3.out.2.2.2.1.nil) H3.out.2.2.2.2.2.1.sl H3.out.2.2.2.2.2.1.nil) H3.out.2.2.1.sl H3.out.2.2.1.nil) (by simp) (by have h1 := HF.out.2; have h2 := HL.out; simp [lsum, bes_length]; omega)).mono ?_
        rintro e w4 ⟨v4, rfl, ho4, hb4⟩
        have hf4 : RB.Own w4 w.heap.size v4 (LL ++ (bes 2 [xn, x2.n + 4] ++ x2.l)) := by have h := ho4.mono H3.out.1.size; rwa [show List.flatten [LL, bes 2 [xn, x2.n + 4], x2.l] = LL ++ (bes 2 [xn, x2.n + 4] ++ x2.l) by simp] at h
        have H4 := Lib.hid (And.intro (bcall H3.out.1 (Nat.le_refl _) hb4) (And.intro (H3.out.2.1.on hb4) (hf4)))
        clear hb4 H3 hv4 hf4 ho4
        go_wp2_with fail
        refine ⟨H4.out.2.1, ?_⟩
        refine held_one 13 (by kernel_rfl) ?_
        simp only [pick, List.getD_cons_zero, List.getD_cons_succ]
        go_wp2_with fail
        refine ⟨H4.out.2.1, ?_⟩
        refine wpAnyH_done (by kernel_rfl) ?_ _
        go_wp2_with fail
        exact ⟨⟨i + 1, hlt, by first | rw [hw3] | rw [Int.natCast_succ], by rw [HF.out.1]; exact H4.out.2.2, H4.out.1⟩, by first | (rw [hw3]; exact mSucc hlt) | (rw [← Int.natCast_succ]; exact mSucc hlt)⟩
      · obtain rfl : i = s.n := by omega
        have hil : ((s.n : Int) < (s.n : Int)) = False := by simp
        have he : List.take s.n s.l = s.l := List.take_of_length_le (by omega)
        have HE := Lib.hid he
        clear he
        have HB := Lib.hid (And.intro hb hown5)
        clear hb hbs5 hown5
        go_wp2_with fail
        go_ret2
        refine ⟨⟨_, rfl, ?_⟩, HB.out.1⟩
        rw [HR.out]
        have h := HB.out.2
        rw [HE.out] at h ⊢
        exact h
  clear hK
  refine held_two 1 10 (by kernel_rfl) ?_ ?_
  · simp only [pick, List.getD_cons_zero, List.getD_cons_succ]
    go_wp2_with fail
    refine (size_any _ _ _ _ _ (HP.out.1.keep HQ.out.1) HP.out.2.1).mono ?_
    rintro e w12 ⟨rfl, hb12⟩
    have H12 := Lib.hid (And.intro (bcall HQ.out.1 (Nat.le_refl _) hb12) ((HQ.out.2.on hb12)))
    clear hb12 HQ
    go_wp2_with fail
    refine ⟨H12.out.2, ?_⟩
    refine held_two 2 10 (by kernel_rfl) ?_ ?_
    · simp only [pick, List.getD_cons_zero, List.getD_cons_succ]
      have hb13 := (Below.refl w12.heap.size w12).alloc (Nat.le_refl _) (.cells #[.int .i64 10, .int .i64 ((sz 16 s.l : Nat) : Int)] 3)
      have ho13 : RIn.Own (w12.alloc (.cells #[.int .i64 10, .int .i64 ((sz 16 s.l : Nat) : Int)] 3)) w.heap.size (.slice (some ⟨w12.heap.size, 0, none⟩) 2 2) [10, sz 16 s.l] := ⟨rfl, .inr ⟨w12.heap.size, 2, #[.int .i64 10, .int .i64 ((sz 16 s.l : Nat) : Int)], rfl, H12.out.1.size, hnew _ _, Nat.le_refl _, by unfold maxLen; omega, rfl, rfl⟩⟩
      have H13 := Lib.hid (And.intro (bcall H12.out.1 (Nat.le_refl _) hb13) (And.intro (H12.out.2.on hb13) (ho13)))
      clear hb13 ho13 H12
      go_wp2_with fail
      refine ⟨H13.out.2.1, ?_⟩
      generalize hq13 : w12.heap.size = q13 at *
      clear hq13
      generalize w12.alloc (.cells #[.int .i64 10, .int .i64 ((sz 16 s.l : Nat) : Int)] 3) = w13 at *
      refine held_two 3 10 (by kernel_rfl) ?_ ?_
      · simp only [pick, List.getD_cons_zero, List.getD_cons_succ]
        go_wp2_with fail
        obtain ⟨oa14, c14, hv14, -, -, hs14, -⟩ := H13.out.2.2.sl
        have hy14 := hv14
        simp only [Value.slice.injEq] at hy14
        obtain ⟨rfl, -, rfl⟩ := hy14
        refine (bytes_any (k := 2) (by omega) hs14 (by intro x hx; have h1 := HP.out.2.2.1; have h2 := HP.out.2.2.2.1; simp at hx; omega) (by simp)).mono ?_
        rintro e w14 ⟨v14, rfl, ho14, hb14⟩
        obtain ⟨oa14, c14, rfl, hs14⟩ := bs_own ho14
        have H14 := Lib.hid (And.intro (bcall H13.out.1 (Nat.le_refl _) hb14) (And.intro (H13.out.2.1.on hb14) (And.intro (H13.out.2.2.below hb14) (hs14))))
        clear hb14 H13 hv14 ho14 hs14
        go_wp2_with fail
        refine ⟨H14.out.2.1, ?_⟩
        refine held_one 10 (by kernel_rfl) ?_
        simp only [pick, List.getD_cons_zero, List.getD_cons_succ]
        have hb15 := (Below.refl w14.heap.size w14).alloc (Nat.le_refl _) (.cells #[.int .i64 (a : Int), .int .i64 (b : Int), .int .i64 (d : Int)] 3)
        have ho15 : RIn.Own (w14.alloc (.cells #[.int .i64 (a : Int), .int .i64 (b : Int), .int .i64 (d : Int)] 3)) w.heap.size (.slice (some ⟨w14.heap.size, 0, none⟩) 3 3) [a, b, d] := ⟨rfl, .inr ⟨w14.heap.size, 3, #[.int .i64 (a : Int), .int .i64 (b : Int), .int .i64 (d : Int)], rfl, H14.out.1.size, hnew _ _, Nat.le_refl _, by unfold maxLen; omega, rfl, rfl⟩⟩
        have H15 := Lib.hid (And.intro (bcall H14.out.1 (Nat.le_refl _) hb15) (And.intro (H14.out.2.1.on hb15) (And.intro (H14.out.2.2.1.below hb15) (And.intro (H14.out.2.2.2.below hb15) (ho15)))))
        clear hb15 ho15 H14
        go_wp2_with fail
        refine ⟨H15.out.2.1, ?_⟩
        generalize hq15 : w14.heap.size = q15 at *
        clear hq15
        generalize w14.alloc (.cells #[.int .i64 (a : Int), .int .i64 (b : Int), .int .i64 (d : Int)] 3) = w15 at *
        refine held_one 11 (by kernel_rfl) ?_
        simp only [pick, List.getD_cons_zero, List.getD_cons_succ]
        go_wp2_with fail
        obtain ⟨oa16, c16, hv16, -, -, hs16, -⟩ := H15.out.2.2.2.2.sl
        have hy16 := hv16
        simp only [Value.slice.injEq] at hy16
        obtain ⟨rfl, -, rfl⟩ := hy16
        refine (bytes_any (k := 4) (by omega) hs16 (by intro x hx; have h1 := HP.out.2.2.1; have h2 := HP.out.2.2.2.1; simp at hx; omega) (by simp)).mono ?_
        rintro e w16 ⟨v16, rfl, ho16, hb16⟩
        obtain ⟨oa16, c16, rfl, hs16⟩ := bs_own ho16
        have H16 := Lib.hid (And.intro (bcall H15.out.1 (Nat.le_refl _) hb16) (And.intro (H15.out.2.1.on hb16) (And.intro (H15.out.2.2.1.below hb16) (And.intro (H15.out.2.2.2.1.below hb16) (And.intro (H15.out.2.2.2.2.below hb16) (hs16))))))
        clear hb16 H15 hv16 ho16 hs16
        go_wp2_with fail
        refine ⟨H16.out.2.1, ?_⟩
        refine held_one 12 (by kernel_rfl) ?_
        simp only [pick, List.getD_cons_zero, List.getD_cons_succ]
        have hb17 := (Below.refl w16.heap.size w16).alloc (Nat.le_refl _) (.cells #[.slice oa14 (bes 2 [10, sz 16 s.l]).length c14, .slice oa16 (bes 4 [a, b, d]).length c16] 27)
        have ho17 : RH.Own (w16.alloc (.cells #[.slice oa14 (bes 2 [10, sz 16 s.l]).length c14, .slice oa16 (bes 4 [a, b, d]).length c16] 27)) w.heap.size (.slice (some ⟨w16.heap.size, 0, none⟩) 2 2) [(oa14, (bes 2 [10, sz 16 s.l]).length, c14), (oa16, (bes 4 [a, b, d]).length, c16)] := ⟨rfl, .inr ⟨w16.heap.size, 2, #[.slice oa14 (bes 2 [10, sz 16 s.l]).length c14, .slice oa16 (bes 4 [a, b, d]).length c16], rfl, H16.out.1.size, hnew _ _, Nat.le_refl _, by unfold maxLen; omega, rfl, rfl⟩⟩
        have H17 := Lib.hid (And.intro (bcall H16.out.1 (Nat.le_refl _) hb17) (And.intro (H16.out.2.1.on hb17) (And.intro (H16.out.2.2.1.below hb17) (And.intro (H16.out.2.2.2.1.below hb17) (And.intro (H16.out.2.2.2.2.1.below hb17) (And.intro (H16.out.2.2.2.2.2.below hb17) (ho17)))))))
        clear hb17 ho17 H16
        go_wp2_with fail
        refine ⟨H17.out.2.1, ?_⟩
        generalize hq17 : w16.heap.size = q17 at *
        clear hq17
        generalize w16.alloc (.cells #[.slice oa14 (bes 2 [10, sz 16 s.l]).length c14, .slice oa16 (bes 4 [a, b, d]).length c16] 27) = w17 at *
        refine held_one 13 (by kernel_rfl) ?_
        simp only [pick, List.getD_cons_zero, List.getD_cons_succ]
        go_wp2_with fail
        obtain ⟨oa18, c18, hv18, -, -, hs18, -⟩ := H17.out.2.2.2.2.2.2.sl
        have hy18 := hv18
        simp only [Value.slice.injEq] at hy18
        obtain ⟨rfl, -, rfl⟩ := hy18
        refine (concat_any hs18 (BSS.cons (BSS.cons (BSS.nil _) H17.out.2.2.2.2.2.1.sl H17.out.2.2.2.2.2.1.nil) H17.out.2.2.2.1.sl H17.out.2.2.2.1.nil) (by simp) (by simp [lsum, bes_length])).mono ?_
        rintro e w18 ⟨v18, rfl, ho18, hb18⟩
        have hf18 : RB.Own w18 w.heap.size v18 (headB a b d (sz 16 s.l)) := by have h := ho18.mono H17.out.1.size; rwa [show List.flatten [bes 2 [10, sz 16 s.l], bes 4 [a, b, d]] = headB a b d (sz 16 s.l) by simp [headB]] at h
        have H18 := Lib.hid (And.intro (bcall H17.out.1 (Nat.le_refl _) hb18) (And.intro (H17.out.2.1.on hb18) (hf18)))
        clear hb18 H17 hv18 hf18 ho18
        go_wp2_with fail
        refine ⟨H18.out.2.1, ?_⟩
        refine held_one 14 (by kernel_rfl) ?_
        simp only [pick, List.getD_cons_zero, List.getD_cons_succ]
        go_wp2_with fail
        refine ⟨H18.out.2.1, ?_⟩
        refine wpAnyH_done (by kernel_rfl) ?_ _
        exact hK2 _ _ _ _ _ _ _ _ _ H18.out.2.2 H18.out.1 H18.out.2.1
      · simp only [pick, List.getD_cons_zero, List.getD_cons_succ]
        have hb19 := (Below.refl w13.heap.size w13).alloc (Nat.le_refl _) (.cells #[.int .i64 (a : Int), .int .i64 (b : Int), .int .i64 (d : Int)] 3)
        have ho19 : RIn.Own (w13.alloc (.cells #[.int .i64 (a : Int), .int .i64 (b : Int), .int .i64 (d : Int)] 3)) w.heap.size (.slice (some ⟨w13.heap.size, 0, none⟩) 3 3) [a, b, d] := ⟨rfl, .inr ⟨w13.heap.size, 3, #[.int .i64 (a : Int), .int .i64 (b : Int), .int .i64 (d : Int)], rfl, H13.out.1.size, hnew _ _, Nat.le_refl _, by unfold maxLen; omega, rfl, rfl⟩⟩
        have H19 := Lib.hid (And.intro (bcall H13.out.1 (Nat.le_refl _) hb19) (And.intro (H13.out.2.1.on hb19) (And.intro (H13.out.2.2.below hb19) (ho19))))
        clear hb19 ho19 H13
        go_wp2_with fail
        refine ⟨H19.out.2.1, ?_⟩
        generalize hq19 : w13.heap.size = q19 at *
        clear hq19
        generalize w13.alloc (.cells #[.int .i64 (a : Int), .int .i64 (b : Int), .int .i64 (d : Int)] 3) = w19 at *
        refine held_one 3 (by kernel_rfl) ?_
        simp only [pick, List.getD_cons_zero, List.getD_cons_succ]
        go_wp2_with fail
        obtain ⟨oa20, c20, hv20, -, -, hs20, -⟩ := H19.out.2.2.1.sl
        have hy20 := hv20
        simp only [Value.slice.injEq] at hy20
        obtain ⟨rfl, -, rfl⟩ := hy20
        refine (bytes_any (k := 2) (by omega) hs20 (by intro x hx; have h1 := HP.out.2.2.1; have h2 := HP.out.2.2.2.1; simp at hx; omega) (by simp)).mono ?_
        rintro e w20 ⟨v20, rfl, ho20, hb20⟩
        obtain ⟨oa20, c20, rfl, hs20⟩ := bs_own ho20
        have H20 := Lib.hid (And.intro (bcall H19.out.1 (Nat.le_refl _) hb20) (And.intro (H19.out.2.1.on hb20) (And.intro (H19.out.2.2.1.below hb20) (And.intro (H19.out.2.2.2.below hb20) (hs20)))))
        clear hb20 H19 hv20 ho20 hs20
        go_wp2_with fail
        refine ⟨H20.out.2.1, ?_⟩
        refine held_one 11 (by kernel_rfl) ?_
        simp only [pick, List.getD_cons_zero, List.getD_cons_succ]
        go_wp2_with fail
        obtain ⟨oa21, c21, hv21, -, -, hs21, -⟩ := H20.out.2.2.2.1.sl
        have hy21 := hv21
        simp only [Value.slice.injEq] at hy21
        obtain ⟨rfl, -, rfl⟩ := hy21
        refine (bytes_any (k := 4) (by omega) hs21 (by intro x hx; have h1 := HP.out.2.2.1; have h2 := HP.out.2.2.2.1; simp at hx; omega) (by simp)).mono ?_
        rintro e w21 ⟨v21, rfl, ho21, hb21⟩
        obtain ⟨oa21, c21, rfl, hs21⟩ := bs_own ho21
        have H21 := Lib.hid (And.intro (bcall H20.out.1 (Nat.le_refl _) hb21) (And.intro (H20.out.2.1.on hb21) (And.intro (H20.out.2.2.1.below hb21) (And.intro (H20.out.2.2.2.1.below hb21) (And.intro (H20.out.2.2.2.2.below hb21) (hs21))))))
        clear hb21 H20 hv21 ho21 hs21
        go_wp2_with fail
        refine ⟨H21.out.2.1, ?_⟩
        refine held_one 12 (by kernel_rfl) ?_
        simp only [pick, List.getD_cons_zero, List.getD_cons_succ]
        have hb22 := (Below.refl w21.heap.size w21).alloc (Nat.le_refl _) (.cells #[.slice oa20 (bes 2 [10, sz 16 s.l]).length c20, .slice oa21 (bes 4 [a, b, d]).length c21] 27)
        have ho22 : RH.Own (w21.alloc (.cells #[.slice oa20 (bes 2 [10, sz 16 s.l]).length c20, .slice oa21 (bes 4 [a, b, d]).length c21] 27)) w.heap.size (.slice (some ⟨w21.heap.size, 0, none⟩) 2 2) [(oa20, (bes 2 [10, sz 16 s.l]).length, c20), (oa21, (bes 4 [a, b, d]).length, c21)] := ⟨rfl, .inr ⟨w21.heap.size, 2, #[.slice oa20 (bes 2 [10, sz 16 s.l]).length c20, .slice oa21 (bes 4 [a, b, d]).length c21], rfl, H21.out.1.size, hnew _ _, Nat.le_refl _, by unfold maxLen; omega, rfl, rfl⟩⟩
        have H22 := Lib.hid (And.intro (bcall H21.out.1 (Nat.le_refl _) hb22) (And.intro (H21.out.2.1.on hb22) (And.intro (H21.out.2.2.1.below hb22) (And.intro (H21.out.2.2.2.1.below hb22) (And.intro (H21.out.2.2.2.2.1.below hb22) (And.intro (H21.out.2.2.2.2.2.below hb22) (ho22)))))))
        clear hb22 ho22 H21
        go_wp2_with fail
        refine ⟨H22.out.2.1, ?_⟩
        generalize hq22 : w21.heap.size = q22 at *
        clear hq22
        generalize w21.alloc (.cells #[.slice oa20 (bes 2 [10, sz 16 s.l]).length c20, .slice oa21 (bes 4 [a, b, d]).length c21] 27) = w22 at *
        refine held_one 13 (by kernel_rfl) ?_
        simp only [pick, List.getD_cons_zero, List.getD_cons_succ]
        go_wp2_with fail
        obtain ⟨oa23, c23, hv23, -, -, hs23, -⟩ := H22.out.2.2.2.2.2.2.sl
        have hy23 := hv23
        simp only [Value.slice.injEq] at hy23
        obtain ⟨rfl, -, rfl⟩ := hy23
        refine (concat_any hs23 (BSS.cons (BSS.cons (BSS.nil _) H22.out.2.2.2.2.2.1.sl H22.out.2.2.2.2.2.1.nil) H22.out.2.2.2.2.1.sl H22.out.2.2.2.2.1.nil) (by simp) (by simp [lsum, bes_length])).mono ?_
        rintro e w23 ⟨v23, rfl, ho23, hb23⟩
        have hf23 : RB.Own w23 w.heap.size v23 (headB a b d (sz 16 s.l)) := by have h := ho23.mono H22.out.1.size; rwa [show List.flatten [bes 2 [10, sz 16 s.l], bes 4 [a, b, d]] = headB a b d (sz 16 s.l) by simp [headB]] at h
        have H23 := Lib.hid (And.intro (bcall H22.out.1 (Nat.le_refl _) hb23) (And.intro (H22.out.2.1.on hb23) (hf23)))
        clear hb23 H22 hv23 hf23 ho23
        go_wp2_with fail
        refine ⟨H23.out.2.1, ?_⟩
        refine held_one 14 (by kernel_rfl) ?_
        simp only [pick, List.getD_cons_zero, List.getD_cons_succ]
        go_wp2_with fail
        refine ⟨H23.out.2.1, ?_⟩
        refine wpAnyH_done (by kernel_rfl) ?_ _
        exact hK2 _ _ _ _ _ _ _ _ _ H23.out.2.2 H23.out.1 H23.out.2.1
    · simp only [pick, List.getD_cons_zero, List.getD_cons_succ]
      have hb24 := (Below.refl w12.heap.size w12).alloc (Nat.le_refl _) (.cells #[.int .i64 (a : Int), .int .i64 (b : Int), .int .i64 (d : Int)] 3)
      have ho24 : RIn.Own (w12.alloc (.cells #[.int .i64 (a : Int), .int .i64 (b : Int), .int .i64 (d : Int)] 3)) w.heap.size (.slice (some ⟨w12.heap.size, 0, none⟩) 3 3) [a, b, d] := ⟨rfl, .inr ⟨w12.heap.size, 3, #[.int .i64 (a : Int), .int .i64 (b : Int), .int .i64 (d : Int)], rfl, H12.out.1.size, hnew _ _, Nat.le_refl _, by unfold maxLen; omega, rfl, rfl⟩⟩
      have H24 := Lib.hid (And.intro (bcall H12.out.1 (Nat.le_refl _) hb24) (And.intro (H12.out.2.on hb24) (ho24)))
      clear hb24 ho24 H12
      go_wp2_with fail
      refine ⟨H24.out.2.1, ?_⟩
      generalize hq24 : w12.heap.size = q24 at *
      clear hq24
      generalize w12.alloc (.cells #[.int .i64 (a : Int), .int .i64 (b : Int), .int .i64 (d : Int)] 3) = w24 at *
      refine held_one 2 (by kernel_rfl) ?_
      simp only [pick, List.getD_cons_zero, List.getD_cons_succ]
      have hb25 := (Below.refl w24.heap.size w24).alloc (Nat.le_refl _) (.cells #[.int .i64 10, .int .i64 ((sz 16 s.l : Nat) : Int)] 3)
      have ho25 : RIn.Own (w24.alloc (.cells #[.int .i64 10, .int .i64 ((sz 16 s.l : Nat) : Int)] 3)) w.heap.size (.slice (some ⟨w24.heap.size, 0, none⟩) 2 2) [10, sz 16 s.l] := ⟨rfl, .inr ⟨w24.heap.size, 2, #[.int .i64 10, .int .i64 ((sz 16 s.l : Nat) : Int)], rfl, H24.out.1.size, hnew _ _, Nat.le_refl _, by unfold maxLen; omega, rfl, rfl⟩⟩
      have H25 := Lib.hid (And.intro (bcall H24.out.1 (Nat.le_refl _) hb25) (And.intro (H24.out.2.1.on hb25) (And.intro (H24.out.2.2.below hb25) (ho25))))
      clear hb25 ho25 H24
      go_wp2_with fail
      refine ⟨H25.out.2.1, ?_⟩
      generalize hq25 : w24.heap.size = q25 at *
      clear hq25
      generalize w24.alloc (.cells #[.int .i64 10, .int .i64 ((sz 16 s.l : Nat) : Int)] 3) = w25 at *
      refine held_one 3 (by kernel_rfl) ?_
      simp only [pick, List.getD_cons_zero, List.getD_cons_succ]
      go_wp2_with fail
      obtain ⟨oa26, c26, hv26, -, -, hs26, -⟩ := H25.out.2.2.2.sl
      have hy26 := hv26
      simp only [Value.slice.injEq] at hy26
      obtain ⟨rfl, -, rfl⟩ := hy26
      refine (bytes_any (k := 2) (by omega) hs26 (by intro x hx; have h1 := HP.out.2.2.1; have h2 := HP.out.2.2.2.1; simp at hx; omega) (by simp)).mono ?_
      rintro e w26 ⟨v26, rfl, ho26, hb26⟩
      obtain ⟨oa26, c26, rfl, hs26⟩ := bs_own ho26
      have H26 := Lib.hid (And.intro (bcall H25.out.1 (Nat.le_refl _) hb26) (And.intro (H25.out.2.1.on hb26) (And.intro (H25.out.2.2.1.below hb26) (And.intro (H25.out.2.2.2.below hb26) (hs26)))))
      clear hb26 H25 hv26 ho26 hs26
      go_wp2_with fail
      refine ⟨H26.out.2.1, ?_⟩
      refine held_one 11 (by kernel_rfl) ?_
      simp only [pick, List.getD_cons_zero, List.getD_cons_succ]
      go_wp2_with fail
      obtain ⟨oa27, c27, hv27, -, -, hs27, -⟩ := H26.out.2.2.1.sl
      have hy27 := hv27
      simp only [Value.slice.injEq] at hy27
      obtain ⟨rfl, -, rfl⟩ := hy27
      refine (bytes_any (k := 4) (by omega) hs27 (by intro x hx; have h1 := HP.out.2.2.1; have h2 := HP.out.2.2.2.1; simp at hx; omega) (by simp)).mono ?_
      rintro e w27 ⟨v27, rfl, ho27, hb27⟩
      obtain ⟨oa27, c27, rfl, hs27⟩ := bs_own ho27
      have H27 := Lib.hid (And.intro (bcall H26.out.1 (Nat.le_refl _) hb27) (And.intro (H26.out.2.1.on hb27) (And.intro (H26.out.2.2.1.below hb27) (And.intro (H26.out.2.2.2.1.below hb27) (And.intro (H26.out.2.2.2.2.below hb27) (hs27))))))
      clear hb27 H26 hv27 ho27 hs27
      go_wp2_with fail
      refine ⟨H27.out.2.1, ?_⟩
      refine held_one 12 (by kernel_rfl) ?_
      simp only [pick, List.getD_cons_zero, List.getD_cons_succ]
      have hb28 := (Below.refl w27.heap.size w27).alloc (Nat.le_refl _) (.cells #[.slice oa26 (bes 2 [10, sz 16 s.l]).length c26, .slice oa27 (bes 4 [a, b, d]).length c27] 27)
      have ho28 : RH.Own (w27.alloc (.cells #[.slice oa26 (bes 2 [10, sz 16 s.l]).length c26, .slice oa27 (bes 4 [a, b, d]).length c27] 27)) w.heap.size (.slice (some ⟨w27.heap.size, 0, none⟩) 2 2) [(oa26, (bes 2 [10, sz 16 s.l]).length, c26), (oa27, (bes 4 [a, b, d]).length, c27)] := ⟨rfl, .inr ⟨w27.heap.size, 2, #[.slice oa26 (bes 2 [10, sz 16 s.l]).length c26, .slice oa27 (bes 4 [a, b, d]).length c27], rfl, H27.out.1.size, hnew _ _, Nat.le_refl _, by unfold maxLen; omega, rfl, rfl⟩⟩
      have H28 := Lib.hid (And.intro (bcall H27.out.1 (Nat.le_refl _) hb28) (And.intro (H27.out.2.1.on hb28) (And.intro (H27.out.2.2.1.below hb28) (And.intro (H27.out.2.2.2.1.below hb28) (And.intro (H27.out.2.2.2.2.1.below hb28) (And.intro (H27.out.2.2.2.2.2.below hb28) (ho28)))))))
      clear hb28 ho28 H27
      go_wp2_with fail
      refine ⟨H28.out.2.1, ?_⟩
      generalize hq28 : w27.heap.size = q28 at *
      clear hq28
      generalize w27.alloc (.cells #[.slice oa26 (bes 2 [10, sz 16 s.l]).length c26, .slice oa27 (bes 4 [a, b, d]).length c27] 27) = w28 at *
      refine held_one 13 (by kernel_rfl) ?_
      simp only [pick, List.getD_cons_zero, List.getD_cons_succ]
      go_wp2_with fail
      obtain ⟨oa29, c29, hv29, -, -, hs29, -⟩ := H28.out.2.2.2.2.2.2.sl
      have hy29 := hv29
      simp only [Value.slice.injEq] at hy29
      obtain ⟨rfl, -, rfl⟩ := hy29
      refine (concat_any hs29 (BSS.cons (BSS.cons (BSS.nil _) H28.out.2.2.2.2.2.1.sl H28.out.2.2.2.2.2.1.nil) H28.out.2.2.2.2.1.sl H28.out.2.2.2.2.1.nil) (by simp) (by simp [lsum, bes_length])).mono ?_
      rintro e w29 ⟨v29, rfl, ho29, hb29⟩
      have hf29 : RB.Own w29 w.heap.size v29 (headB a b d (sz 16 s.l)) := by have h := ho29.mono H28.out.1.size; rwa [show List.flatten [bes 2 [10, sz 16 s.l], bes 4 [a, b, d]] = headB a b d (sz 16 s.l) by simp [headB]] at h
      have H29 := Lib.hid (And.intro (bcall H28.out.1 (Nat.le_refl _) hb29) (And.intro (H28.out.2.1.on hb29) (hf29)))
      clear hb29 H28 hv29 hf29 ho29
      go_wp2_with fail
      refine ⟨H29.out.2.1, ?_⟩
      refine held_one 14 (by kernel_rfl) ?_
      simp only [pick, List.getD_cons_zero, List.getD_cons_succ]
      go_wp2_with fail
      refine ⟨H29.out.2.1, ?_⟩
      refine wpAnyH_done (by kernel_rfl) ?_ _
      exact hK2 _ _ _ _ _ _ _ _ _ H29.out.2.2 H29.out.1 H29.out.2.1
  · simp only [pick, List.getD_cons_zero, List.getD_cons_succ]
    have hb5 := (Below.refl w3.heap.size w3).alloc (Nat.le_refl _) (.cells #[.int .i64 (a : Int), .int .i64 (b : Int), .int .i64 (d : Int)] 3)
    have ho5 : RIn.Own (w3.alloc (.cells #[.int .i64 (a : Int), .int .i64 (b : Int), .int .i64 (d : Int)] 3)) w.heap.size (.slice (some ⟨w3.heap.size, 0, none⟩) 3 3) [a, b, d] := ⟨rfl, .inr ⟨w3.heap.size, 3, #[.int .i64 (a : Int), .int .i64 (b : Int), .int .i64 (d : Int)], rfl, HQ.out.1.size, hnew _ _, Nat.le_refl _, by unfold maxLen; omega, rfl, rfl⟩⟩
    have H5 := Lib.hid (And.intro (bcall HQ.out.1 (Nat.le_refl _) hb5) (And.intro (HQ.out.2.on hb5) (ho5)))
    clear hb5 ho5 HQ
    go_wp2_with fail
    refine ⟨H5.out.2.1, ?_⟩
    generalize hq5 : w3.heap.size = q5 at *
    clear hq5
    generalize w3.alloc (.cells #[.int .i64 (a : Int), .int .i64 (b : Int), .int .i64 (d : Int)] 3) = w5 at *
    refine held_one 1 (by kernel_rfl) ?_
    simp only [pick, List.getD_cons_zero, List.getD_cons_succ]
    go_wp2_with fail
    refine (size_any _ _ _ _ _ (HP.out.1.keep H5.out.1) HP.out.2.1).mono ?_
    rintro e w6 ⟨rfl, hb6⟩
    have H6 := Lib.hid (And.intro (bcall H5.out.1 (Nat.le_refl _) hb6) (And.intro (H5.out.2.1.on hb6) ((H5.out.2.2.below hb6))))
    clear hb6 H5
    go_wp2_with fail
    refine ⟨H6.out.2.1, ?_⟩
    refine held_one 2 (by kernel_rfl) ?_
    simp only [pick, List.getD_cons_zero, List.getD_cons_succ]
    have hb7 := (Below.refl w6.heap.size w6).alloc (Nat.le_refl _) (.cells #[.int .i64 10, .int .i64 ((sz 16 s.l : Nat) : Int)] 3)
    have ho7 : RIn.Own (w6.alloc (.cells #[.int .i64 10, .int .i64 ((sz 16 s.l : Nat) : Int)] 3)) w.heap.size (.slice (some ⟨w6.heap.size, 0, none⟩) 2 2) [10, sz 16 s.l] := ⟨rfl, .inr ⟨w6.heap.size, 2, #[.int .i64 10, .int .i64 ((sz 16 s.l : Nat) : Int)], rfl, H6.out.1.size, hnew _ _, Nat.le_refl _, by unfold maxLen; omega, rfl, rfl⟩⟩
    have H7 := Lib.hid (And.intro (bcall H6.out.1 (Nat.le_refl _) hb7) (And.intro (H6.out.2.1.on hb7) (And.intro (H6.out.2.2.below hb7) (ho7))))
    clear hb7 ho7 H6
    go_wp2_with fail
    refine ⟨H7.out.2.1, ?_⟩
    generalize hq7 : w6.heap.size = q7 at *
    clear hq7
    generalize w6.alloc (.cells #[.int .i64 10, .int .i64 ((sz 16 s.l : Nat) : Int)] 3) = w7 at *
    refine held_one 3 (by kernel_rfl) ?_
    simp only [pick, List.getD_cons_zero, List.getD_cons_succ]
    go_wp2_with fail
    obtain ⟨oa8, c8, hv8, -, -, hs8, -⟩ := H7.out.2.2.2.sl
    have hy8 := hv8
    simp only [Value.slice.injEq] at hy8
    obtain ⟨rfl, -, rfl⟩ := hy8
    refine (bytes_any (k := 2) (by omega) hs8 (by intro x hx; have h1 := HP.out.2.2.1; have h2 := HP.out.2.2.2.1; simp at hx; omega) (by simp)).mono ?_
    rintro e w8 ⟨v8, rfl, ho8, hb8⟩
    obtain ⟨oa8, c8, rfl, hs8⟩ := bs_own ho8
    have H8 := Lib.hid (And.intro (bcall H7.out.1 (Nat.le_refl _) hb8) (And.intro (H7.out.2.1.on hb8) (And.intro (H7.out.2.2.1.below hb8) (And.intro (H7.out.2.2.2.below hb8) (hs8)))))
    clear hb8 H7 hv8 ho8 hs8
    go_wp2_with fail
    refine ⟨H8.out.2.1, ?_⟩
    refine held_one 11 (by kernel_rfl) ?_
    simp only [pick, List.getD_cons_zero, List.getD_cons_succ]
    go_wp2_with fail
    obtain ⟨oa9, c9, hv9, -, -, hs9, -⟩ := H8.out.2.2.1.sl
    have hy9 := hv9
    simp only [Value.slice.injEq] at hy9
    obtain ⟨rfl, -, rfl⟩ := hy9
    refine (bytes_any (k := 4) (by omega) hs9 (by intro x hx; have h1 := HP.out.2.2.1; have h2 := HP.out.2.2.2.1; simp at hx; omega) (by simp)).mono ?_
    rintro e w9 ⟨v9, rfl, ho9, hb9⟩
    obtain ⟨oa9, c9, rfl, hs9⟩ := bs_own ho9
    have H9 := Lib.hid (And.intro (bcall H8.out.1 (Nat.le_refl _) hb9) (And.intro (H8.out.2.1.on hb9) (And.intro (H8.out.2.2.1.below hb9) (And.intro (H8.out.2.2.2.1.below hb9) (And.intro (H8.out.2.2.2.2.below hb9) (hs9))))))
    clear hb9 H8 hv9 ho9 hs9
    go_wp2_with fail
    refine ⟨H9.out.2.1, ?_⟩
    refine held_one 12 (by kernel_rfl) ?_
    simp only [pick, List.getD_cons_zero, List.getD_cons_succ]
    have hb10 := (Below.refl w9.heap.size w9).alloc (Nat.le_refl _) (.cells #[.slice oa8 (bes 2 [10, sz 16 s.l]).length c8, .slice oa9 (bes 4 [a, b, d]).length c9] 27)
    have ho10 : RH.Own (w9.alloc (.cells #[.slice oa8 (bes 2 [10, sz 16 s.l]).length c8, .slice oa9 (bes 4 [a, b, d]).length c9] 27)) w.heap.size (.slice (some ⟨w9.heap.size, 0, none⟩) 2 2) [(oa8, (bes 2 [10, sz 16 s.l]).length, c8), (oa9, (bes 4 [a, b, d]).length, c9)] := ⟨rfl, .inr ⟨w9.heap.size, 2, #[.slice oa8 (bes 2 [10, sz 16 s.l]).length c8, .slice oa9 (bes 4 [a, b, d]).length c9], rfl, H9.out.1.size, hnew _ _, Nat.le_refl _, by unfold maxLen; omega, rfl, rfl⟩⟩
    have H10 := Lib.hid (And.intro (bcall H9.out.1 (Nat.le_refl _) hb10) (And.intro (H9.out.2.1.on hb10) (And.intro (H9.out.2.2.1.below hb10) (And.intro (H9.out.2.2.2.1.below hb10) (And.intro (H9.out.2.2.2.2.1.below hb10) (And.intro (H9.out.2.2.2.2.2.below hb10) (ho10)))))))
    clear hb10 ho10 H9
    go_wp2_with fail
    refine ⟨H10.out.2.1, ?_⟩
    generalize hq10 : w9.heap.size = q10 at *
    clear hq10
    generalize w9.alloc (.cells #[.slice oa8 (bes 2 [10, sz 16 s.l]).length c8, .slice oa9 (bes 4 [a, b, d]).length c9] 27) = w10 at *
    refine held_one 13 (by kernel_rfl) ?_
    simp only [pick, List.getD_cons_zero, List.getD_cons_succ]
    go_wp2_with fail
    obtain ⟨oa11, c11, hv11, -, -, hs11, -⟩ := H10.out.2.2.2.2.2.2.sl
    have hy11 := hv11
    simp only [Value.slice.injEq] at hy11
    obtain ⟨rfl, -, rfl⟩ := hy11
    refine (concat_any hs11 (BSS.cons (BSS.cons (BSS.nil _) H10.out.2.2.2.2.2.1.sl H10.out.2.2.2.2.2.1.nil) H10.out.2.2.2.2.1.sl H10.out.2.2.2.2.1.nil) (by simp) (by simp [lsum, bes_length])).mono ?_
    rintro e w11 ⟨v11, rfl, ho11, hb11⟩
    have hf11 : RB.Own w11 w.heap.size v11 (headB a b d (sz 16 s.l)) := by have h := ho11.mono H10.out.1.size; rwa [show List.flatten [bes 2 [10, sz 16 s.l], bes 4 [a, b, d]] = headB a b d (sz 16 s.l) by simp [headB]] at h
    have H11 := Lib.hid (And.intro (bcall H10.out.1 (Nat.le_refl _) hb11) (And.intro (H10.out.2.1.on hb11) (hf11)))
    clear hb11 H10 hv11 hf11 ho11
    go_wp2_with fail
    refine ⟨H11.out.2.1, ?_⟩
    refine held_one 14 (by kernel_rfl) ?_
    simp only [pick, List.getD_cons_zero, List.getD_cons_succ]
    go_wp2_with fail
    refine ⟨H11.out.2.1, ?_⟩
    refine wpAnyH_done (by kernel_rfl) ?_ _
    exact hK2 _ _ _ _ _ _ _ _ _ H11.out.2.2 H11.out.1 H11.out.2.1

end Go.Proofs.Ytjjhnnnpikfjpaa
