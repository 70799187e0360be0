/- The next template. -/
import Derived.Test.YtjjhnnnpikfjpaaNw
namespace Go.Proofs.Ytjjhnnnpikfjpaa
open Go.RowKit

theorem T39 : Rep.Ty Try.prog 39 RFd 16 := Rep.Ty.mk' Try.underlying39 (z := .agg #[.int .i64 0, .int .i64 0]) (by kernel_rfl) rfl
def rdFs : Nat → List Nat → Bool → List (Nat × Nat) × List Nat × Bool
  | 0, l, bad => ([], l, bad)
  | k + 1, l, bad =>
    let a := rdB 2 l bad
    let b := rdB 2 a.2.1 a.2.2
    let r := rdFs k b.2.1 b.2.2
    ((getN a.1, getN b.1) :: r.1, r.2)
def fdI (x : Nat × Nat) : Int × Int := ((x.1 : Int), (x.2 : Int))
theorem fd_keep5 {w w' : World} {base : Nat} {v : Value} {l : List (Int × Int)} (h : RFd.Own w base v l) (hs : w.heap.size ≤ w'.heap.size) (he : ∀ bad, v.ownBlock ≠ some bad → bad < w.heap.size → w'.heap[bad]? = w.heap[bad]?) : Keep5 w w' :=
  ⟨hs, fun b cs hb => he b (fun h1 => by
    rcases h.2 with ⟨h2, _⟩ | ⟨g, cap, cur, hv2, _, hh, _⟩
    · rw [h2] at h1; cases h1
    · rw [hv2] at h1
      injection h1 with h1
      dsimp only at h1
      subst h1
      rw [hb] at hh; injection hh with hh; injection hh with _ hh _; revert hh; decide) (lt_of_blk hb)⟩
theorem TmS.but {b : Nat} {cs : Array Value} {w w' : World} {bs : List Nat} (h : TmS b cs w) (hb : But w w' bs) (hn : b ∉ bs) : TmS b cs w' := (hb.block b (lt_of_blk h) hn).trans h
theorem TmS.same {b : Nat} {cs : Array Value} {w w' : World} (e : w'.heap[b]? = w.heap[b]?) (h : TmS b cs w) : TmS b cs w' := e.trans h
structure TtS (b4 b1 : Nat) (cs : Array Value) (v : Value) (w : World) : Prop where
  tm : TmS b4 cs w
  bx : BxS b1 v 67 w
theorem TtS.cells {b4 b1 : Nat} {x0 x1 v : Value} {w : World} (h : TtS b4 b1 #[x0, x1] v w) : w.cell? ⟨b4, 0, none⟩ = some x0 ∧ w.cell? ⟨b4, 1, none⟩ = some x1 ∧ w.cell? ⟨b1, 0, none⟩ = some v := ⟨h.tm.cells.1, h.tm.cells.2, h.bx.cell⟩
/-- fields of one's own -/
theorem fd_own {w : World} {base : Nat} {v : Value} {l : List (Int × Int)} (h : RFd.Own w base v l) (hb : ∀ x ∈ l, FdOk w x) {n : Nat} (hn : l.length = n) : ∃ oa c, v = .slice oa n c ∧ FdsOk w ⟨oa, n, c, l⟩ := by
  subst hn
  obtain ⟨oa, c, rfl, hlc, hcm, hsl, -⟩ := h.sl
  refine ⟨oa, c, rfl, hsl, ?_, hlc, hcm, hb⟩
  rintro rfl
  rcases h.cases with ⟨hv, _⟩ | ⟨g, cap, hv, _⟩
  · injection hv
  · cases hv
set_option maxRecDepth 100000 in
set_option maxHeartbeats 4000000 in
theorem tmpl_rd {g : Nat} {l : List Nat} {bad : Bool} {w : World} (h : RdAt 88 g l bad w) (A B : List Nat × List Nat × Bool) (hA : A = rdB 2 l bad) (hB : B = rdB 2 A.2.1 A.2.2) (hN : getN B.1 ≤ 32) (R : List (Nat × Nat) × List Nat × Bool) (hR : R = rdFs (getN B.1) B.2.1 B.2.2) :
    Calls Try.prog 45 #[.agg #[.pointer (some ⟨g, 0, none⟩)]] w fun e w' => (∃ oa c, e = .returned (.tuple #[.agg #[.int .i64 (getN A.1 : Nat), .slice oa R.1.length c], .bool true]) ∧ FdsOk w' ⟨oa, R.1.length, c, R.1.map fdI⟩) ∧ RdAt 88 g R.2.1 R.2.2 w' ∧ But w w' [g] := by
  have hg := h.lt
  have h1 : BxS w.heap.size (.pointer (some ⟨g, 0, none⟩)) 67 ((w.alloc (.cells #[.pointer (some ⟨g, 0, none⟩)] 67)).alloc (.cells #[.int .i64 0, .slice none 0 0] 41)) := hold (hnew _ _)
  have h2 : TmS (w.heap.size + 1) #[.int .i64 0, .slice none 0 0] ((w.alloc (.cells #[.pointer (some ⟨g, 0, none⟩)] 67)).alloc (.cells #[.int .i64 0, .slice none 0 0] 41)) := hnewAt (Array.size_push _).symm
  have hb := ((Below.refl w.heap.size w).alloc (Nat.le_refl _) (.cells #[.pointer (some ⟨g, 0, none⟩)] 67)).alloc (by simp) (.cells #[.int .i64 0, .slice none 0 0] 41)
  have e0 := h1.cell
  have F := Lib.hid (And.intro (h.on hb) (And.intro h1 (And.intro h2 (But.of_below hb [g]))))
  have HE := Lib.hid (And.intro hA (And.intro hB hR))
  have hn1 : w.heap.size ∉ [g] := by simp; omega
  have hn2 : w.heap.size + 1 ∉ [g] := by simp; omega
  have HN := Lib.hid (And.intro hn1 (And.intro hn2 hg))
  clear h hb h1 h2 hA hB hR hn1 hn2 hg
  go_enter Try.func45, Try.ntmps45
  go_wp2_with fail
  generalize (w.alloc (.cells #[.pointer (some ⟨g, 0, none⟩)] 67)).alloc (.cells #[.int .i64 0, .slice none 0 0] 41) = W at *
  have c1 := two_rd F.out.1
  rw [← HE.out.1] at c1
  have HC := Lib.hid c1
  clear c1
  refine (HC.out).mono ?_
  rintro e W1 ⟨rfl, hr1, hb1⟩
  have F1 := Lib.hid (And.intro hr1 (And.intro (F.out.2.1.but hb1 HN.out.1) (And.intro (F.out.2.2.1.but hb1 HN.out.2.1) (F.out.2.2.2.trans hb1))))
  clear hr1 hb1 F HC e0
  have hal := (Below.refl W1.heap.size W1).alloc (Nat.le_refl _) (.cells #[.int .i64 0, .slice none 0 0] 41)
  have h4 : TmS W1.heap.size #[.int .i64 0, .slice none 0 0] (W1.alloc (.cells #[.int .i64 0, .slice none 0 0] 41)) := hnew _ _
  have hq4 : w.heap.size + 1 < W1.heap.size := lt_of_blk F1.out.2.2.1
  have F2 := Lib.hid (And.intro (F1.out.1.on hal) (And.intro (F1.out.2.1.but (But.of_below hal [g]) HN.out.1) (And.intro (F1.out.2.2.1.on hal) (And.intro (F1.out.2.2.2.trans (But.of_below hal [g])) h4))))
  have e1 := F1.out.2.1.cell
  clear hal h4 F1
  go_wp2_with (with_reducible refine halt_store 41 rfl ?_)
  refine Halted.go ?_
  generalize W1.alloc (.cells #[.int .i64 0, .slice none 0 0] 41) = W2 at *
  generalize W1.heap.size = q4 at *
  refine store_whole rfl 41 _ _ rfl q4 #[.int .i64 (getN A.1 : Nat), .slice none 0 0] rfl rfl F2.out.2.2.2.2 rfl (by kernel_rfl) (by simp [Value.oneCell']) ?_
  intro W3 hW3 hs
  have hgq : g ≠ q4 := by have := HN.out.2.2; omega
  have F3 := Lib.hid (And.intro (F2.out.1.keep (.of_set hs F2.out.2.2.2.2 (by decide)) (hs.other hgq)) (And.intro (show BxS w.heap.size (.pointer (some ⟨g, 0, none⟩)) 67 W3 from (hs.other (by omega)).trans F2.out.2.1) (And.intro (TmS.same (hs.other (by omega)) F2.out.2.2.1) (And.intro (F2.out.2.2.2.1.thenSet hs (.inl (by omega))) (show TmS q4 #[.int .i64 (getN A.1 : Nat), .slice none 0 0] W3 from hW3)))))
  clear F2 hW3 hs e1
  have e1 := F3.out.2.1.cell
  have hn4 : q4 ∉ [g] := by simp; omega
  have HN4 := Lib.hid (And.intro hn4 (And.intro hgq hq4))
  have c1 := two_rd F3.out.1
  rw [← HE.out.2.1] at c1
  have HC := Lib.hid c1
  clear c1 hn4 hgq hq4
  go_wp2_with fail
  refine (HC.out).mono ?_
  rintro e W4 ⟨rfl, hr1, hb1⟩
  have F4 := Lib.hid (And.intro hr1 (And.intro (F3.out.2.1.but hb1 HN.out.1) (And.intro (F3.out.2.2.1.but hb1 HN.out.2.1) (And.intro (F3.out.2.2.2.1.trans hb1) (F3.out.2.2.2.2.but hb1 HN4.out.1)))))
  clear hr1 hb1 F3 HC e1
  have g1 : ((32 : Int) < (getN B.1 : Int)) = False := by simp; omega
  obtain ⟨N, hNN⟩ : ∃ N, N = getN B.1 := ⟨_, rfl⟩
  rw [← hNN] at hN g1 ⊢
  have HNN := Lib.hid hNN
  clear hNN
  go_wp2_with fail
  try dsimp only [Act.put]
  go_loopw [15] (fun iv wr => ∃ (i : Nat) (lq : List Nat) (bad : Bool) (fs : List (Nat × Nat)) (v : Value), i ≤ N ∧ iv = .int .i64 i ∧ RdAt 88 g lq bad wr ∧ BxS w.heap.size (.pointer (some ⟨g, 0, none⟩)) 67 wr ∧ TmS (w.heap.size + 1) #[.int .i64 0, .slice none 0 0] wr ∧ But w wr [g] ∧ TmS q4 #[.int .i64 (getN A.1 : Nat), v] wr ∧ RFd.Own wr w.heap.size v (fs.map fdI) ∧ (v.ownBlock ≠ some w.heap.size ∧ v.ownBlock ≠ some (w.heap.size + 1) ∧ v.ownBlock ≠ some q4) ∧ fs.length = i ∧ (R.1 = fs ++ (rdFs (N - i) lq bad).1 ∧ R.2 = (rdFs (N - i) lq bad).2) ∧ ∀ x ∈ fs, x.1 < 65536 ∧ x.2 < 65536) (fun iv _ => N - (intOf iv).toNat)
  case atStart => exact ⟨0, _, _, [], _, Nat.zero_le _, rfl, F4.out.1, F4.out.2.1, F4.out.2.2.1, F4.out.2.2.2.1, F4.out.2.2.2.2, Rep.Own.nil _ _, ⟨(by intro h; cases h), (by intro h; cases h), (by intro h; cases h)⟩, rfl, by rw [HE.out.2.2, HNN.out]; exact ⟨rfl, rfl⟩, fun x hx => by cases hx⟩
  case round =>
    obtain ⟨i, lq, bad, fs, v, hi, rfl, hrel⟩ := hrel
    obtain ⟨w2, rfl⟩ : ∃ w2 : World, w2 = wr := ⟨_, rfl⟩
    have FL := Lib.hid hrel
    clear hrel F4
    by_cases hlt : i < N
    · have hil : ((i : Int) < (N : Int)) = True := by simp; omega
      have e1 := FL.out.2.1.cell
      go_wp2_with fail
      clear e1
      have hd := (Below.refl w2.heap.size w2).drew
      refine wp_region_T 10 (TtS q4 w.heap.size #[.int .i64 (getN A.1 : Nat), v] (.pointer (some ⟨g, 0, none⟩))) (by kernel_rfl) ?_
      have F1 := Lib.hid (And.intro (FL.out.1.on hd) (And.intro (FL.out.2.1.but (But.of_below hd [g]) HN.out.1) (And.intro (FL.out.2.2.1.on hd) (And.intro (FL.out.2.2.2.1.trans (But.of_below hd [g])) (And.intro (FL.out.2.2.2.2.1.on hd) (And.intro (FL.out.2.2.2.2.2.1.below hd) (And.intro FL.out.2.2.2.2.2.2.1 (And.intro FL.out.2.2.2.2.2.2.2.1 (And.intro FL.out.2.2.2.2.2.2.2.2.1 (FL.out.2.2.2.2.2.2.2.2.2))))))))))
      clear FL
      clear hd
      generalize w2.drew = Wd at *
      refine T_reads [0, 1, 2, 4] (g := 7) rfl (by kernel_rfl) ⟨F1.out.2.2.2.2.1, F1.out.2.1⟩ (fun _ _ d _ _ h => by cases d <;> exact h) ?_
      simp only [pick, List.getD_cons_zero, List.getD_cons_succ]
      iterate 4 ((with_reducible refine wpRead_step (fun K hK => ?_)); go_simp; first | ((with_reducible refine hK _ ?_); clear hK K) | (apply Exists.intro; (with_reducible refine ⟨fun w' hw' => ?_, hK _ ?_⟩); (obtain ⟨f0, f1, f2⟩ := hw'.cells; go_simp; first | exact rfl | exact ⟨rfl, rfl⟩); clear hK K))
      with_reducible refine wpRead_nil ?_
      obtain ⟨A1, hA1⟩ : ∃ A1, A1 = rdB 2 lq bad := ⟨_, rfl⟩
      obtain ⟨B1, hB1⟩ : ∃ B1, B1 = rdB 2 A1.2.1 A1.2.2 := ⟨_, rfl⟩
      have hlt1 : getN A1.1 < 65536 := by rw [hA1]; exact getN_two F1.out.1.bytes (by omega)
      have hlt2 : getN B1.1 < 65536 := by rw [hB1]; refine getN_two ?_ (by omega); rw [hA1]; exact rdB_rest _ _ _ F1.out.1.bytes
      have HAB := Lib.hid (And.intro hA1 (And.intro hB1 (And.intro hlt1 hlt2)))
      clear hA1 hB1 hlt1 hlt2
      refine T_one 3 (by kernel_rfl) ?_
      simp only [pick, List.getD_cons_zero, List.getD_cons_succ]
      have c1 := two_rd F1.out.1
      rw [← HAB.out.1] at c1
      have HC := Lib.hid c1
      clear c1
      go_wp2_with fail
      refine (HC.out).mono ?_
      rintro e w5 ⟨rfl, hr1, hb1⟩
      have F2 := Lib.hid (And.intro hr1 (And.intro (F1.out.2.1.but hb1 HN.out.1) (And.intro (F1.out.2.2.1.but hb1 HN.out.2.1) (And.intro (F1.out.2.2.2.1.trans hb1) (And.intro (F1.out.2.2.2.2.1.but hb1 HN4.out.1) (And.intro (Rep.Own.but F1.out.2.2.2.2.2.1 hb1 (by intro x hx; simp at hx; have := HN.out.2.2; omega)) (And.intro F1.out.2.2.2.2.2.2.1 (And.intro F1.out.2.2.2.2.2.2.2.1 (And.intro F1.out.2.2.2.2.2.2.2.2.1 (F1.out.2.2.2.2.2.2.2.2.2))))))))))
      clear F1
      clear hr1 hb1 HC
      go_wp2_with fail
      refine ⟨fun _ => ⟨F2.out.2.2.2.2.1, F2.out.2.1⟩, ?_⟩
      refine T_one 5 (by kernel_rfl) ?_
      simp only [pick, List.getD_cons_zero, List.getD_cons_succ]
      have c1 := two_rd F2.out.1
      rw [← HAB.out.2.1] at c1
      have HC := Lib.hid c1
      clear c1
      go_wp2_with fail
      refine (HC.out).mono ?_
      rintro e w6 ⟨rfl, hr1, hb1⟩
      have F3 := Lib.hid (And.intro hr1 (And.intro (F2.out.2.1.but hb1 HN.out.1) (And.intro (F2.out.2.2.1.but hb1 HN.out.2.1) (And.intro (F2.out.2.2.2.1.trans hb1) (And.intro (F2.out.2.2.2.2.1.but hb1 HN4.out.1) (And.intro (Rep.Own.but F2.out.2.2.2.2.2.1 hb1 (by intro x hx; simp at hx; have := HN.out.2.2; omega)) (And.intro F2.out.2.2.2.2.2.2.1 (And.intro F2.out.2.2.2.2.2.2.2.1 (And.intro F2.out.2.2.2.2.2.2.2.2.1 (F2.out.2.2.2.2.2.2.2.2.2))))))))))
      clear F2
      clear hr1 hb1 HC
      go_wp2_with fail
      refine ⟨fun _ => ⟨F3.out.2.2.2.2.1, F3.out.2.1⟩, ?_⟩
      refine T_one 6 (by kernel_rfl) ?_
      simp only [pick, List.getD_cons_zero, List.getD_cons_succ]
      go_wp2_with fail
      refine ⟨fun _ => ⟨F3.out.2.2.2.2.1, F3.out.2.1⟩, ?_⟩
      refine T_one 7 (by kernel_rfl) ?_
      simp only [pick, List.getD_cons_zero, List.getD_cons_succ]
      have hbs : w.heap.size ≤ w6.heap.size := F3.out.2.2.2.1.size
      have hb4 := (Below.refl w6.heap.size w6).alloc (Nat.le_refl _) (.cells #[.int .i64 (getN A1.1 : Nat), .int .i64 (getN B1.1 : Nat)] 80)
      have ho4 : RFd.Own (w6.alloc (.cells #[.int .i64 (getN A1.1 : Nat), .int .i64 (getN B1.1 : Nat)] 80)) w.heap.size (.slice (some ⟨w6.heap.size, 0, none⟩) 1 1) [fdI (getN A1.1, getN B1.1)] := ⟨rfl, .inr ⟨w6.heap.size, 1, #[.int .i64 (getN A1.1 : Nat), .int .i64 (getN B1.1 : Nat)], rfl, hbs, hnew _ _, Nat.le_refl _, by unfold maxLen; omega, rfl, rfl⟩⟩
      have F4 := Lib.hid (And.intro (F3.out.1.on hb4) (And.intro (F3.out.2.1.but (But.of_below hb4 [g]) HN.out.1) (And.intro (F3.out.2.2.1.on hb4) (And.intro (F3.out.2.2.2.1.trans (But.of_below hb4 [g])) (And.intro (F3.out.2.2.2.2.1.on hb4) (And.intro (F3.out.2.2.2.2.2.1.below hb4) (And.intro F3.out.2.2.2.2.2.2.1 (And.intro F3.out.2.2.2.2.2.2.2.1 (And.intro F3.out.2.2.2.2.2.2.2.2.1 (And.intro F3.out.2.2.2.2.2.2.2.2.2 (ho4)))))))))))
      clear F3
      clear hb4 ho4 hbs
      go_wp2_with fail
      refine ⟨fun _ => ⟨F4.out.2.2.2.2.1, F4.out.2.1⟩, ?_⟩
      generalize hq9 : w6.heap.size = q9 at *
      clear hq9
      generalize w6.alloc (.cells #[.int .i64 (getN A1.1 : Nat), .int .i64 (getN B1.1 : Nat)] 80) = w7 at *
      refine T_one 8 (by kernel_rfl) ?_
      simp only [pick, List.getD_cons_zero, List.getD_cons_succ]
      obtain ⟨oa9, c9, hv9, -, -, hs9, -⟩ := F4.out.2.2.2.2.2.2.2.2.2.2.sl
      simp only [Value.slice.injEq] at hv9
      obtain ⟨rfl, -, rfl⟩ := hv9
      have hlen9 : (fs.map fdI).length ≤ 32 := by rw [List.length_map]; have := F4.out.2.2.2.2.2.2.2.1; omega
      have HS9 := Lib.hid (And.intro hs9 hlen9)
      clear hs9 hlen9
      go_wp2_with (at_builtin; refine halt ?_)
      refine Halted.go ?_
      refine Rep.append_list2 T39 rfl _ _ rfl (base := w.heap.size) (m := 1) rfl F4.out.2.2.2.2.2.1 rfl HS9.out.1 (by omega) (by have := HS9.out.2; unfold maxLen; omega) (by have := HS9.out.2; omega) F4.out.2.2.2.1.size ?_
      intro v8 w8 ho8 hb8 he8
      have hk8 := fd_keep5 F4.out.2.2.2.2.2.1 hb8.size (fun bad h1 h2 => (he8 bad h1 h2).2)
      have hx8 := he8 w.heap.size F4.out.2.2.2.2.2.2.1.1 (lt_of_blk F4.out.2.1)
      have ht8 := he8 (w.heap.size + 1) F4.out.2.2.2.2.2.2.1.2.1 (lt_of_blk F4.out.2.2.1)
      have hf8 := he8 q4 F4.out.2.2.2.2.2.2.1.2.2 (lt_of_blk F4.out.2.2.2.2.1)
      have hg8 := hb8.block g HN.out.2.2
      have F5 := Lib.hid (And.intro (F4.out.1.keep hk8 hg8) (And.intro (show BxS w.heap.size (.pointer (some ⟨g, 0, none⟩)) 67 w8 from hx8.2.trans F4.out.2.1) (And.intro (TmS.same ht8.2 F4.out.2.2.1) (And.intro (Rep.But.step F4.out.2.2.2.1 hb8 (Nat.le_refl _)) (And.intro (TmS.same hf8.2 F4.out.2.2.2.2.1) (And.intro ho8 (And.intro (And.intro hx8.1 (And.intro ht8.1 hf8.1)) (And.intro F4.out.2.2.2.2.2.2.2.1 (And.intro F4.out.2.2.2.2.2.2.2.2.1 (F4.out.2.2.2.2.2.2.2.2.2.1))))))))))
      clear F4
      clear ho8 hb8 he8 hk8 hx8 ht8 hf8 hg8 HS9
      go_wp2_with fail
      refine ⟨fun _ => ⟨F5.out.2.2.2.2.1, F5.out.2.1⟩, ?_⟩
      refine T_one 9 (by kernel_rfl) ?_
      simp only [pick, List.getD_cons_zero, List.getD_cons_succ]
      go_wp2_with fail
      refine ⟨fun _ => ⟨F5.out.2.2.2.2.1, F5.out.2.1⟩, ?_⟩
      refine T_one 10 (by kernel_rfl) ?_
      simp only [pick, List.getD_cons_zero, List.getD_cons_succ]
      obtain ⟨oa5, n5, c5, rfl⟩ : ∃ oa n c, v8 = .slice oa n c := by
        obtain ⟨oa, c, h, -⟩ := F5.out.2.2.2.2.2.1.sl
        exact ⟨_, _, _, h⟩
      have f3 : w8.frozen? ⟨q4, 1, none⟩ = false := free_of F5.out.2.2.2.2.1
      obtain ⟨z0, z1⟩ := F5.out.2.2.2.2.1.cells
      have hset : SetB w8 (w8.setCell ⟨q4, 1, none⟩ (.slice oa5 n5 c5)) q4 (.cells #[.int .i64 (getN A.1 : Nat), .slice oa5 n5 c5] 41) := (SetB.self F5.out.2.2.2.2.1).store (lt_of_blk F5.out.2.2.2.2.1) (.slice oa5 n5 c5)
      have h4z : TmS q4 #[.int .i64 (getN A.1 : Nat), .slice oa5 n5 c5] (w8.setCell ⟨q4, 1, none⟩ (.slice oa5 n5 c5)) := setCell_blk F5.out.2.2.2.2.1 1 (.slice oa5 n5 c5)
      have hk6 : Keep5 w8 (w8.setCell ⟨q4, 1, none⟩ (.slice oa5 n5 c5)) := .of_set hset F5.out.2.2.2.2.1 (by decide)
      have hq1 := HN4.out.2
      have F6 := Lib.hid (And.intro (F5.out.1.keep hk6 (hset.other hq1.1)) (And.intro (show BxS w.heap.size (.pointer (some ⟨g, 0, none⟩)) 67 (w8.setCell ⟨q4, 1, none⟩ (.slice oa5 n5 c5)) from (hset.other (by omega)).trans F5.out.2.1) (And.intro (TmS.same (hset.other (by omega)) F5.out.2.2.1) (And.intro (F5.out.2.2.2.1.thenSet hset (.inl (by omega))) (And.intro h4z (And.intro (F5.out.2.2.2.2.2.1.keep (fun b hb => hset.other (fun e => F5.out.2.2.2.2.2.2.1.2.2 (e ▸ hb)))) (And.intro F5.out.2.2.2.2.2.2.1 (And.intro F5.out.2.2.2.2.2.2.2.1 (And.intro F5.out.2.2.2.2.2.2.2.2.1 (F5.out.2.2.2.2.2.2.2.2.2))))))))))
      clear F5
      clear hset h4z hk6 hq1
      go_wp2_with fail
      refine ⟨fun h => absurd rfl h, ?_⟩
      refine T_done (by kernel_rfl) ?_ _
      go_wp2_with fail
      have hG := F6.out.2.2.2.2.2.2.2.2.1
      have hNi : N - i = (N - (i + 1)) + 1 := by omega
      have hstep : rdFs (N - i) lq bad = ((getN A1.1, getN B1.1) :: (rdFs (N - (i + 1)) B1.2.1 B1.2.2).1, (rdFs (N - (i + 1)) B1.2.1 B1.2.2).2) := by
        rw [hNi]
        obtain ⟨h1, h2, -⟩ := HAB.out
        subst h2; subst h1
        rfl
      rw [hstep] at hG
      refine ⟨⟨i + 1, B1.2.1, B1.2.2, fs ++ [(getN A1.1, getN B1.1)], .slice oa5 n5 c5, hlt, by rw [Int.natCast_succ], F6.out.1, F6.out.2.1, F6.out.2.2.1, F6.out.2.2.2.1, F6.out.2.2.2.2.1, by rw [List.map_append]; exact F6.out.2.2.2.2.2.1, F6.out.2.2.2.2.2.2.1, by rw [List.length_append, F6.out.2.2.2.2.2.2.2.1]; rfl, ⟨by rw [hG.1, List.append_assoc]; rfl, hG.2⟩, ?_⟩, by rw [← Int.natCast_succ]; exact mSucc hlt⟩
      intro x hx
      rcases List.mem_append.1 hx with hx | hx
      · exact F6.out.2.2.2.2.2.2.2.2.2 x hx
      · obtain rfl : x = (getN A1.1, getN B1.1) := by simpa using hx
        exact HAB.out.2.2
    · obtain rfl : N = i := by omega
      have hil : ((N : Int) < (N : Int)) = False := by simp
      obtain ⟨oa7, c7, rfl, hst7⟩ := fd_own FL.out.2.2.2.2.2.1 (fun x hx => by
        obtain ⟨y, hy, rfl⟩ := List.mem_map.1 hx
        have := FL.out.2.2.2.2.2.2.2.2.2 y hy
        exact ⟨⟨by simp only [fdI]; omega, by simp only [fdI]; omega⟩, ⟨by simp only [fdI]; omega, by simp only [fdI]; omega⟩⟩) (List.length_map _)
      have HS7 := Lib.hid hst7
      clear hst7
      obtain ⟨z0, z1⟩ := FL.out.2.2.2.2.1.cells
      go_wp2_with (with_reducible refine halt_store 41 rfl ?_)
      refine Halted.go ?_
      refine store_whole rfl 41 _ _ rfl (w.heap.size + 1) #[.int .i64 (getN A.1 : Nat), .slice oa7 fs.length c7] rfl rfl FL.out.2.2.1 rfl (by kernel_rfl) (by simp [Value.oneCell']) ?_
      intro Wz hwz hs
      have hgn := HN.out.2.2
      have hr := FL.out.1.keep (.of_set hs FL.out.2.2.1 (by decide)) (hs.other (by omega))
      have hbu := FL.out.2.2.2.1.thenSet hs (.inl (Nat.le_succ _))
      have how := FL.out.2.2.2.2.2.1.keep (w' := Wz) (fun b hb => hs.other (fun e => FL.out.2.2.2.2.2.2.1.2.1 (e ▸ hb)))
      have HZ := Lib.hid (And.intro hwz (And.intro hr (And.intro hbu how)))
      clear hwz hr hbu how hs z0 z1
      go_wp2_with fail
      try dsimp only [Act.put]
      go_wp2_with fail
      have hG := FL.out.2.2.2.2.2.2.2.2.1
      rw [Nat.sub_self] at hG
      have hR1 : R.1 = fs := by rw [hG.1]; simp [rdFs]
      have hR2 : R.2 = (lq, bad) := hG.2
      refine ret_cell2 rfl rfl rfl HZ.out.1 Try.underlying41 rfl (by kernel_rfl) ?_
      rw [hR2, hR1]
      refine ⟨⟨oa7, c7, rfl, ?_⟩, HZ.out.2.1, HZ.out.2.2.1⟩
      obtain ⟨oa8, c8, hv8, hst8⟩ := fd_own HZ.out.2.2.2 HS7.out.all (List.length_map _)
      simp only [Value.slice.injEq] at hv8
      obtain ⟨rfl, -, rfl⟩ := hv8
      exact hst8
end Go.Proofs.Ytjjhnnnpikfjpaa
