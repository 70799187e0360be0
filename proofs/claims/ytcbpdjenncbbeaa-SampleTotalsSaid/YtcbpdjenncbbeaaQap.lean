/- The next template. -/
import Derived.Test.YtcbpdjenncbbeaaQao
import Derived.Test.YtcbpdjenncbbeaaQae
import Derived.DeepKeys4
import Derived.Test.YtcbpdjenncbbeaaQaf
namespace Go.Proofs.Ytcbpdjenncbbeaa.Ip
open Go.RowKit

theorem T39 : Rep.Ty Try.prog 91 RFd 16 := Rep.Ty.mk' Try.underlying91 (z := .agg #[.int .i64 0, .int .i64 0]) (by kernel_rfl) rfl
def rdFs : Nat → List Nat → Bool → List (Nat × Nat) × List Nat × Bool
  | 0, l, bad => ([], l, bad)
  | k + 1, l, bad =>
    let a := rdB 2 l bad
    let b := rdB 2 a.2.1 a.2.2
    let r := rdFs k b.2.1 b.2.2
    ((getN a.1, getN b.1) :: r.1, r.2)
def fdI (x : Nat × Nat) : Int × Int := ((x.1 : Int), (x.2 : Int))
theorem fd_keep5 {w w' : World} {base : Nat} {v : Value} {l : List (Int × Int)} (h : RFd.Own w base v l) (hs : w.heap.size ≤ w'.heap.size) (he : ∀ bad, v.ownBlock ≠ some bad → bad < w.heap.size → w'.heap[bad]? = w.heap[bad]?) : Keep5 w w' :=
  ⟨hs, fun b cs hb => he b (fun h1 => by
    rcases h.2 with ⟨h2, _⟩ | ⟨g, cap, cur, hv2, _, hh, _⟩
    · rw [h2] at h1; cases h1
    · rw [hv2] at h1
      injection h1 with h1
      dsimp only at h1
      subst h1
      rw [hb] at hh; injection hh with hh; injection hh with _ hh _; revert hh; decide) (lt_of_blk hb)⟩
theorem TmS.but {b : Nat} {cs : Array Value} {w w' : World} {bs : List Nat} (h : TmS b cs w) (hb : But w w' bs) (hn : b ∉ bs) : TmS b cs w' := (hb.block b (lt_of_blk h) hn).trans h
theorem TmS.same {b : Nat} {cs : Array Value} {w w' : World} (e : w'.heap[b]? = w.heap[b]?) (h : TmS b cs w) : TmS b cs w' := e.trans h
structure TtS (b4 b1 : Nat) (cs : Array Value) (v : Value) (w : World) : Prop where
  tm : TmS b4 cs w
  bx : BxS b1 v 113 w
theorem TtS.cells {b4 b1 : Nat} {x0 x1 v : Value} {w : World} (h : TtS b4 b1 #[x0, x1] v w) : w.cell? ⟨b4, 0, none⟩ = some x0 ∧ w.cell? ⟨b4, 1, none⟩ = some x1 ∧ w.cell? ⟨b1, 0, none⟩ = some v := ⟨h.tm.cells.1, h.tm.cells.2, h.bx.cell⟩
/-- fields of one's own -/
theorem fd_own {w : World} {base : Nat} {v : Value} {l : List (Int × Int)} (h : RFd.Own w base v l) (hb : ∀ x ∈ l, FdOk w x) {n : Nat} (hn : l.length = n) : ∃ oa c, v = .slice oa n c ∧ FdsOk w ⟨oa, n, c, l⟩ := by
  subst hn
  obtain ⟨oa, c, rfl, hlc, hcm, hsl, -⟩ := h.sl
  refine ⟨oa, c, rfl, hsl, ?_, hlc, hcm, hb⟩
  rintro rfl
  rcases h.cases with ⟨hv, _⟩ | ⟨g, cap, hv, _⟩
  · injection hv
  · cases hv
set_option maxRecDepth 100000 in
set_option maxHeartbeats 4000000 in
theorem tmpl_rd {g : Nat} {l : List Nat} {bad : Bool} {w : World} (h : RdAt 137 g l bad w) (A B : List Nat × List Nat × Bool) (hA : A = rdB 2 l bad) (hB : B = rdB 2 A.2.1 A.2.2) (hN : getN B.1 ≤ 32) (R : List (Nat × Nat) × List Nat × Bool) (hR : R = rdFs (getN B.1) B.2.1 B.2.2) :
    Calls Try.prog 69 #[.agg #[.pointer (some ⟨g, 0, none⟩)]] w fun e w' => (∃ oa c, e = .returned (.tuple #[.agg #[.int .i64 (getN A.1 : Nat), .slice oa R.1.length c], .bool true]) ∧ FdsOk w' ⟨oa, R.1.length, c, R.1.map fdI⟩) ∧ RdAt 137 g R.2.1 R.2.2 w' ∧ But w w' [g] := by
  have hg := h.lt
  have h1 : BxS w.heap.size (.pointer (some ⟨g, 0, none⟩)) 113 ((w.alloc (.cells #[.pointer (some ⟨g, 0, none⟩)] 113)).alloc (.cells #[.int .i64 0, .slice none 0 0] 93)) := hold (hnew _ _)
  have h2 : TmS (w.heap.size + 1) #[.int .i64 0, .slice none 0 0] ((w.alloc (.cells #[.pointer (some ⟨g, 0, none⟩)] 113)).alloc (.cells #[.int .i64 0, .slice none 0 0] 93)) := hnewAt (Array.size_push _).symm
  have hb := ((Below.refl w.heap.size w).alloc (Nat.le_refl _) (.cells #[.pointer (some ⟨g, 0, none⟩)] 113)).alloc (by simp) (.cells #[.int .i64 0, .slice none 0 0] 93)
  have e0 := h1.cell
  have F := Lib.hid (And.intro (h.on hb) (And.intro h1 (And.intro h2 (But.of_below hb [g]))))
  have HE := Lib.hid (And.intro hA (And.intro hB hR))
  have hn1 : w.heap.size ∉ [g] := by simp; omega
  have hn2 : w.heap.size + 1 ∉ [g] := by simp; omega
  have HN := Lib.hid (And.intro hn1 (And.intro hn2 hg))
  clear h hb h1 h2 hA hB hR hn1 hn2 hg
  go_enter Try.func69, Try.ntmps69
  go_wp2_with fail
  generalize (w.alloc (.cells #[.pointer (some ⟨g, 0, none⟩)] 113)).alloc (.cells #[.int .i64 0, .slice none 0 0] 93) = W at *
  have c1 := two_rd F.out.1
  rw [← HE.out.1] at c1
  have HC := Lib.hid c1
  clear c1
  refine (HC.out).mono ?_
  rintro e W1 ⟨rfl, hr1, hb1⟩
  have F1 := Lib.hid (And.intro hr1 (And.intro (F.out.2.1.but hb1 HN.out.1) (And.intro (F.out.2.2.1.but hb1 HN.out.2.1) (F.out.2.2.2.trans hb1))))
  clear hr1 hb1 F HC e0
  have hal := (Below.refl W1.heap.size W1).alloc (Nat.le_refl _) (.cells #[.int .i64 0, .slice none 0 0] 93)
  have h4 : TmS W1.heap.size #[.int .i64 0, .slice none 0 0] (W1.alloc (.cells #[.int .i64 0, .slice none 0 0] 93)) := hnew _ _
  have hq4 : w.heap.size + 1 < W1.heap.size := lt_of_blk F1.out.2.2.1
  have F2 := Lib.hid (And.intro (F1.out.1.on hal) (And.intro (F1.out.2.1.but (But.of_below hal [g]) HN.out.1) (And.intro (F1.out.2.2.1.on hal) (And.intro (F1.out.2.2.2.trans (But.of_below hal [g])) h4))))
  have e1 := F1.out.2.1.cell
  clear hal h4 F1
  go_wp2_with (with_reducible refine halt_store 93 rfl ?_)
  refine Halted.go ?_
  generalize W1.alloc (.cells #[.int .i64 0, .slice none 0 0] 93) = W2 at *
  generalize W1.heap.size = q4 at *
  refine store_whole rfl 93 _ _ rfl q4 #[.int .i64 (getN A.1 : Nat), .slice none 0 0] rfl rfl F2.out.2.2.2.2 rfl (by kernel_rfl) (by simp [Value.oneCell']) ?_
  intro W3 hW3 hs
  have hgq : g ≠ q4 := by have := HN.out.2.2; omega
  have F3 := Lib.hid (And.intro (F2.out.1.keep (.of_set hs F2.out.2.2.2.2 (by decide)) (hs.other hgq)) (And.intro (show BxS w.heap.size (.pointer (some ⟨g, 0, none⟩)) 113 W3 from (hs.other (by omega)).trans F2.out.2.1) (And.intro (TmS.same (hs.other (by omega)) F2.out.2.2.1) (And.intro (F2.out.2.2.2.1.thenSet hs (.inl (by omega))) (show TmS q4 #[.int .i64 (getN A.1 : Nat), .slice none 0 0] W3 from hW3)))))
  clear F2 hW3 hs e1
  have e1 := F3.out.2.1.cell
  have hn4 : q4 ∉ [g] := by simp; omega
  have HN4 := Lib.hid (And.intro hn4 (And.intro hgq hq4))
  have c1 := two_rd F3.out.1
  rw [← HE.out.2.1] at c1
  have HC := Lib.hid c1
  clear c1 hn4 hgq hq4
  go_wp2_with fail
  refine (HC.out).mono ?_
  rintro e W4 ⟨rfl, hr1, hb1⟩
  have F4 := Lib.hid (And.intro hr1 (And.intro (F3.out.2.1.but hb1 HN.out.1) (And.intro (F3.out.2.2.1.but hb1 HN.out.2.1) (And.intro (F3.out.2.2.2.1.trans hb1) (F3.out.2.2.2.2.but hb1 HN4.out.1)))))
  clear hr1 hb1 F3 HC e1
  have g1 : ((32 : Int) < (getN B.1 : Int)) = False := by simp; omega
  obtain ⟨N, hNN⟩ : ∃ N, N = getN B.1 := ⟨_, rfl⟩
  rw [← hNN] at hN g1 ⊢
  have HNN := Lib.hid hNN
  clear hNN
  go_wp2_with fail
  try dsimp only [Act.put]
  go_loopw [15] (fun iv wr => ∃ (i : Nat) (lq : List Nat) (bad : Bool) (fs : List (Nat × Nat)) (v : Value), i ≤ N ∧ iv = .int .i64 i ∧ RdAt 137 g lq bad wr ∧ BxS w.heap.size (.pointer (some ⟨g, 0, none⟩)) 113 wr ∧ TmS (w.heap.size + 1) #[.int .i64 0, .slice none 0 0] wr ∧ But w wr [g] ∧ TmS q4 #[.int .i64 (getN A.1 : Nat), v] wr ∧ RFd.Own wr w.heap.size v (fs.map fdI) ∧ (v.ownBlock ≠ some w.heap.size ∧ v.ownBlock ≠ some (w.heap.size + 1) ∧ v.ownBlock ≠ some q4) ∧ fs.length = i ∧ (R.1 = fs ++ (rdFs (N - i) lq bad).1 ∧ R.2 = (rdFs (N - i) lq bad).2) ∧ ∀ x ∈ fs, x.1 < 65536 ∧ x.2 < 65536) (fun iv _ => N - (intOf iv).toNat)
  case atStart => exact ⟨0, _, _, [], _, Nat.zero_le _, rfl, F4.out.1, F4.out.2.1, F4.out.2.2.1, F4.out.2.2.2.1, F4.out.2.2.2.2, Rep.Own.nil _ _, ⟨(by intro h; cases h), (by intro h; cases h), (by intro h; cases h)⟩, rfl, by rw [HE.out.2.2, HNN.out]; exact ⟨rfl, rfl⟩, fun x hx => by cases hx⟩
  case round =>
    obtain ⟨i, lq, bad, fs, v, hi, rfl, hrel⟩ := hrel
    obtain ⟨w2, rfl⟩ : ∃ w2 : World, w2 = wr := ⟨_, rfl⟩
    have FL := Lib.hid hrel
    clear hrel F4
    by_cases hlt : i < N
    · have hil : ((i : Int) < (N : Int)) = True := by simp; omega
      have e1 := FL.out.2.1.cell
      go_wp2_with fail
      clear e1
      have hd := (Below.refl w2.heap.size w2).drew
      refine wp_region_T 10 (TtS q4 w.heap.size #[.int .i64 (getN A.1 : Nat), v] (.pointer (some ⟨g, 0, none⟩))) (by kernel_rfl) ?_
      have F1 := Lib.hid (And.intro (FL.out.1.on hd) (And.intro (FL.out.2.1.but (But.of_below hd [g]) HN.out.1) (And.intro (FL.out.2.2.1.on hd) (And.intro (FL.out.2.2.2.1.trans (But.of_below hd [g])) (And.intro (FL.out.2.2.2.2.1.on hd) (And.intro (FL.out.2.2.2.2.2.1.below hd) (And.intro FL.out.2.2.2.2.2.2.1 (And.intro FL.out.2.2.2.2.2.2.2.1 (And.intro FL.out.2.2.2.2.2.2.2.2.1 (FL.out.2.2.2.2.2.2.2.2.2))))))))))
      clear FL
      clear hd
      generalize w2.drew = Wd at *
      refine T_reads [0, 1, 2, 4] (g := 7) rfl (by kernel_rfl) ⟨F1.out.2.2.2.2.1, F1.out.2.1⟩ (fun _ _ d _ _ h => by cases d <;> exact h) ?_
      simp only [pick, List.getD_cons_zero, List.getD_cons_succ]
      iterate 4 ((with_reducible refine wpRead_step (fun K hK => ?_)); go_simp; first | ((with_reducible refine hK _ ?_); clear hK K) | (apply Exists.intro; (with_reducible refine ⟨fun w' hw' => ?_, hK _ ?_⟩); (obtain ⟨f0, f1, f2⟩ := hw'.cells; go_simp; first | exact rfl | exact ⟨rfl, rfl⟩); clear hK K))
      with_reducible refine wpRead_nil ?_
      obtain ⟨A1, hA1⟩ : ∃ A1, A1 = rdB 2 lq bad := ⟨_, rfl⟩
      obtain ⟨B1, hB1⟩ : ∃ B1, B1 = rdB 2 A1.2.1 A1.2.2 := ⟨_, rfl⟩
      have hlt1 : getN A1.1 < 65536 := by rw [hA1]; exact getN_two F1.out.1.bytes (by omega)
      have hlt2 : getN B1.1 < 65536 := by rw [hB1]; refine getN_two ?_ (by omega); rw [hA1]; exact rdB_rest _ _ _ F1.out.1.bytes
      have HAB := Lib.hid (And.intro hA1 (And.intro hB1 (And.intro hlt1 hlt2)))
      clear hA1 hB1 hlt1 hlt2
      refine T_one 3 (by kernel_rfl) ?_
      simp only [pick, List.getD_cons_zero, List.getD_cons_succ]
      have c1 := two_rd F1.out.1
      rw [← HAB.out.1] at c1
      have HC := Lib.hid c1
      clear c1
      go_wp2_with fail
      refine (HC.out).mono ?_
      rintro e w5 ⟨rfl, hr1, hb1⟩
      have F2 := Lib.hid (And.intro hr1 (And.intro (F1.out.2.1.but hb1 HN.out.1) (And.intro (F1.out.2.2.1.but hb1 HN.out.2.1) (And.intro (F1.out.2.2.2.1.trans hb1) (And.intro (F1.out.2.2.2.2.1.but hb1 HN4.out.1) (And.intro (Rep.Own.but F1.out.2.2.2.2.2.1 hb1 (by intro x hx; simp at hx; have := HN.out.2.2; omega)) (And.intro F1.out.2.2.2.2.2.2.1 (And.intro F1.out.2.2.2.2.2.2.2.1 (And.intro F1.out.2.2.2.2.2.2.2.2.1 (F1.out.2.2.2.2.2.2.2.2.2))))))))))
      clear F1
      clear hr1 hb1 HC
      go_wp2_with fail
      refine ⟨fun _ => ⟨F2.out.2.2.2.2.1, F2.out.2.1⟩, ?_⟩
      refine T_one 5 (by kernel_rfl) ?_
      simp only [pick, List.getD_cons_zero, List.getD_cons_succ]
      have c1 := two_rd F2.out.1
      rw [← HAB.out.2.1] at c1
      have HC := Lib.hid c1
      clear c1
      go_wp2_with fail
      refine (HC.out).mono ?_
      rintro e w6 ⟨rfl, hr1, hb1⟩
      have F3 := Lib.hid (And.intro hr1 (And.intro (F2.out.2.1.but hb1 HN.out.1) (And.intro (F2.out.2.2.1.but hb1 HN.out.2.1) (And.intro (F2.out.2.2.2.1.trans hb1) (And.intro (F2.out.2.2.2.2.1.but hb1 HN4.out.1) (And.intro (Rep.Own.but F2.out.2.2.2.2.2.1 hb1 (by intro x hx; simp at hx; have := HN.out.2.2; omega)) (And.intro F2.out.2.2.2.2.2.2.1 (And.intro F2.out.2.2.2.2.2.2.2.1 (And.intro F2.out.2.2.2.2.2.2.2.2.1 (F2.out.2.2.2.2.2.2.2.2.2))))))))))
      clear F2
      clear hr1 hb1 HC
      go_wp2_with fail
      refine ⟨fun _ => ⟨F3.out.2.2.2.2.1, F3.out.2.1⟩, ?_⟩
      refine T_one 6 (by kernel_rfl) ?_
      simp only [pick, List.getD_cons_zero, List.getD_cons_succ]
      go_wp2_with fail
      refine ⟨fun _ => ⟨F3.out.2.2.2.2.1, F3.out.2.1⟩, ?_⟩
      refine T_one 7 (by kernel_rfl) ?_
      simp only [pick, List.getD_cons_zero, List.getD_cons_succ]
      have hbs : w.heap.size ≤ w6.heap.size := F3.out.2.2.2.1.size
      have hb4 := (Below.refl w6.heap.size w6).alloc (Nat.le_refl _) (.cells #[.int .i64 (getN A1.1 : Nat), .int .i64 (getN B1.1 : Nat)] 129)
      have ho4 : RFd.Own (w6.alloc (.cells #[.int .i64 (getN A1.1 : Nat), .int .i64 (getN B1.1 : Nat)] 129)) w.heap.size (.slice (some ⟨w6.heap.size, 0, none⟩) 1 1) [fdI (getN A1.1, getN B1.1)] := ⟨rfl, .inr ⟨w6.heap.size, 1, #[.int .i64 (getN A1.1 : Nat), .int .i64 (getN B1.1 : Nat)], rfl, hbs, hnew _ _, Nat.le_refl _, by unfold maxLen; omega, rfl, rfl⟩⟩
      have F4 := Lib.hid (And.intro (F3.out.1.on hb4) (And.intro (F3.out.2.1.but (But.of_below hb4 [g]) HN.out.1) (And.intro (F3.out.2.2.1.on hb4) (And.intro (F3.out.2.2.2.1.trans (But.of_below hb4 [g])) (And.intro (F3.out.2.2.2.2.1.on hb4) (And.intro (F3.out.2.2.2.2.2.1.below hb4) (And.intro F3.out.2.2.2.2.2.2.1 (And.intro F3.out.2.2.2.2.2.2.2.1 (And.intro F3.out.2.2.2.2.2.2.2.2.1 (And.intro F3.out.2.2.2.2.2.2.2.2.2 (ho4)))))))))))
      clear F3
      clear hb4 ho4 hbs
      go_wp2_with fail
      refine ⟨fun _ => ⟨F4.out.2.2.2.2.1, F4.out.2.1⟩, ?_⟩
      generalize hq9 : w6.heap.size = q9 at *
      clear hq9
      generalize w6.alloc (.cells #[.int .i64 (getN A1.1 : Nat), .int .i64 (getN B1.1 : Nat)] 129) = w7 at *
      refine T_one 8 (by kernel_rfl) ?_
      simp only [pick, List.getD_cons_zero, List.getD_cons_succ]
      obtain ⟨oa9, c9, hv9, -, -, hs9, -⟩ := F4.out.2.2.2.2.2.2.2.2.2.2.sl
      simp only [Value.slice.injEq] at hv9
      obtain ⟨rfl, -, rfl⟩ := hv9
      have hlen9 : (fs.map fdI).length ≤ 32 := by rw [List.length_map]; have := F4.out.2.2.2.2.2.2.2.1; omega
      have HS9 := Lib.hid (And.intro hs9 hlen9)
      clear hs9 hlen9
      go_wp2_with (at_builtin; refine halt ?_)
      refine Halted.go ?_
      refine Rep.append_list2 T39 rfl _ _ rfl (base := w.heap.size) (m := 1) rfl F4.out.2.2.2.2.2.1 rfl HS9.out.1 (by omega) (by have := HS9.out.2; unfold maxLen; omega) (by have := HS9.out.2; omega) F4.out.2.2.2.1.size ?_
      intro v8 w8 ho8 hb8 he8
      have hk8 := fd_keep5 F4.out.2.2.2.2.2.1 hb8.size (fun bad h1 h2 => (he8 bad h1 h2).2)
      have hx8 := he8 w.heap.size F4.out.2.2.2.2.2.2.1.1 (lt_of_blk F4.out.2.1)
      have ht8 := he8 (w.heap.size + 1) F4.out.2.2.2.2.2.2.1.2.1 (lt_of_blk F4.out.2.2.1)
      have hf8 := he8 q4 F4.out.2.2.2.2.2.2.1.2.2 (lt_of_blk F4.out.2.2.2.2.1)
      have hg8 := hb8.block g HN.out.2.2
      have F5 := Lib.hid (And.intro (F4.out.1.keep hk8 hg8) (And.intro (show BxS w.heap.size (.pointer (some ⟨g, 0, none⟩)) 113 w8 from hx8.2.trans F4.out.2.1) (And.intro (TmS.same ht8.2 F4.out.2.2.1) (And.intro (Rep.But.step F4.out.2.2.2.1 hb8 (Nat.le_refl _)) (And.intro (TmS.same hf8.2 F4.out.2.2.2.2.1) (And.intro ho8 (And.intro (And.intro hx8.1 (And.intro ht8.1 hf8.1)) (And.intro F4.out.2.2.2.2.2.2.2.1 (And.intro F4.out.2.2.2.2.2.2.2.2.1 (F4.out.2.2.2.2.2.2.2.2.2.1))))))))))
      clear F4
      clear ho8 hb8 he8 hk8 hx8 ht8 hf8 hg8 HS9
      go_wp2_with fail
      refine ⟨fun _ => ⟨F5.out.2.2.2.2.1, F5.out.2.1⟩, ?_⟩
      refine T_one 9 (by kernel_rfl) ?_
      simp only [pick, List.getD_cons_zero, List.getD_cons_succ]
      go_wp2_with fail
      refine ⟨fun _ => ⟨F5.out.2.2.2.2.1, F5.out.2.1⟩, ?_⟩
      refine T_one 10 (by kernel_rfl) ?_
      simp only [pick, List.getD_cons_zero, List.getD_cons_succ]
      obtain ⟨oa5, n5, c5, rfl⟩ : ∃ oa n c, v8 = .slice oa n c := by
        obtain ⟨oa, c, h, -⟩ := F5.out.2.2.2.2.2.1.sl
        exact ⟨_, _, _, h⟩
      have f3 : w8.frozen? ⟨q4, 1, none⟩ = false := free_of F5.out.2.2.2.2.1
      obtain ⟨z0, z1⟩ := F5.out.2.2.2.2.1.cells
      have hset : SetB w8 (w8.setCell ⟨q4, 1, none⟩ (.slice oa5 n5 c5)) q4 (.cells #[.int .i64 (getN A.1 : Nat), .slice oa5 n5 c5] 93) := (SetB.self F5.out.2.2.2.2.1).store (lt_of_blk F5.out.2.2.2.2.1) (.slice oa5 n5 c5)
      have h4z : TmS q4 #[.int .i64 (getN A.1 : Nat), .slice oa5 n5 c5] (w8.setCell ⟨q4, 1, none⟩ (.slice oa5 n5 c5)) := setCell_blk F5.out.2.2.2.2.1 1 (.slice oa5 n5 c5)
      have hk6 : Keep5 w8 (w8.setCell ⟨q4, 1, none⟩ (.slice oa5 n5 c5)) := .of_set hset F5.out.2.2.2.2.1 (by decide)
      have hq1 := HN4.out.2
      have F6 := Lib.hid (And.intro (F5.out.1.keep hk6 (hset.other hq1.1)) (And.intro (show BxS w.heap.size (.pointer (some ⟨g, 0, none⟩)) 113 (w8.setCell ⟨q4, 1, none⟩ (.slice oa5 n5 c5)) from (hset.other (by omega)).trans F5.out.2.1) (And.intro (TmS.same (hset.other (by omega)) F5.out.2.2.1) (And.intro (F5.out.2.2.2.1.thenSet hset (.inl (by omega))) (And.intro h4z (And.intro (F5.out.2.2.2.2.2.1.keep (fun b hb => hset.other (fun e => F5.out.2.2.2.2.2.2.1.2.2 (e ▸ hb)))) (And.intro F5.out.2.2.2.2.2.2.1 (And.intro F5.out.2.2.2.2.2.2.2.1 (And.intro F5.out.2.2.2.2.2.2.2.2.1 (F5.out.2.2.2.2.2.2.2.2.2))))))))))
      clear F5
      clear hset h4z hk6 hq1
      go_wp2_with fail
      refine ⟨fun h => absurd rfl h, ?_⟩
      refine T_done (by kernel_rfl) ?_ _
      go_wp2_with fail
      have hG := F6.out.2.2.2.2.2.2.2.2.1
      have hNi : N - i = (N - (i + 1)) + 1 := by omega
      have hstep : rdFs (N - i) lq bad = ((getN A1.1, getN B1.1) :: (rdFs (N - (i + 1)) B1.2.1 B1.2.2).1, (rdFs (N - (i + 1)) B1.2.1 B1.2.2).2) := by
        rw [hNi]
        obtain ⟨h1, h2, -⟩ := HAB.out
        subst h2; subst h1
        rfl
      rw [hstep] at hG
      refine ⟨⟨i + 1, B1.2.1, B1.2.2, fs ++ [(getN A1.1, getN B1.1)], .slice oa5 n5 c5, hlt, by rw [Int.natCast_succ], F6.out.1, F6.out.2.1, F6.out.2.2.1, F6.out.2.2.2.1, F6.out.2.2.2.2.1, by rw [List.map_append]; exact F6.out.2.2.2.2.2.1, F6.out.2.2.2.2.2.2.1, by rw [List.length_append, F6.out.2.2.2.2.2.2.2.1]; rfl, ⟨by rw [hG.1, List.append_assoc]; rfl, hG.2⟩, ?_⟩, by rw [← Int.natCast_succ]; exact mSucc hlt⟩
      intro x hx
      rcases List.mem_append.1 hx with hx | hx
      · exact F6.out.2.2.2.2.2.2.2.2.2 x hx
      · obtain rfl : x = (getN A1.1, getN B1.1) := by simpa using hx
        exact HAB.out.2.2
    · obtain rfl : N = i := by omega
      have hil : ((N : Int) < (N : Int)) = False := by simp
      obtain ⟨oa7, c7, rfl, hst7⟩ := fd_own FL.out.2.2.2.2.2.1 (fun x hx => by
        obtain ⟨y, hy, rfl⟩ := List.mem_map.1 hx
        have := FL.out.2.2.2.2.2.2.2.2.2 y hy
        exact ⟨⟨by simp only [fdI]; omega, by simp only [fdI]; omega⟩, ⟨by simp only [fdI]; omega, by simp only [fdI]; omega⟩⟩) (List.length_map _)
      have HS7 := Lib.hid hst7
      clear hst7
      obtain ⟨z0, z1⟩ := FL.out.2.2.2.2.1.cells
      go_wp2_with (with_reducible refine halt_store 93 rfl ?_)
      refine Halted.go ?_
      refine store_whole rfl 93 _ _ rfl (w.heap.size + 1) #[.int .i64 (getN A.1 : Nat), .slice oa7 fs.length c7] rfl rfl FL.out.2.2.1 rfl (by kernel_rfl) (by simp [Value.oneCell']) ?_
      intro Wz hwz hs
      have hgn := HN.out.2.2
      have hr := FL.out.1.keep (.of_set hs FL.out.2.2.1 (by decide)) (hs.other (by omega))
      have hbu := FL.out.2.2.2.1.thenSet hs (.inl (Nat.le_succ _))
      have how := FL.out.2.2.2.2.2.1.keep (w' := Wz) (fun b hb => hs.other (fun e => FL.out.2.2.2.2.2.2.1.2.1 (e ▸ hb)))
      have HZ := Lib.hid (And.intro hwz (And.intro hr (And.intro hbu how)))
      clear hwz hr hbu how hs z0 z1
      go_wp2_with fail
      try dsimp only [Act.put]
      go_wp2_with fail
      have hG := FL.out.2.2.2.2.2.2.2.2.1
      rw [Nat.sub_self] at hG
      have hR1 : R.1 = fs := by rw [hG.1]; simp [rdFs]
      have hR2 : R.2 = (lq, bad) := hG.2
      refine ret_cell2 rfl rfl rfl HZ.out.1 Try.underlying93 rfl (by kernel_rfl) ?_
      rw [hR2, hR1]
      refine ⟨⟨oa7, c7, rfl, ?_⟩, HZ.out.2.1, HZ.out.2.2.1⟩
      obtain ⟨oa8, c8, hv8, hst8⟩ := fd_own HZ.out.2.2.2 HS7.out.all (List.length_map _)
      simp only [Value.slice.injEq] at hv8
      obtain ⟨rfl, -, rfl⟩ := hv8
      exact hst8
end Go.Proofs.Ytcbpdjenncbbeaa.Ip
/- GetTemplates of the usual one's bytes. -/
namespace Go.Proofs.Ytcbpdjenncbbeaa.Ip
open Go.RowKit

theorem T54 : Rep.Ty Try.prog 95 RTm 32 := Rep.Ty.mk' Try.underlying95 (z := .agg #[.int .i64 0, .slice none 0 0]) (by kernel_rfl) rfl
def usB : List Nat := [1, 44, 0, 2, 0, 12, 0, 4, 0, 1, 0, 4]
set_option maxRecDepth 100000 in
set_option maxHeartbeats 4000000 in
theorem gett_usual {w : World} {oa : Option Addr} {n c : Nat} (h : RB.Sl w oa n c usB) (hnil : oa = none → c = 0) : Calls Try.prog 56 #[.slice oa n c] w fun e w' => (∃ oa' c' x, e = .returned (.tuple #[.slice oa' 1 c', .int .i64 0]) ∧ TmsOk w' ⟨oa', 1, c', [x]⟩ ∧ x.1 = 300 ∧ x.2.l = [(12, 4), (1, 4)]) ∧ Below w.heap.size w w' := by
  have hn : n ≤ 100000 := by have := h.len; simp [usB] at this; omega
  have H := Lib.hid (And.intro h hnil)
  clear h hnil
  go_enter Try.func56, Try.ntmps56
  go_wp2_with fail
  refine (from_any H.out.1 H.out.2 (by intro x hx; simp [usB] at hx; omega) hn).mono ?_
  rintro e W1 ⟨⟨g, rfl, hg, hr1⟩, hb1⟩
  have hal := (Below.refl W1.heap.size W1).alloc (Nat.le_refl _) (.cells #[.pointer (some ⟨g, 0, none⟩)] 113)
  have h4 : BxS W1.heap.size (.pointer (some ⟨g, 0, none⟩)) 113 (W1.alloc (.cells #[.pointer (some ⟨g, 0, none⟩)] 113)) := hnew _ _
  have hgl := hr1.lt
  have hws := hb1.size
  have F1 := Lib.hid (And.intro (hr1.on hal) (And.intro h4 (bcall hb1 (Nat.le_refl _) hal)))
  have HN := Lib.hid (And.intro hg (And.intro hgl hws))
  clear hr1 hb1 hal h4 hg hgl hws
  go_wp2_with fail
  generalize W1.alloc (.cells #[.pointer (some ⟨g, 0, none⟩)] 113) = W2 at *
  generalize W1.heap.size = q4 at *
  have hn4 : q4 ∉ [g] := by have := HN.out.2.1; simp; omega
  go_loopw [5, 6, 7] (fun sv _ _ wr => (sv = .slice none 0 0 ∧ wr = W2) ∨ ∃ oa7 c7 oa3 c3, sv = .slice oa7 1 c7 ∧ RdAt 137 g [] false wr ∧ BxS q4 (.pointer (some ⟨g, 0, none⟩)) 113 wr ∧ Below w.heap.size w wr ∧ FdsOk wr ⟨oa3, 2, c3, [(12, 4), (1, 4)]⟩ ∧ RTm.Own wr w.heap.size (.slice oa7 1 c7) [((300 : Int), (⟨oa3, 2, c3, [(12, 4), (1, 4)]⟩ : SlV (Int × Int)))]) (fun _ _ _ wr => rdM g wr)
  case atStart => exact .inl ⟨rfl, rfl⟩
  case round =>
    rcases hrel with ⟨rfl, hw⟩ | ⟨oa7, c7, oa3, c3, rfl, hF⟩
    · subst wr
      have HM := Lib.hid (show rdM g W2 = 13 from F1.out.1.m)
      have e4 := F1.out.2.1.cell
      go_wp2_with fail
      refine (leftN_any F1.out.1).mono ?_
      rintro e w3 ⟨rfl, hw⟩
      subst w3
      have h0 : leftN usB false = 12 := rfl
      go_wp2_with fail
      refine (tmpl_rd F1.out.1 ([1, 44], [0, 2, 0, 12, 0, 4, 0, 1, 0, 4], false) ([0, 2], [0, 12, 0, 4, 0, 1, 0, 4], false) (by decide) (by decide) (by decide) ([(12, 4), (1, 4)], [], false) (by decide)).mono ?_
      rintro e w3 ⟨⟨oa3, c3, rfl, hfd⟩, hr3, hb3⟩
      have F2 := Lib.hid (And.intro hr3 (And.intro (F1.out.2.1.but hb3 hn4) (And.intro (Below.step F1.out.2.2 F1.out.2.2.size hb3 (by intro x hx; simp at hx; have := HN.out.1; omega)) hfd)))
      clear hr3 hb3 hfd F1 e4 h0
      have hg1 : getN [1, 44] = 300 := by decide
      have hg2 : ((getN [1, 44] : Nat) : Int) = 300 := by rw [hg1]; rfl
      dsimp only at F2 ⊢
      rw [hg2]
      clear hg1 hg2
      have hal := (Below.refl w3.heap.size w3).alloc (Nat.le_refl _) (.cells #[.int .i64 300, .slice oa3 2 c3] 93)
      have h6 : TmS w3.heap.size #[.int .i64 300, .slice oa3 2 c3] (w3.alloc (.cells #[.int .i64 300, .slice oa3 2 c3] 93)) := hnew _ _
      have hal2 := hal.alloc hal.size (.cells #[.int .i64 300, .slice oa3 2 c3] 93)
      have ho : RTm.Own ((w3.alloc (.cells #[.int .i64 300, .slice oa3 2 c3] 93)).alloc (.cells #[.int .i64 300, .slice oa3 2 c3] 93)) w.heap.size (.slice (some ⟨w3.heap.size + 1, 0, none⟩) 1 1) [((300 : Int), (⟨oa3, 2, c3, [(12, 4), (1, 4)]⟩ : SlV (Int × Int)))] := ⟨rfl, .inr ⟨w3.heap.size + 1, 1, #[.int .i64 300, .slice oa3 2 c3], rfl, Nat.le_trans F2.out.2.2.1.size (Nat.le_succ _), hnewAt (Array.size_push _).symm, Nat.le_refl _, by unfold maxLen; omega, rfl, rfl⟩⟩
      have hbel : Below (w3.alloc (.cells #[.int .i64 300, .slice oa3 2 c3] 93)).heap.size (w3.alloc (.cells #[.int .i64 300, .slice oa3 2 c3] 93)) ((w3.alloc (.cells #[.int .i64 300, .slice oa3 2 c3] 93)).alloc (.cells #[.int .i64 300, .slice oa3 2 c3] 93)) := (Below.refl _ _).alloc (Nat.le_refl _) _
      have F3 := Lib.hid (And.intro (F2.out.1.on hal2) (And.intro (F2.out.2.1.but (But.of_below hal2 [g]) hn4) (And.intro (bcall F2.out.2.2.1 (Nat.le_refl _) hal2) (And.intro (FdsOk.keep F2.out.2.2.2 hal2) (And.intro (h6.on hbel) ho)))))
      have e4 := F2.out.2.1.cell
      clear hal h6 hal2 ho hbel F2
      go_wp2_with (at_builtin; refine halt ?_)
      refine Halted.go ?_
      generalize (w3.alloc (.cells #[.int .i64 300, .slice oa3 2 c3] 93)).alloc (.cells #[.int .i64 300, .slice oa3 2 c3] 93) = W5 at *
      generalize w3.heap.size = q6 at *
      clear e4
      obtain ⟨oa9, c9, hv9, -, -, hs9, -⟩ := F3.out.2.2.2.2.2.sl
      simp only [Value.slice.injEq] at hv9
      obtain ⟨rfl, -, rfl⟩ := hv9
      refine Rep.append_list2 T54 rfl _ _ rfl (base := w.heap.size) (m := 1) (v := .slice none 0 0) (L := []) rfl (Rep.Own.nil _ _) rfl hs9 (by omega) (by unfold maxLen; simp) (by simp) F3.out.2.2.1.size ?_
      intro v7 w7 ho7 hb7 he7
      have hall : ∀ b, b < W5.heap.size → w7.heap[b]? = W5.heap[b]? := fun b hb => (he7 b (by intro h; cases h) hb).2
      have hbl : Below W5.heap.size W5 w7 := ⟨hb7.os, hb7.tape, hb7.output, hb7.size, fun k hk => hall k hk⟩
      rw [List.nil_append] at ho7
      obtain ⟨oa7, c7, rfl, -, -, -, -⟩ := ho7.sl
      simp only [List.length_singleton] at ho7 ⊢
      have F4 := Lib.hid (And.intro (F3.out.1.on hbl) (And.intro (F3.out.2.1.but (But.of_below hbl [g]) hn4) (And.intro (F3.out.2.2.1.trans hb7) (And.intro (FdsOk.keep F3.out.2.2.2.1 hbl) (And.intro (F3.out.2.2.2.2.1.on hbl) ho7)))))
      clear F3 ho7 hb7 he7 hall hbl hs9
      have e4 := F4.out.2.1.cell
      go_wp2_with fail
      refine (bad_any F4.out.1).mono ?_
      rintro e w8 ⟨rfl, hw⟩
      subst w8
      obtain ⟨z0, z1⟩ := F4.out.2.2.2.2.1.cells
      go_wp2_with fail
      refine (odd_tm ⟨300, ⟨oa3, 2, c3, [(12, 4), (1, 4)]⟩⟩ _ F4.out.2.2.2.1).mono ?_
      rintro e w8 ⟨rfl, hb8⟩
      have hodd : oddT ⟨300, ⟨oa3, 2, c3, [(12, 4), (1, 4)]⟩⟩ = false := by rfl
      have F5 := Lib.hid (And.intro (F4.out.1.on hb8) (And.intro (F4.out.2.1.but (But.of_below hb8 [g]) hn4) (And.intro (bcall F4.out.2.2.1 (Nat.le_refl _) hb8) (And.intro (FdsOk.keep F4.out.2.2.2.1 hb8) (F4.out.2.2.2.2.2.below hb8)))))
      clear F4 hb8 e4 z0 z1
      have e4 := F5.out.2.1.cell
      go_wp2_with fail
      exact ⟨.inr ⟨oa7, c7, oa3, c3, rfl, F5.out⟩, by rw [F5.out.1.m, HM.out]; decide⟩
    · have F5 := Lib.hid hF
      clear hF F1
      have e4 := F5.out.2.1.cell
      have h0 : leftN [] false = 0 := rfl
      go_wp2_with fail
      refine (leftN_any F5.out.1).mono ?_
      rintro e w3 ⟨rfl, hw⟩
      subst w3
      go_wp2_with fail
      refine (bad_any F5.out.1).mono ?_
      rintro e w3 ⟨rfl, hw⟩
      subst w3
      go_wp2_with fail
      go_ret2
      refine ⟨⟨oa7, c7, ((300 : Int), (⟨oa3, 2, c3, [(12, 4), (1, 4)]⟩ : SlV (Int × Int))), rfl, ?_, rfl, rfl⟩, F5.out.2.2.1⟩
      obtain ⟨oa9, c9, hv9, hlc, hcm, hs9, -⟩ := F5.out.2.2.2.2.sl
      simp only [Value.slice.injEq] at hv9
      obtain ⟨rfl, -, rfl⟩ := hv9
      refine ⟨hs9, ?_, hlc, hcm, fun x hx => by obtain rfl : x = _ := by simpa using hx
                                                exact F5.out.2.2.2.1⟩
      rintro rfl
      rcases F5.out.2.2.2.2.cases with ⟨hv, hl⟩ | ⟨g, cap, hv, _⟩
      · cases hl
      · cases hv
end Go.Proofs.Ytcbpdjenncbbeaa.Ip
/- SameTemplates. -/
namespace Go.Proofs.Ytcbpdjenncbbeaa.Ip
open Go.RowKit

def tj (x : Int × SlV (Int × Int)) : Int × Nat × List (Int × Int) := (x.1, x.2.n, x.2.l)
theorem map_getD {α β : Type} [Inhabited α] {f : α → β} {l m : List α} (h : l.map f = m.map f) {i : Nat} (hl : i < l.length) (hm : i < m.length) : f (l.getD i default) = f (m.getD i default) := by
  have h1 := congrArg (fun m => m[i]?) h
  simp only [List.getElem?_map] at h1
  rw [List.getElem?_eq_getElem hl, List.getElem?_eq_getElem hm] at h1
  rw [List.getD_eq_getElem?_getD, List.getElem?_eq_getElem hl, List.getD_eq_getElem?_getD, List.getElem?_eq_getElem hm]
  simpa using h1
end Go.Proofs.Ytcbpdjenncbbeaa.Ip
/- Collectors in memory: New, made, Lost, Bad, Known. -/
namespace Go.Proofs.Ytcbpdjenncbbeaa.Ip
open Go.RowKit
open Go.ChangeMaps (setBlock)

theorem laidOut : laidOutB Try.prog = true := by kernel_rfl
theorem sizeT : Try.prog.types.size + 1 = 171 + 1 + 1 + 1 := by kernel_rfl
theorem cells3 : Try.prog.cellsOf 3 = 1 := by kernel_rfl
abbrev TK := Int × Int
theorem rowK : (119 : TypeId) < Try.prog.types.size := of_decide_eq_true (by kernel_rfl)
theorem wideK : (match Try.prog.underlying 119 with | some (.array _ _) | some (.struct _) => true | _ => false) = true := by kernel_rfl
set_option maxRecDepth 100000 in
theorem lawK : WideMaps.KeyLaw Try.prog 119 := deep_law_laid laidOut (m := 2) (by omega) rowK (by kernel_rfl) wideK
theorem keyK : Try.prog.keyType 119 = true := by kernel_rfl
theorem cellsK : Try.prog.cellsOf 119 = 2 := by kernel_rfl
def TK.val (k : TK) : Value := .agg #[.int .i64 k.1, .int .i64 k.2]
def TK.wf (k : TK) : Prop := (Lit.int .i64 k.1).wf = true ∧ (Lit.int .i64 k.2).wf = true
theorem TK.reads (k : TK) (h : TK.wf k) : ∃ l, keyOf Try.prog 119 (TK.val k) = some l := by
  obtain ⟨h2, h3⟩ := h
  have hf : (TK.val k).formed Try.prog 119 = true := by simp [Value.formed, Try.underlying119, TK.val, cellsK]
  have i1 : ∀ d n, (Lit.int .i64 n).wf = true → Try.prog.keyLits (d + 1) 3 [.int .i64 n] = some [.int .i64 n] := by
    intro d n h; simp [Program.keyLits, Try.underlying3, h]
  have i3 : ∀ d, Try.prog.keyLits (d + 1 + 1) 119 [.int .i64 k.1, .int .i64 k.2] = some [.int .i64 k.1, .int .i64 k.2] := by
    intro d; unfold Program.keyLits; simp [Try.underlying119, cellsK, cells3, i1 d _ h3, i1 d _ h2]
  unfold keyOf
  simp only [Try.underlying119]
  rw [keyK, hf, sizeT]
  have := i3 (171 + 1)
  simp only [TK.val, Value.cells, this]
  exact ⟨_, rfl⟩
def TN : MR.Enc Try.prog 119 TK where
  enc := TK.val
  ok := TK.wf
  law := Maps.Keyed.of_law lawK
  reads := TK.reads
  inj a b h := by
    obtain ⟨a1, a2⟩ := a
    obtain ⟨b1, b2⟩ := b
    simp [TK.val] at h
    exact Prod.ext h.1 h.2

def IN : MR.Enc Try.prog 3 Int where
  enc := .int .i64
  ok n := (Lit.int .i64 n).wf = true
  law := Maps.int_keyed Try.underlying3
  reads n h := by
    unfold keyOf
    simp only [Try.underlying3]
    exact ⟨.int .i64 n, by simp [mapKey, Try.underlying3, h]⟩
  inj a b h := by simpa using h
/-- a collector in memory: the maps' entries, what was lost, what was bad -/
structure ColAt (w : World) (cb kb nb : Nat) (es : List (MR.Ent TK)) (k1 : Nat) (ns : List (MR.Ent Int)) (k2 : Nat) (lost bad : Int) : Prop where
  col : w.heap[cb]? = some (.cells #[.map (some kb), .map (some nb), .int .i64 lost, .int .i64 bad] 89)
  kn : MR.MapAt TN w kb es k1
  nx : MR.MapAt IN w nb ns k2
  ne : kb ≠ nb
theorem ColAt.keep {w w' : World} {cb kb nb : Nat} {es : List (MR.Ent TK)} {k1 : Nat} {ns : List (MR.Ent Int)} {k2 : Nat} {lost bad : Int} (h : ColAt w cb kb nb es k1 ns k2 lost bad) (hb : Below w.heap.size w w') : ColAt w' cb kb nb es k1 ns k2 lost bad :=
  ⟨(hb.block _ (lt_of_blk h.col)).trans h.col, h.kn.blk_iff TN (hb.block _ (lt_of_blk h.kn.blk)), h.nx.blk_iff IN (hb.block _ (lt_of_blk h.nx.blk)), h.ne⟩
theorem ColAt.nes {w : World} {cb kb nb : Nat} {es : List (MR.Ent TK)} {k1 : Nat} {ns : List (MR.Ent Int)} {k2 : Nat} {lost bad : Int} (h : ColAt w cb kb nb es k1 ns k2 lost bad) : cb ≠ kb ∧ cb ≠ nb :=
  ⟨(fun e => by have h1 := h.col; rw [e, h.kn.blk] at h1; cases h1), (fun e => by have h1 := h.col; rw [e, h.nx.blk] at h1; cases h1)⟩
set_option maxRecDepth 100000 in
theorem cnew_any (w : World) : Calls Try.prog 18 #[] w fun e w' => (∃ cb kb nb, e = .returned (.pointer (some ⟨cb, 0, none⟩)) ∧ ColAt w' cb kb nb [] 0 [] 0 0 0 ∧ w.heap.size ≤ cb ∧ w.heap.size ≤ kb ∧ w.heap.size ≤ nb) ∧ Below w.heap.size w w' := by
  have ha1 := (Below.refl w.heap.size w).alloc (Nat.le_refl _) (.map #[] 0)
  have ha2 := ha1.alloc ha1.size (.map #[] 0)
  have ha3 := ha2.alloc ha2.size (.cells #[.map (some w.heap.size), .map (some (w.heap.size + 1)), .int .i64 0, .int .i64 0] 89)
  have m1 : MR.MapAt TN (((w.alloc (.map #[] 0)).alloc (.map #[] 0)).alloc (.cells #[.map (some w.heap.size), .map (some (w.heap.size + 1)), .int .i64 0, .int .i64 0] 89)) w.heap.size [] 0 := MR.mapAt_made TN (hold (hold (hnew _ _)))
  have m2 : MR.MapAt IN (((w.alloc (.map #[] 0)).alloc (.map #[] 0)).alloc (.cells #[.map (some w.heap.size), .map (some (w.heap.size + 1)), .int .i64 0, .int .i64 0] 89)) (w.heap.size + 1) [] 0 := MR.mapAt_made IN (hold (hnewAt (by simp)))
  have hc : (((w.alloc (.map #[] 0)).alloc (.map #[] 0)).alloc (.cells #[.map (some w.heap.size), .map (some (w.heap.size + 1)), .int .i64 0, .int .i64 0] 89)).heap[w.heap.size + 1 + 1]? = some (.cells #[.map (some w.heap.size), .map (some (w.heap.size + 1)), .int .i64 0, .int .i64 0] 89) := hnewAt (by simp)
  have HC := Lib.hid (And.intro ha3 (And.intro m1 (And.intro m2 hc)))
  clear ha1 ha2 ha3 m1 m2 hc
  have hmm := @run_makeMap Try.prog
  go_enter Try.func18, Try.ntmps18
  go_wp2_with fail
  go_ret
  refine ⟨⟨_, _, _, rfl, ⟨?_, HC.out.2.1, HC.out.2.2.1, by omega⟩, by omega, by omega, by omega⟩, HC.out.1⟩
  exact HC.out.2.2.2
theorem cmade_nil (w : World) : Calls Try.prog 32 #[.pointer none] w fun e w' => e = .returned (.bool false) ∧ w' = w := by
  go_enter Try.func32, Try.ntmps32
  go_wp2_with fail
  go_ret
  exact ⟨rfl, rfl⟩
section
variable {w : World} {cb kb nb : Nat} {es : List (MR.Ent TK)} {k1 : Nat} {ns : List (MR.Ent Int)} {k2 : Nat} {lost bad : Int}
set_option maxRecDepth 100000 in
theorem cmade_any (h : ColAt w cb kb nb es k1 ns k2 lost bad) : Calls Try.prog 32 #[.pointer (some ⟨cb, 0, none⟩)] w fun e w' => e = .returned (.bool true) ∧ w' = w := by
  have c0 : w.cell? ⟨cb, 0, none⟩ = some (.map (some kb)) := cell_of h.col rfl
  have hne : ∀ w, (binOp .neq 86 (.map (some kb)) (.map none)).run Try.prog w = .ok (.bool true) w := fun w => by kernel_rfl
  clear h
  go_enter Try.func32, Try.ntmps32
  go_wp2_with fail
  go_ret
  exact ⟨rfl, rfl⟩
theorem clost_any (h : ColAt w cb kb nb es k1 ns k2 lost bad) : Calls Try.prog 15 #[.pointer (some ⟨cb, 0, none⟩)] w fun e w' => e = .returned (.int .i64 lost) ∧ w' = w := by
  have c0 : w.cell? ⟨cb, 2, none⟩ = some (.int .i64 lost) := cell_of h.col rfl
  clear h
  go_enter Try.func15, Try.ntmps15
  go_wp2_with fail
  go_ret
  exact ⟨rfl, rfl⟩
theorem cbad_any (h : ColAt w cb kb nb es k1 ns k2 lost bad) : Calls Try.prog 16 #[.pointer (some ⟨cb, 0, none⟩)] w fun e w' => e = .returned (.int .i64 bad) ∧ w' = w := by
  have c0 : w.cell? ⟨cb, 3, none⟩ = some (.int .i64 bad) := cell_of h.col rfl
  clear h
  go_enter Try.func16, Try.ntmps16
  go_wp2_with fail
  go_ret
  exact ⟨rfl, rfl⟩
theorem cknown_any (h : ColAt w cb kb nb es k1 ns k2 lost bad) : Calls Try.prog 17 #[.pointer (some ⟨cb, 0, none⟩)] w fun e w' => e = .returned (.int .i64 es.length) ∧ w' = w := by
  have c0 : w.cell? ⟨cb, 0, none⟩ = some (.map (some kb)) := cell_of h.col rfl
  have hl := fun ty => MR.run_len TN h.kn Try.underlying86 ty
  clear h
  go_enter Try.func17, Try.ntmps17
  go_wp2_with fail
  go_ret
  exact ⟨rfl, rfl⟩
end
theorem clost_nil (w : World) : Calls Try.prog 15 #[.pointer none] w fun e w' => e = .returned (.int .i64 0) ∧ w' = w := by
  go_enter Try.func15, Try.ntmps15
  go_wp2_with fail
  go_ret
  exact ⟨rfl, rfl⟩
theorem cbad_nil (w : World) : Calls Try.prog 16 #[.pointer none] w fun e w' => e = .returned (.int .i64 0) ∧ w' = w := by
  go_enter Try.func16, Try.ntmps16
  go_wp2_with fail
  go_ret
  exact ⟨rfl, rfl⟩
theorem cknown_nil (w : World) : Calls Try.prog 17 #[.pointer none] w fun e w' => e = .returned (.int .i64 0) ∧ w' = w := by
  go_enter Try.func17, Try.ntmps17
  go_wp2_with fail
  go_ret
  exact ⟨rfl, rfl⟩
theorem ctake_nil (w : World) (v : Value) : Calls Try.prog 14 #[.pointer none, v] w fun e w' => e = .returned (.tuple #[.slice none 0 0, .int .i64 6]) ∧ w' = w := by
  go_enter Try.func14, Try.ntmps14
  go_wp2_with fail
  refine (cmade_nil _).mono ?_
  rintro e w1 ⟨rfl, hw⟩
  have hw := hw.symm
  subst hw
  go_wp2_with fail
  go_ret2
  exact ⟨rfl, rfl⟩
end Go.Proofs.Ytcbpdjenncbbeaa.Ip
/- The flow of a record by the usual template. -/
namespace Go.Proofs.Ytcbpdjenncbbeaa.Ip
open Go.RowKit

abbrev usF : List (Int × Int) := [(12, 4), (1, 4)]
/-- the result's block, the flow's block -/
structure FlQ (w : World) (q6 q8 : Nat) (dom : Int) (d : Nat) (y : Nat) (W : World) : Prop where
  r : W.heap[q6]? = some (.cells #[.int .i64 0, .int .u32 0, .int .i64 0] 44)
  f : W.heap[q8]? = some (.cells #[.int .i64 dom, .int .u32 (d : Int), .int .i64 (y : Int)] 44)
  bel : Below w.heap.size w W
  l6 : w.heap.size ≤ q6
  l8 : q6 < q8
theorem FlQ.keep {w : World} {q6 q8 : Nat} {dom : Int} {d y : Nat} {W W' : World} (h : FlQ w q6 q8 dom d y W) (hb : Below W.heap.size W W') : FlQ w q6 q8 dom d y W' :=
  ⟨(hb.block _ (lt_of_blk h.r)).trans h.r, (hb.block _ (lt_of_blk h.f)).trans h.f, bcall h.bel (Nat.le_refl _) hb, h.l6, h.l8⟩
theorem us_cells {w : World} {fa : Option Addr} {fc : Nat} (h : RFd.Sl w fa 2 fc usF) : ∃ fb fo, fa = some ⟨fb, fo, none⟩ ∧ fb < w.heap.size ∧ (w.cell? ⟨fb, fo, none⟩ = some (.int .i64 12) ∧ w.cell? ⟨fb, fo + 1, none⟩ = some (.int .i64 4)) ∧ w.cell? ⟨fb, fo + 1 * 2, none⟩ = some (.int .i64 1) ∧ w.cell? ⟨fb, fo + 1 * 2 + 1, none⟩ = some (.int .i64 4) := by
  obtain ⟨b, o, e, hr⟩ := h.row (by omega)
  have h0 := hr.get 0 (by simp)
  have h1 := hr.get 1 (by simp)
  have c0 := h0 0 (by decide)
  have c1 := h0 1 (by decide)
  have c2 := h1 0 (by decide)
  have c3 := h1 1 (by decide)
  rw [Nat.zero_mul, Nat.add_zero] at c0 c1
  exact ⟨b, o, e, hr.lt, ⟨c0, c1⟩, c2, c3⟩
theorem getN4 {l : List Nat} (h : Bytes l) (hl : l.length ≤ 4) : getN l < 4294967296 := by
  have h1 := getN_lt l h
  have h3 : 256 ^ l.length ≤ 256 ^ 4 := Nat.pow_le_pow_right (by omega) hl
  omega
set_option maxRecDepth 100000 in
set_option maxHeartbeats 8000000 in
theorem flow_us {w : World} {fa : Option Addr} {fc : Nat} (hf : RFd.Sl w fa 2 fc usF) {pa : Option Addr} {pc : Nat} {l : List Nat} (hp : RB.Sl w pa 8 pc l) (hpc : 8 ≤ pc) (hby : Bytes l) (dom : Int) : Calls Try.prog 58 #[.int .i64 dom, .agg #[.int .i64 300, .slice fa 2 fc], .slice pa 8 pc] w fun e w' => e = .returned (.tuple #[.agg #[.int .i64 dom, .int .u32 (getN (l.take 4) : Nat), .int .i64 (getN (l.drop 4) : Nat)], .bool true]) ∧ Below w.heap.size w w' := by
  have hl8 : l.length = 8 := hp.len.symm
  have hpn : pa = none → pc = 0 := fun e => by
    obtain ⟨b, o, h, -⟩ := hp.row (by omega)
    rw [e] at h; cases h
  obtain ⟨d1, hd1⟩ : ∃ d, getN (l.take 4) = d := ⟨_, rfl⟩
  obtain ⟨d2, hd2⟩ : ∃ d, getN (l.drop 4) = d := ⟨_, rfl⟩
  have hlt1 : d1 < 4294967296 := hd1 ▸ getN4 (hby.take 4) (by rw [List.length_take]; omega)
  have hlt2 : d2 < 4294967296 := hd2 ▸ getN4 (hby.drop 4) (by rw [List.length_drop]; omega)
  obtain ⟨sa, hra1, hra2, hsa, -, -⟩ := Rep.cut_to T27 hp hpc hpn (i := 4) (by omega)
  obtain ⟨sb, hrb1, hrb2, hsb, hsbn, -⟩ := Rep.cut_from T27 hp hpc hpn (i := 4) (by omega)
  simp only [show 8 - 4 = 4 from rfl] at hrb1 hrb2 hsb
  obtain ⟨sc, hrc1, hrc2, hsc, -, -⟩ := Rep.cut_to T27 hsb (by omega) hsbn (i := 4) (by omega)
  obtain ⟨sd, hrd1, hrd2, -, -, -⟩ := Rep.cut_from T27 hsb (by omega) hsbn (i := 4) (by omega)
  rw [List.take_of_length_le (by rw [List.length_drop]; omega)] at hsc
  simp only [show 4 - 4 = 0 from rfl] at hrd1 hrd2
  simp only [show ((4 : Nat) : Int) = 4 from rfl] at hra1 hra2 hrb1 hrb2 hrc1 hrc2 hrd1 hrd2
  obtain ⟨fb, fo, rfl, hfb, ⟨c0, c1⟩, c2, c3⟩ := us_cells hf
  have HN1 := Lib.hid (fun (W : World) (hW : Below w.heap.size w W) => hd1 ▸ number_any sa 4 pc (l.take 4) W (hsa.keep hW) (hby.take 4) (by omega))
  have HN2 := Lib.hid (fun (W : World) (hW : Below w.heap.size w W) => hd2 ▸ number_any sc 4 (pc - 4) (l.drop 4) W (hsc.keep hW) (hby.drop 4) (by omega))
  rw [hd1, hd2]
  have hcv : IntKind.u32.wrap (d1 : Int) = (d1 : Int) := by show ((d1 : Int) % 4294967296) = _; omega
  have ha0 := (Below.refl w.heap.size w).alloc (Nat.le_refl _) (.cells #[.int .i64 300, .slice (some ⟨fb, fo, none⟩) 2 fc] 93)
  have HC := Lib.hid (show ∀ W, Below w.heap.size w W → (W.cell? ⟨fb, fo, none⟩ = some (.int .i64 12) ∧ W.cell? ⟨fb, fo + 1, none⟩ = some (.int .i64 4)) ∧ W.cell? ⟨fb, fo + 1 * 2, none⟩ = some (.int .i64 1) ∧ W.cell? ⟨fb, fo + 1 * 2 + 1, none⟩ = some (.int .i64 4) from fun W hW => by
    have hk : W.heap[fb]? = w.heap[fb]? := hW.block _ hfb
    exact ⟨⟨(cell_same hk).trans c0, (cell_same hk).trans c1⟩, (cell_same hk).trans c2, (cell_same hk).trans c3⟩)
  have HR := Lib.hid (And.intro (And.intro hra1 hra2) (And.intro (And.intro hrb1 hrb2) (And.intro (And.intro hrc1 hrc2) (And.intro hrd1 hrd2))))
  clear hf hp hpc hby hl8 hpn hd1 hd2 hsa hsb hsbn hsc hfb c0 c1 c2 c3 hra1 hra2 hrb1 hrb2 hrc1 hrc2 hrd1 hrd2 hlt1
  have ha1 := ha0.alloc ha0.size (.cells #[.int .i64 0, .int .u32 0, .int .i64 0] 44)
  have ha2 := ha1.alloc ha1.size (.cells #[.int .i64 0, .int .u32 0, .int .i64 0] 44)
  have h4 : (((w.alloc (.cells #[.int .i64 300, .slice (some ⟨fb, fo, none⟩) 2 fc] 93)).alloc (.cells #[.int .i64 0, .int .u32 0, .int .i64 0] 44)).alloc (.cells #[.int .i64 0, .int .u32 0, .int .i64 0] 44)).heap[w.heap.size]? = some (.cells #[.int .i64 300, .slice (some ⟨fb, fo, none⟩) 2 fc] 93) := hold (hold (hnew _ _))
  have h6 : (((w.alloc (.cells #[.int .i64 300, .slice (some ⟨fb, fo, none⟩) 2 fc] 93)).alloc (.cells #[.int .i64 0, .int .u32 0, .int .i64 0] 44)).alloc (.cells #[.int .i64 0, .int .u32 0, .int .i64 0] 44)).heap[w.heap.size + 1]? = some (.cells #[.int .i64 0, .int .u32 0, .int .i64 0] 44) := hold (hnewAt (by simp))
  have h8 : (((w.alloc (.cells #[.int .i64 300, .slice (some ⟨fb, fo, none⟩) 2 fc] 93)).alloc (.cells #[.int .i64 0, .int .u32 0, .int .i64 0] 44)).alloc (.cells #[.int .i64 0, .int .u32 0, .int .i64 0] 44)).heap[w.heap.size + 1 + 1]? = some (.cells #[.int .i64 0, .int .u32 0, .int .i64 0] 44) := hnewAt (by simp)
  have F0 := Lib.hid (And.intro ha2 (And.intro h4 (And.intro h6 h8)))
  clear ha0 ha1 ha2 h4 h6 h8
  go_enter Try.func58, Try.ntmps58
  go_wp2_with (with_reducible refine halt_store 44 rfl ?_)
  refine Halted.go ?_
  generalize ((w.alloc (.cells #[.int .i64 300, .slice (some ⟨fb, fo, none⟩) 2 fc] 93)).alloc (.cells #[.int .i64 0, .int .u32 0, .int .i64 0] 44)).alloc (.cells #[.int .i64 0, .int .u32 0, .int .i64 0] 44) = V0 at *
  obtain ⟨q8, hq8⟩ : ∃ q, w.heap.size + 1 + 1 = q := ⟨_, rfl⟩
  have HQ := Lib.hid hq8
  rw [hq8] at F0
  try rw [hq8]
  clear hq8
  refine store_whole rfl 44 _ _ rfl q8 #[.int .i64 dom, .int .u32 0, .int .i64 0] rfl rfl F0.out.2.2.2 rfl (by kernel_rfl) (by simp [Value.oneCell']) ?_
  intro V1 hz hsz
  have e1 : V1.cell? ⟨w.heap.size, 1, none⟩ = some (.slice (some ⟨fb, fo, none⟩) 2 fc) := cell_of ((hsz.other (by have := HQ.out; omega)).trans F0.out.2.1) rfl
  have F1 := Lib.hid (show FlQ w (w.heap.size + 1) q8 dom 0 0 V1 from ⟨(hsz.other (by have := HQ.out; omega)).trans F0.out.2.2.1, hz, F0.out.1.trans (hsz.below (by have := HQ.out; omega)), by omega, by have := HQ.out; omega⟩)
  obtain ⟨q6, hq6⟩ : ∃ q, w.heap.size + 1 = q := ⟨_, rfl⟩
  rw [hq6] at F1
  try rw [hq6]
  have HQ6 := Lib.hid hq6
  clear hz hsz hq6
  go_wp2_with fail
  clear e1
  try rw [HQ6.out]
  go_loopw [2, 9, 18] (fun bv hv iv wr => (iv = .int .i64 0 ∧ bv = .slice pa 8 pc ∧ hv = .bool false ∧ FlQ w q6 q8 dom 0 0 wr) ∨ (iv = .int .i64 1 ∧ bv = .slice sb 4 (pc - 4) ∧ hv = .bool true ∧ FlQ w q6 q8 dom d1 0 wr) ∨ (iv = .int .i64 2 ∧ bv = .slice sd 0 (pc - 4 - 4) ∧ hv = .bool true ∧ FlQ w q6 q8 dom d1 d2 wr)) (fun _ _ iv _ => 2 - (intOf iv).toNat)
  case atStart => exact .inl ⟨rfl, rfl, rfl, F1.out⟩
  case round =>
    rcases hrel with ⟨rfl, rfl, rfl, hq⟩ | ⟨rfl, rfl, rfl, hq⟩ | ⟨rfl, rfl, rfl, hq⟩
    · obtain ⟨w2, rfl⟩ : ∃ w2 : World, w2 = wr := ⟨_, rfl⟩
      have G0 := Lib.hid hq
      obtain ⟨⟨c0, c1⟩, -⟩ := HC.out w2 hq.bel
      clear hq
      go_wp2_with (with_reducible refine halt_store 129 rfl ?_)
      refine Halted.go ?_
      clear c0 c1
      have hal := (Below.refl w2.heap.size w2).alloc (Nat.le_refl _) (.cells #[.int .i64 0, .int .i64 0] 129)
      refine store_whole rfl 129 _ _ rfl w2.heap.size #[.int .i64 12, .int .i64 4] rfl rfl (hnew _ _) rfl (by kernel_rfl) (by simp [Value.oneCell']) ?_
      intro V3 hz hsz
      have hb3 : Below w2.heap.size w2 V3 := Below.trans hal (hsz.below (Nat.le_refl _))
      have z0 := cell_of (o := 0) hz rfl
      have z1 := cell_of (o := 1) hz rfl
      have G1 := Lib.hid (And.intro (G0.out.keep hb3) (And.intro hz (show q8 < w2.heap.size from lt_of_blk G0.out.f)))
      obtain ⟨⟨hra1, hra2⟩, ⟨hrb1, hrb2⟩, ⟨hrc1, hrc2⟩, hrd1, hrd2⟩ := HR.out
      clear hal hz hsz hb3
      go_wp2_with fail
      clear hra1 hra2 hrb1 hrb2 hrc1 hrc2 hrd1 hrd2
      refine (HN1.out _ G1.out.1.bel).mono ?_
      rintro e V4 ⟨rfl, hw⟩
      have hw := hw.symm
      subst hw
      have f8 := free_of (o := 1) G1.out.1.f
      have e8 := cell_of (o := 1) G1.out.1.f rfl
      have hset := (SetB.self G1.out.1.f).store (o := 1) (lt_of_blk G1.out.1.f) (.int .u32 (d1 : Int))
      have hz8 := setCell_blk G1.out.1.f 1 (.int .u32 (d1 : Int))
      have hq5 : w2.heap.size ≠ q8 := Nat.ne_of_gt G1.out.2.2
      have z2 : (V3.setCell ⟨q8, 1, none⟩ (.int .u32 (d1 : Int))).cell? ⟨w2.heap.size, 0, none⟩ = some (.int .i64 12) := cell_of ((hset.other hq5).trans G1.out.2.1) rfl
      have z3 : (V3.setCell ⟨q8, 1, none⟩ (.int .u32 (d1 : Int))).cell? ⟨w2.heap.size, 1, none⟩ = some (.int .i64 4) := cell_of ((hset.other hq5).trans G1.out.2.1) rfl
      have G2 := Lib.hid (show FlQ w q6 q8 dom d1 0 (V3.setCell ⟨q8, 1, none⟩ (.int .u32 (d1 : Int))) from ⟨(hset.other (Nat.ne_of_lt G1.out.1.l8)).trans G1.out.1.r, hz8, G1.out.1.bel.trans (hset.below (by have := G1.out.1.l6; have := G1.out.1.l8; omega)), G1.out.1.l6, G1.out.1.l8⟩)
      clear hset hz8 hq5
      go_wp2_with fail
      exact ⟨.inr (.inl ⟨rfl, rfl, rfl, G2.out⟩), by decide⟩
    · obtain ⟨w2, rfl⟩ : ∃ w2 : World, w2 = wr := ⟨_, rfl⟩
      have G0 := Lib.hid hq
      obtain ⟨-, c0, c1⟩ := HC.out w2 hq.bel
      simp only [Nat.one_mul] at c0 c1
      clear hq
      go_wp2_with (with_reducible refine halt_store 129 rfl ?_)
      refine Halted.go ?_
      clear c0 c1
      have hal := (Below.refl w2.heap.size w2).alloc (Nat.le_refl _) (.cells #[.int .i64 0, .int .i64 0] 129)
      refine store_whole rfl 129 _ _ rfl w2.heap.size #[.int .i64 1, .int .i64 4] rfl rfl (hnew _ _) rfl (by kernel_rfl) (by simp [Value.oneCell']) ?_
      intro V3 hz hsz
      have hb3 : Below w2.heap.size w2 V3 := Below.trans hal (hsz.below (Nat.le_refl _))
      have z0 := cell_of (o := 0) hz rfl
      have z1 := cell_of (o := 1) hz rfl
      have G1 := Lib.hid (And.intro (G0.out.keep hb3) (And.intro hz (show q8 < w2.heap.size from lt_of_blk G0.out.f)))
      obtain ⟨⟨hra1, hra2⟩, ⟨hrb1, hrb2⟩, ⟨hrc1, hrc2⟩, hrd1, hrd2⟩ := HR.out
      clear hal hz hsz hb3
      go_wp2_with fail
      clear hra1 hra2 hrb1 hrb2 hrc1 hrc2 hrd1 hrd2
      refine (HN2.out _ G1.out.1.bel).mono ?_
      rintro e V4 ⟨rfl, hw⟩
      have hw := hw.symm
      subst hw
      have f8 := free_of (o := 2) G1.out.1.f
      have e8 := cell_of (o := 2) G1.out.1.f rfl
      have hset := (SetB.self G1.out.1.f).store (o := 2) (lt_of_blk G1.out.1.f) (.int .i64 (d2 : Int))
      have hz8 := setCell_blk G1.out.1.f 2 (.int .i64 (d2 : Int))
      have hq5 : w2.heap.size ≠ q8 := Nat.ne_of_gt G1.out.2.2
      have z2 : (V3.setCell ⟨q8, 2, none⟩ (.int .i64 (d2 : Int))).cell? ⟨w2.heap.size, 0, none⟩ = some (.int .i64 1) := cell_of ((hset.other hq5).trans G1.out.2.1) rfl
      have z3 : (V3.setCell ⟨q8, 2, none⟩ (.int .i64 (d2 : Int))).cell? ⟨w2.heap.size, 1, none⟩ = some (.int .i64 4) := cell_of ((hset.other hq5).trans G1.out.2.1) rfl
      have G2 := Lib.hid (show FlQ w q6 q8 dom d1 d2 (V3.setCell ⟨q8, 2, none⟩ (.int .i64 (d2 : Int))) from ⟨(hset.other (Nat.ne_of_lt G1.out.1.l8)).trans G1.out.1.r, hz8, G1.out.1.bel.trans (hset.below (by have := G1.out.1.l6; have := G1.out.1.l8; omega)), G1.out.1.l6, G1.out.1.l8⟩)
      clear hset hz8 hq5
      go_wp2_with fail
      exact ⟨.inr (.inr ⟨rfl, rfl, rfl, G2.out⟩), by decide⟩
    · obtain ⟨w2, rfl⟩ : ∃ w2 : World, w2 = wr := ⟨_, rfl⟩
      have G0 := Lib.hid hq
      have z0 := cell_of (o := 0) hq.f rfl
      have z1 := cell_of (o := 1) hq.f rfl
      have z2 := cell_of (o := 2) hq.f rfl
      clear hq
      go_wp2_with (with_reducible refine halt_store 44 rfl ?_)
      refine Halted.go ?_
      clear z0 z1 z2
      refine store_whole rfl 44 _ _ rfl q6 #[.int .i64 dom, .int .u32 (d1 : Int), .int .i64 (d2 : Int)] rfl rfl G0.out.r rfl (by kernel_rfl) (by simp [Value.oneCell']) ?_
      intro V2 hz hsz
      have HZ := Lib.hid (And.intro hz (G0.out.bel.trans (hsz.below G0.out.l6)))
      clear hz hsz
      go_wp2_with fail
      refine ret_cell2 rfl rfl rfl HZ.out.1 Try.underlying44 rfl (by kernel_rfl) ?_
      exact ⟨rfl, HZ.out.2⟩
end Go.Proofs.Ytcbpdjenncbbeaa.Ip
