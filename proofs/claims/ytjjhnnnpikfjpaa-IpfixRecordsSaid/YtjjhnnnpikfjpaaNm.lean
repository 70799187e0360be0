/- The next set. -/
import Derived.Test.YtjjhnnnpikfjpaaNl
import Derived.Test.YtjjhnnnpikfjpaaSt
namespace Go.Proofs.Ytjjhnnnpikfjpaa
open Go.RowKit

/-- a set's number and data, and the reader behind it -/
def rdSet (l : List Nat) (bad : Bool) : (Nat × List Nat) × List Nat × Bool :=
  let a := rdB 2 l bad
  let b := rdB 2 a.2.1 a.2.2
  let d := rdB ((getN b.1 : Int) - 4) b.2.1 b.2.2
  ((getN a.1, d.1), d.2)
theorem getN_two {n : Int} {l : List Nat} {bad : Bool} (h : Bytes l) (hn : n ≤ 2) : getN (rdB n l bad).1 < 65536 := by
  have h1 := getN_lt _ (rdB_bytes n l bad h)
  have h2 : (rdB n l bad).1.length ≤ 2 := by unfold rdB; split <;> simp; omega
  have h3 : 256 ^ (rdB n l bad).1.length ≤ 256 ^ 2 := Nat.pow_le_pow_right (by omega) h2
  omega
theorem own_base {w : World} {base n c : Nat} {oa : Option Addr} {l : List Nat} (h : RB.Own w base (.slice oa n c) l) : ∀ b o, oa = some ⟨b, o, none⟩ → base ≤ b := by
  intro b o e
  obtain ⟨a, c', hv, -, -, -, hb⟩ := h.sl
  simp only [Value.slice.injEq] at hv
  exact hb b o (hv.1 ▸ e)
def BxS (b : Nat) (v : Value) (T : TypeId) (w : World) : Prop := w.heap[b]? = some (.cells #[v] T)
theorem BxS.cell {b : Nat} {v : Value} {T : TypeId} {w : World} (h : BxS b v T w) : w.cell? ⟨b, 0, none⟩ = some v := cell_of h rfl
theorem BxS.but {b : Nat} {v : Value} {T : TypeId} {w w' : World} {bs : List Nat} (h : BxS b v T w) (hb : But w w' bs) (hn : b ∉ bs) : BxS b v T w' := (hb.block b (lt_of_blk h) hn).trans h
set_option maxRecDepth 100000 in
set_option maxHeartbeats 400000 in
theorem set_rd {g : Nat} {l : List Nat} {bad : Bool} {w : World} (h : RdAt 88 g l bad w) : Calls Try.prog 34 #[.agg #[.pointer (some ⟨g, 0, none⟩)]] w fun e w' => (∃ oa n c, e = .returned (.agg #[.int .i64 ((rdSet l bad).1.1 : Nat), .slice oa n c]) ∧ B5 w' oa n c (rdSet l bad).1.2 ∧ ∀ b o, oa = some ⟨b, o, none⟩ → w.heap.size ≤ b) ∧ RdAt 88 g (rdSet l bad).2.1 (rdSet l bad).2.2 w' ∧ But w w' [g] := by
  obtain ⟨R1, hR1⟩ : ∃ R1, R1 = rdB 2 l bad := ⟨_, rfl⟩
  obtain ⟨R2, hR2⟩ : ∃ R2, R2 = rdB 2 R1.2.1 R1.2.2 := ⟨_, rfl⟩
  obtain ⟨R3, hR3⟩ : ∃ R3, R3 = rdB ((getN R2.1 : Int) - 4) R2.2.1 R2.2.2 := ⟨_, rfl⟩
  have hrs : rdSet l bad = ((getN R1.1, R3.1), R3.2) := by subst hR3; subst hR2; subst hR1; rfl
  rw [hrs]
  dsimp only
  have HR := Lib.hid (And.intro hR1 (And.intro hR2 hR3))
  clear hrs hR1 hR2 hR3
  have hg := h.lt
  have h1 : BxS w.heap.size (.pointer (some ⟨g, 0, none⟩)) 67 ((w.alloc (.cells #[.pointer (some ⟨g, 0, none⟩)] 67)).alloc (.cells #[.int .i64 0, .slice none 0 0] 51)) := hold (hnew _ _)
  have h2 := hnewAt (w := w.alloc (.cells #[.pointer (some ⟨g, 0, none⟩)] 67)) (o := .cells #[.int .i64 0, .slice none 0 0] 51) (n := w.heap.size + 1) (Array.size_push _).symm
  have hb := ((Below.refl w.heap.size w).alloc (Nat.le_refl _) (.cells #[.pointer (some ⟨g, 0, none⟩)] 67)).alloc (by simp) (.cells #[.int .i64 0, .slice none 0 0] 51)
  have e0 := h1.cell
  go_enter Try.func34, Try.ntmps34
  go_wp2_with fail
  have F := Lib.hid (And.intro (h.on hb) (And.intro h1 (And.intro h2 (But.of_below hb [g]))))
  clear h hb h1 h2 e0
  generalize (w.alloc (.cells #[.pointer (some ⟨g, 0, none⟩)] 67)).alloc (.cells #[.int .i64 0, .slice none 0 0] 51) = W at *
  have hn1 : w.heap.size ∉ [g] := by simp; omega
  have hn2 : w.heap.size + 1 ∉ [g] := by simp; omega
  have HN := Lib.hid (And.intro hn1 hn2)
  clear hn1 hn2 hg
  have c1 := two_rd F.out.1
  rw [← HR.out.1] at c1
  have HC := Lib.hid c1
  clear c1
  refine (HC.out).mono ?_
  rintro e W1 ⟨rfl, hr1, hb1⟩
  have F1 := Lib.hid (And.intro hr1 (And.intro (F.out.2.1.but hb1 HN.out.1) (And.intro ((hb1.block _ (lt_of_blk F.out.2.2.1) HN.out.2).trans F.out.2.2.1) (F.out.2.2.2.trans hb1))))
  clear hr1 hb1 F HC
  go_wp2_with fail
  refine wp_region_heldP (BxS w.heap.size (.pointer (some ⟨g, 0, none⟩)) 67) (by kernel_rfl) ?_
  have hd := (Below.refl W1.heap.size W1).drew
  have F2 := Lib.hid (And.intro (F1.out.1.on hd) (And.intro (F1.out.2.1.but (But.of_below hd [g]) HN.out.1) (And.intro ((hd.block _ (lt_of_blk F1.out.2.2.1)).trans F1.out.2.2.1) (F1.out.2.2.2.trans (But.of_below hd [g])))))
  clear F1 hd
  generalize W1.drew = W2 at *
  refine held_reads [0, 1, 2, 3] (g := 5) rfl (by kernel_rfl) F2.out.2.1 (fun _ _ d _ _ h => by cases d <;> exact h) ?_
  simp only [pick, List.getD_cons_zero, List.getD_cons_succ]
  iterate 4 ((with_reducible refine wpRead_step (fun K hK => ?_)); go_simp; first | ((with_reducible refine hK _ ?_); clear hK K) | (apply Exists.intro; (with_reducible refine ⟨fun w' hw' => ?_, hK _ ?_⟩); (have f0 := cell_of (o := 0) hw' rfl; go_simp; first | exact rfl | exact ⟨rfl, rfl⟩); clear hK K))
  with_reducible refine wpRead_nil ?_
  refine held_one 4 (by kernel_rfl) ?_
  simp only [pick, List.getD_cons_zero, List.getD_cons_succ]
  have c1 := two_rd F2.out.1
  rw [← HR.out.2.1] at c1
  have hlt : getN R2.1 < 65536 := by rw [HR.out.2.1]; exact getN_two F2.out.1.bytes (by omega)
  have HC := Lib.hid c1
  clear c1
  go_wp2_with fail
  refine (HC.out).mono ?_
  rintro e W3 ⟨rfl, hr1, hb1⟩
  have F3 := Lib.hid (And.intro hr1 (And.intro (F2.out.2.1.but hb1 HN.out.1) (And.intro ((hb1.block _ (lt_of_blk F2.out.2.2.1) HN.out.2).trans F2.out.2.2.1) (F2.out.2.2.2.trans hb1))))
  clear hr1 hb1 F2 HC
  go_wp2_with fail
  refine ⟨F3.out.2.1, ?_⟩
  have hw1 : IntKind.i64.wrap ((getN R2.1 : Int) - 4) = (getN R2.1 : Int) - 4 := IntWalk.i64_in _ (by omega)
  refine held_one 5 (by kernel_rfl) ?_
  simp only [pick, List.getD_cons_zero, List.getD_cons_succ]
  go_wp2_with fail
  refine ⟨F3.out.2.1, ?_⟩
  refine held_one 6 (by kernel_rfl) ?_
  simp only [pick, List.getD_cons_zero, List.getD_cons_succ]
  have c1 := rbytes_any F3.out.1 ((getN R2.1 : Int) - 4)
  rw [← HR.out.2.2] at c1
  have HC := Lib.hid c1
  clear c1 hw1 hlt
  go_wp2_with fail
  refine (HC.out).mono ?_
  rintro e W4 ⟨⟨v4, rfl, ho4⟩, hr1, hb1⟩
  obtain ⟨oa4, c4, rfl, hs4⟩ := b5_own ho4
  have hnew4 : ∀ b o, oa4 = some ⟨b, o, none⟩ → w.heap.size + 2 ≤ b := by
    intro b o e
    have h1 := own_base ho4 b o e
    have h2 := lt_of_blk F3.out.2.2.1
    omega
  have F4 := Lib.hid (And.intro hr1 (And.intro (F3.out.2.1.but hb1 HN.out.1) (And.intro ((hb1.block _ (lt_of_blk F3.out.2.2.1) HN.out.2).trans F3.out.2.2.1) (And.intro (F3.out.2.2.2.trans hb1) (And.intro hs4 hnew4)))))
  clear hr1 hb1 F3 HC ho4 hs4 hnew4
  go_wp2_with fail
  refine ⟨F4.out.2.1, ?_⟩
  refine held_one 7 (by kernel_rfl) ?_
  simp only [pick, List.getD_cons_zero, List.getD_cons_succ]
  go_wp2_with fail
  refine ⟨F4.out.2.1, ?_⟩
  refine held_one 8 (by kernel_rfl) ?_
  simp only [pick, List.getD_cons_zero, List.getD_cons_succ]
  refine store_whole rfl 51 _ _ rfl (w.heap.size + 1) #[.int .i64 (getN R1.1 : Int), .slice oa4 R3.1.length c4] rfl rfl F4.out.2.2.1 rfl (by kernel_rfl) (by simp [Value.oneCell']) ?_
  intro W5 hw5 hset5
  have hk5 : Keep5 W4 W5 := .of_set hset5 F4.out.2.2.1 (by decide)
  have hr5 := F4.out.1.keep hk5 (hset5.other (by have := HN.out.2; simp at this; omega))
  have hbs5 := F4.out.2.2.2.2.1.keep hk5
  have hbx : BxS w.heap.size (.pointer (some ⟨g, 0, none⟩)) 67 W5 := (hset5.other (by omega)).trans F4.out.2.1
  have F5 := Lib.hid (And.intro hr5 (And.intro hbx (And.intro hw5 (And.intro (F4.out.2.2.2.1.thenSet hset5 (.inl (by omega))) (And.intro hbs5 F4.out.2.2.2.2.2)))))
  clear hk5 hr5 hbs5 hbx hw5 hset5 F4
  go_wp2_with fail
  refine ⟨F5.out.2.1, ?_⟩
  refine wpAnyH_done (by kernel_rfl) ?_ _
  go_wp2_with fail
  refine ret_cell rfl rfl rfl F5.out.2.2.1 Try.underlying51 rfl (by kernel_rfl) ?_
  exact ⟨⟨_, _, _, rfl, F5.out.2.2.2.2.1, fun b o e => by have := F5.out.2.2.2.2.2 b o e; omega⟩, F5.out.1, F5.out.2.2.2.1⟩
end Go.Proofs.Ytjjhnnnpikfjpaa
