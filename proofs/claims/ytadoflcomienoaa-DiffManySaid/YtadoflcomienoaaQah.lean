/- Two operations that come up together, ahead of one that writes what was read. -/
import Derived.Test.YtadoflcomienoaaQag
namespace Go.Proofs.Ytadoflcomienoaa
open Go Go.RowKit

section
variable {P : Program} {ops : Array Oper} {md : Region.Mode} {S : World → Prop}
/-- two that come up, in whatever order -/
theorem T_two {Q : Exit → Act → World → Prop} {t g : Nat} (i j : Nat) {l0 : Array Bool} {a : Act} {w : World} (hB : decide (Region.ready md ops l0 = [i, j]) = true)
    (h1 : wpList P ops (Exit.then (fun a' w' => (i ≠ t → S w') ∧ wpAnyT P md ops Q t S g (l0.setIfInBounds i true) a' w') Q) (pick ops.toList [i]) a w)
    (h2 : wpList P ops (Exit.then (fun a' w' => (j ≠ t → S w') ∧ wpAnyT P md ops Q t S g (l0.setIfInBounds j true) a' w') Q) (pick ops.toList [j]) a w) : wpAnyT P md ops Q t S (g + 1) l0 a w := by
  have hr : Region.ready md ops l0 = [i, j] := by simpa using hB
  have go : ∀ k, k ∈ [i, j] → wpList P ops (Exit.then (fun a' w' => (k ≠ t → S w') ∧ wpAnyT P md ops Q t S g (l0.setIfInBounds k true) a' w') Q) (pick ops.toList [k]) a w → wpOp P ops Q k (fun a' w' => (k ≠ t → S w') ∧ wpAnyT P md ops Q t S g (l0.setIfInBounds k true) a' w') a w := by
    intro k hk h
    obtain ⟨o, ho⟩ := ready_lt (md := md) (ops := ops) (listed := l0) (i := k) (by rw [hr]; exact hk)
    have hp : pick ops.toList [k] = [o] := by simp [pick, List.getD_eq_getElem?_getD, ho]
    rw [hp] at h
    unfold wpOp
    simp only [ho]
    unfold wpList at h
    by_cases hw : Region.wanted o (yielded ops a.tmps) = true
    · rw [if_pos hw] at h ⊢
      refine h.imp (fun h => wp_then (Oper.wp_mono (fun a' w' h' => h') h)) (fun h => ⟨h.1, let ⟨a, w, h⟩ := h.2; ⟨a, w, h⟩⟩)
    · rw [if_neg hw] at h ⊢
      exact h
  refine ⟨fun h0 => (by rw [h0] at hr; cases hr), ?_⟩
  rw [hr]
  intro k hk
  refine go k hk ?_
  simp only [List.mem_cons, List.not_mem_nil, or_false] at hk
  rcases hk with rfl | rfl
  · exact h1
  · exact h2
end
end Go.Proofs.Ytadoflcomienoaa
/- The bytes of an attribute, behind those of others. -/
namespace Go.Proofs.Ytadoflcomienoaa
open Go.RowKit

theorem Rep.sl_flat {α : Type} [Inhabited α] {R : Rep α} {w : World} {b c : Nat} {M : List α} {T : TypeId} {fr : Nat × Nat} (h : w.heap[b]? = some (.cells (R.flat M).toArray T fr)) (hm : M.length ≤ maxLen) : R.Sl w (some ⟨b, 0, none⟩) M.length c M :=
  ⟨rfl, hm, fun _ => ⟨b, 0, rfl, lt_of_blk h, fun i hi j hj => by
    have hlt := Rep.mul_lt hi hj
    have hl : i * R.k + j < (R.flat M).length := by rw [R.flat_length]; exact hlt
    rw [Nat.zero_add, ← R.flat_get M i j hi hj, List.getElem?_eq_getElem hl]
    exact cell_of h (by simp [hl])⟩⟩
theorem BSS.nil {w : World} : BSS w [] [] := ⟨rfl, fun _j hj => absurd hj (Nat.not_lt_zero _)⟩
theorem BSS.cons {w : World} {x : Option Addr × Nat × Nat} {l : List Nat} {vs : List (Option Addr × Nat × Nat)} {ls : List (List Nat)} (h1 : RB.Sl w x.1 x.2.1 x.2.2 l) (h2 : x.1 = none → x.2.2 = 0) (h : BSS w vs ls) : BSS w (x :: vs) (l :: ls) :=
  ⟨by rw [List.length_cons, List.length_cons, h.len], fun j hj => by
    cases j with
    | zero => exact ⟨h1, h2⟩
    | succ j => exact h.all j (by simpa using hj)⟩
/-- a writer, and what it has written -/
structure Wr (g base : Nat) (v : Value) (B : List Nat) (W : World) : Prop where
  bx : W.heap[g]? = some (.cells #[v] 135)
  own : RB.Own W base v B
  lt : g < base
theorem Wr.keep {g base : Nat} {v : Value} {B : List Nat} {W W' : World} (h : Wr g base v B W) (hb : Below W.heap.size W W') : Wr g base v B W' := ⟨(hb.block _ (lt_of_blk h.bx)).trans h.bx, h.own.below hb, h.lt⟩
set_option maxRecDepth 100000 in
set_option maxHeartbeats 4000000 in
theorem add_short {w : World} {g base : Nat} {v : Value} {B : List Nat} (h : Wr g base v B w) {da : Option Addr} {dn dc : Nat} {D : List Nat} (hd : RB.Sl w da dn dc D) (hdn : da = none → dc = 0) (hbl : B.length ≤ 100000) (hs : dn ≤ 255) {f k : Nat} (hf : f < 256) (hk : k < 256) : Calls Try.prog 88 #[.pointer (some ⟨g, 0, none⟩), .int .i64 (f : Nat), .int .i64 (k : Nat), .slice da dn dc] w fun e w' => e = .returned (.tuple #[]) ∧ (∃ v' B', Wr g w.heap.size v' B' w' ∧ B'.length = B.length + 3 + dn) ∧ But w w' [g] := by
  have hdl := hd.len
  obtain ⟨oa, c, rfl, hsl, hnil⟩ := h.own.sl0
  have hg := lt_of_blk h.bx
  have hdr := (Below.refl w.heap.size w).drew
  obtain ⟨bl, hbln⟩ : ∃ z, B.length = z := ⟨_, rfl⟩
  rw [hbln] at h hsl hbl ⊢
  have hcs : (Cs [(⟨g, 0, none⟩, .slice oa bl c)]) w.drew := ⟨cell_of h.bx rfl, trivial⟩
  have F0 := Lib.hid (And.intro hdr (And.intro hcs (And.intro (hsl.keep hdr) (And.intro hnil (And.intro (hd.keep hdr) (And.intro hdn (hdr.block _ hg |>.trans h.bx)))))))
  have HB := Lib.hid (And.intro hbln (And.intro hdl.symm hg))
  have HK := Lib.hid (show ∀ (W : World) (q : Nat), W.heap[q]? = some (.cells #[.int .i64 (dn : Int)] 3) → Calls Try.prog 90 #[.int .i64 1, .slice (some ⟨q, 0, none⟩) 1 1] W fun e w' => ∃ v B, e = .returned v ∧ RB.Own w' W.heap.size v B ∧ B.length = 1 ∧ Below W.heap.size W w' from fun W q hq => (abytes_any (L := [(dn : Int)]) (Rep.sl_one (R := RI) (y := (dn : Int)) hq) 1 (by decide) (by simp [fitsB]; omega) (by decide)).mono fun e w' hh => by simpa using hh)
  have e1 : ((255 : Int) < (dn : Int)) = False := by simp; omega
  clear h hsl hnil hdr hcs hd hdn hbln hdl
  go_enter Try.func88, Try.ntmps88
  go_wp2_with fail
  refine wp_region_T 20 (Cs [(⟨g, 0, none⟩, .slice oa bl c)]) (by kernel_rfl) ?_
  generalize w.drew = W0 at *
  refine T_reads [0, 1, 2, 3, 4, 5, 6, 7, 8, 10, 11, 12, 15] (g := 8) rfl (by kernel_rfl) F0.out.2.1 (fun _ _ d _ _ h => by cases d <;> exact h) ?_
  simp only [pick, List.getD_cons_zero, List.getD_cons_succ]
  ((with_reducible refine wpRead_step (fun K hK => ?_)); go_simp; first | (rw [if_neg (by decide)]; (with_reducible refine hK _ ?_); clear hK K) | ((with_reducible refine hK _ ?_); clear hK K) | (apply Exists.intro; (with_reducible refine ⟨fun w' hw' => ?_, hK _ ?_⟩); (obtain ⟨f0, -⟩ := hw'; dsimp only at f0; go_simp; first | exact rfl | exact ⟨rfl, rfl⟩); clear hK K))
  ((with_reducible refine wpRead_step (fun K hK => ?_)); go_simp; first | (rw [if_neg (by decide)]; (with_reducible refine hK _ ?_); clear hK K) | ((with_reducible refine hK _ ?_); clear hK K) | (apply Exists.intro; (with_reducible refine ⟨fun w' hw' => ?_, hK _ ?_⟩); (obtain ⟨f0, -⟩ := hw'; dsimp only at f0; go_simp; first | exact rfl | exact ⟨rfl, rfl⟩); clear hK K))
  ((with_reducible refine wpRead_step (fun K hK => ?_)); go_simp; first | (rw [if_neg (by decide)]; (with_reducible refine hK _ ?_); clear hK K) | ((with_reducible refine hK _ ?_); clear hK K) | (apply Exists.intro; (with_reducible refine ⟨fun w' hw' => ?_, hK _ ?_⟩); (obtain ⟨f0, -⟩ := hw'; dsimp only at f0; go_simp; first | exact rfl | exact ⟨rfl, rfl⟩); clear hK K))
  ((with_reducible refine wpRead_step (fun K hK => ?_)); go_simp; first | (rw [if_neg (by decide)]; (with_reducible refine hK _ ?_); clear hK K) | ((with_reducible refine hK _ ?_); clear hK K) | (apply Exists.intro; (with_reducible refine ⟨fun w' hw' => ?_, hK _ ?_⟩); (obtain ⟨f0, -⟩ := hw'; dsimp only at f0; go_simp; first | exact rfl | exact ⟨rfl, rfl⟩); clear hK K))
  ((with_reducible refine wpRead_step (fun K hK => ?_)); go_simp; first | (rw [if_neg (by decide)]; (with_reducible refine hK _ ?_); clear hK K) | ((with_reducible refine hK _ ?_); clear hK K) | (apply Exists.intro; (with_reducible refine ⟨fun w' hw' => ?_, hK _ ?_⟩); (obtain ⟨f0, -⟩ := hw'; dsimp only at f0; go_simp; first | exact rfl | exact ⟨rfl, rfl⟩); clear hK K))
  ((with_reducible refine wpRead_step (fun K hK => ?_)); go_simp; first | (rw [if_neg (by decide)]; (with_reducible refine hK _ ?_); clear hK K) | ((with_reducible refine hK _ ?_); clear hK K) | (apply Exists.intro; (with_reducible refine ⟨fun w' hw' => ?_, hK _ ?_⟩); (obtain ⟨f0, -⟩ := hw'; dsimp only at f0; go_simp; first | exact rfl | exact ⟨rfl, rfl⟩); clear hK K))
  ((with_reducible refine wpRead_step (fun K hK => ?_)); go_simp; first | (rw [if_neg (by decide)]; (with_reducible refine hK _ ?_); clear hK K) | ((with_reducible refine hK _ ?_); clear hK K) | (apply Exists.intro; (with_reducible refine ⟨fun w' hw' => ?_, hK _ ?_⟩); (obtain ⟨f0, -⟩ := hw'; dsimp only at f0; go_simp; first | exact rfl | exact ⟨rfl, rfl⟩); clear hK K))
  ((with_reducible refine wpRead_step (fun K hK => ?_)); go_simp; first | (rw [if_neg (by decide)]; (with_reducible refine hK _ ?_); clear hK K) | ((with_reducible refine hK _ ?_); clear hK K) | (apply Exists.intro; (with_reducible refine ⟨fun w' hw' => ?_, hK _ ?_⟩); (obtain ⟨f0, -⟩ := hw'; dsimp only at f0; go_simp; first | exact rfl | exact ⟨rfl, rfl⟩); clear hK K))
  ((with_reducible refine wpRead_step (fun K hK => ?_)); go_simp; first | (rw [if_neg (by decide)]; (with_reducible refine hK _ ?_); clear hK K) | ((with_reducible refine hK _ ?_); clear hK K) | (apply Exists.intro; (with_reducible refine ⟨fun w' hw' => ?_, hK _ ?_⟩); (obtain ⟨f0, -⟩ := hw'; dsimp only at f0; go_simp; first | exact rfl | exact ⟨rfl, rfl⟩); clear hK K))
  ((with_reducible refine wpRead_step (fun K hK => ?_)); go_simp; first | (rw [if_neg (by decide)]; (with_reducible refine hK _ ?_); clear hK K) | ((with_reducible refine hK _ ?_); clear hK K) | (apply Exists.intro; (with_reducible refine ⟨fun w' hw' => ?_, hK _ ?_⟩); (obtain ⟨f0, -⟩ := hw'; dsimp only at f0; go_simp; first | exact rfl | exact ⟨rfl, rfl⟩); clear hK K))
  ((with_reducible refine wpRead_step (fun K hK => ?_)); go_simp; first | (rw [if_neg (by decide)]; (with_reducible refine hK _ ?_); clear hK K) | ((with_reducible refine hK _ ?_); clear hK K) | (apply Exists.intro; (with_reducible refine ⟨fun w' hw' => ?_, hK _ ?_⟩); (obtain ⟨f0, -⟩ := hw'; dsimp only at f0; go_simp; first | exact rfl | exact ⟨rfl, rfl⟩); clear hK K))
  ((with_reducible refine wpRead_step (fun K hK => ?_)); go_simp; first | (rw [if_neg (by decide)]; (with_reducible refine hK _ ?_); clear hK K) | ((with_reducible refine hK _ ?_); clear hK K) | (apply Exists.intro; (with_reducible refine ⟨fun w' hw' => ?_, hK _ ?_⟩); (obtain ⟨f0, -⟩ := hw'; dsimp only at f0; go_simp; first | exact rfl | exact ⟨rfl, rfl⟩); clear hK K))
  ((with_reducible refine wpRead_step (fun K hK => ?_)); go_simp; first | (rw [if_neg (by decide)]; (with_reducible refine hK _ ?_); clear hK K) | ((with_reducible refine hK _ ?_); clear hK K) | (apply Exists.intro; (with_reducible refine ⟨fun w' hw' => ?_, hK _ ?_⟩); (obtain ⟨f0, -⟩ := hw'; dsimp only at f0; go_simp; first | exact rfl | exact ⟨rfl, rfl⟩); clear hK K))
  with_reducible refine wpRead_nil ?_
  refine T_two 9 13 (by kernel_rfl) ?_ ?_
  · simp only [pick, List.getD_cons_zero, List.getD_cons_succ]
    have hal := (Below.refl W0.heap.size W0).alloc (Nat.le_refl _) (.cells #[.int .u8 (f : Int), .int .u8 (k : Int)] 5)
    have hnx : RB.Sl (W0.alloc (.cells #[.int .u8 (f : Int), .int .u8 (k : Int)] 5)) (some ⟨W0.heap.size, 0, none⟩) 2 2 [f, k] := Rep.sl_flat (R := RB) (M := [f, k]) (hnew _ _) (by unfold maxLen; simp)
    have F1 := Lib.hid (And.intro (bcall F0.out.1 (Nat.le_refl _) hal) (And.intro (Cs.keep hal F0.out.2.1) (And.intro (F0.out.2.2.1.keep hal) (And.intro F0.out.2.2.2.1 (And.intro (F0.out.2.2.2.2.1.keep hal) (And.intro F0.out.2.2.2.2.2.1 (And.intro ((hal.block _ (lt_of_blk F0.out.2.2.2.2.2.2)).trans F0.out.2.2.2.2.2.2) (hnx))))))))
    clear F0
    clear hal hnx
    go_wp2_with fail
    refine ⟨fun _ => F1.out.2.1, ?_⟩
    generalize W0.alloc (.cells #[.int .u8 (f : Int), .int .u8 (k : Int)] 5) = A1 at *
    generalize W0.heap.size = qP at *
    refine T_one 13 (by kernel_rfl) ?_
    simp only [pick, List.getD_cons_zero, List.getD_cons_succ]
    have hal := (Below.refl A1.heap.size A1).alloc (Nat.le_refl _) (.cells #[.int .i64 (dn : Int)] 3)
    have hnx : (A1.alloc (.cells #[.int .i64 (dn : Int)] 3)).heap[A1.heap.size]? = some (.cells #[.int .i64 (dn : Int)] 3) := hnew _ _
    have F2 := Lib.hid (And.intro (bcall F1.out.1 (Nat.le_refl _) hal) (And.intro (Cs.keep hal F1.out.2.1) (And.intro (F1.out.2.2.1.keep hal) (And.intro F1.out.2.2.2.1 (And.intro (F1.out.2.2.2.2.1.keep hal) (And.intro F1.out.2.2.2.2.2.1 (And.intro ((hal.block _ (lt_of_blk F1.out.2.2.2.2.2.2.1)).trans F1.out.2.2.2.2.2.2.1) (And.intro (F1.out.2.2.2.2.2.2.2.keep hal) (hnx)))))))))
    clear F1
    clear hal hnx
    go_wp2_with fail
    refine ⟨fun _ => F2.out.2.1, ?_⟩
    generalize A1.alloc (.cells #[.int .i64 (dn : Int)] 3) = A2 at *
    generalize A1.heap.size = qL at *
    refine T_one 14 (by kernel_rfl) ?_
    simp only [pick, List.getD_cons_zero, List.getD_cons_succ]
    go_wp2_with fail
    refine (HK.out _ _ F2.out.2.2.2.2.2.2.2.2).mono ?_
    rintro e A3 ⟨v1, B1, rfl, ho1, hl1, hb1⟩
    obtain ⟨oy, cy, rfl, hsy, hny⟩ := ho1.sl0
    rw [hl1] at hsy ⊢
    have F3 := Lib.hid (And.intro (bcall F2.out.1 (Nat.le_refl _) hb1) (And.intro (Cs.keep hb1 F2.out.2.1) (And.intro (F2.out.2.2.1.keep hb1) (And.intro F2.out.2.2.2.1 (And.intro (F2.out.2.2.2.2.1.keep hb1) (And.intro F2.out.2.2.2.2.2.1 (And.intro ((hb1.block _ (lt_of_blk F2.out.2.2.2.2.2.2.1)).trans F2.out.2.2.2.2.2.2.1) (And.intro (F2.out.2.2.2.2.2.2.2.1.keep hb1) (And.intro hsy (And.intro hny (hl1)))))))))))
    clear F2
    clear hb1 ho1 hl1 hsy hny
    go_wp2_with fail
    refine ⟨fun _ => F3.out.2.1, ?_⟩
    refine T_one 16 (by kernel_rfl) ?_
    simp only [pick, List.getD_cons_zero, List.getD_cons_succ]
    have hal := (Below.refl A3.heap.size A3).alloc (Nat.le_refl _) (.cells #[.slice oa bl c, .slice (some ⟨qP, 0, none⟩) 2 2, .slice oy 1 cy, .slice da dn dc] 40)
    have hvs : RH.Sl (A3.alloc (.cells #[.slice oa bl c, .slice (some ⟨qP, 0, none⟩) 2 2, .slice oy 1 cy, .slice da dn dc] 40)) (some ⟨A3.heap.size, 0, none⟩) 4 4 [(oa, bl, c), (some ⟨qP, 0, none⟩, 2, 2), (oy, 1, cy), (da, dn, dc)] := Rep.sl_flat (R := RH) (M := [(oa, bl, c), (some ⟨qP, 0, none⟩, 2, 2), (oy, 1, cy), (da, dn, dc)]) (hnew _ _) (by unfold maxLen; simp)
    have hbs : BSS (A3.alloc (.cells #[.slice oa bl c, .slice (some ⟨qP, 0, none⟩) 2 2, .slice oy 1 cy, .slice da dn dc] 40)) [(oa, bl, c), (some ⟨qP, 0, none⟩, 2, 2), (oy, 1, cy), (da, dn, dc)] [B, [f, k], B1, D] := BSS.cons (F3.out.2.2.1.keep hal) F3.out.2.2.2.1 (BSS.cons (F3.out.2.2.2.2.2.2.2.1.keep hal) (fun h => by cases h) (BSS.cons (F3.out.2.2.2.2.2.2.2.2.1.keep hal) F3.out.2.2.2.2.2.2.2.2.2.1 (BSS.cons (F3.out.2.2.2.2.1.keep hal) F3.out.2.2.2.2.2.1 BSS.nil)))
    have HT1 := Lib.hid F3.out.2.2.2.2.2.2.2.2.2.2
    have F4 := Lib.hid (And.intro (bcall F3.out.1 (Nat.le_refl _) hal) (And.intro (Cs.keep hal F3.out.2.1) (And.intro ((hal.block _ (lt_of_blk F3.out.2.2.2.2.2.2.1)).trans F3.out.2.2.2.2.2.2.1) (And.intro hvs (hbs)))))
    clear F3
    clear hal hvs hbs
    go_wp2_with fail
    refine ⟨fun _ => F4.out.2.1, ?_⟩
    generalize A3.alloc (.cells #[.slice oa bl c, .slice (some ⟨qP, 0, none⟩) 2 2, .slice oy 1 cy, .slice da dn dc] 40) = A8 at *
    generalize A3.heap.size = q8 at *
    refine T_one 17 (by kernel_rfl) ?_
    simp only [pick, List.getD_cons_zero, List.getD_cons_succ]
    go_wp2_with fail
    have hlq : lsum [B, [f, k], B1, D] = bl + 3 + dn := by
      have h1 := HB.out.1
      have h2 := HB.out.2.1
      have h3 := HT1.out
      unfold lsum
      simp only [List.flatten_cons, List.flatten_nil, List.length_append, List.length_cons, List.length_nil]
      omega
    refine (concat_any F4.out.2.2.2.1 F4.out.2.2.2.2 (by decide) (by rw [hlq]; omega)).mono ?_
    rintro e A9 ⟨v9, rfl, ho9, hb9⟩
    have ho9' := ho9.mono (show w.heap.size ≤ A8.heap.size from F4.out.1.size)
    obtain ⟨o9, c9, rfl, -, -⟩ := ho9.sl0
    have HQ := Lib.hid hlq
    have F5 := Lib.hid (And.intro (bcall F4.out.1 (Nat.le_refl _) hb9) (And.intro (Cs.keep hb9 F4.out.2.1) (And.intro ((hb9.block _ (lt_of_blk F4.out.2.2.1)).trans F4.out.2.2.1) (ho9'))))
    clear F4
    clear hb9 ho9 ho9' hlq
    have hle : [B, [f, k], B1, D].flatten.length = bl + 3 + dn := HQ.out
    rw [hle] at F5 ⊢
    clear hle
    go_wp2_with fail
    refine ⟨fun _ => F5.out.2.1, ?_⟩
    refine T_reads [18, 19] (g := 1) rfl (by kernel_rfl) F5.out.2.1 (fun _ _ d _ _ h => by cases d <;> exact h) ?_
    simp only [pick, List.getD_cons_zero, List.getD_cons_succ]
    ((with_reducible refine wpRead_step (fun K hK => ?_)); go_simp; first | (rw [if_neg (by decide)]; (with_reducible refine hK _ ?_); clear hK K) | ((with_reducible refine hK _ ?_); clear hK K) | (apply Exists.intro; (with_reducible refine ⟨fun w' hw' => ?_, hK _ ?_⟩); (obtain ⟨f0, -⟩ := hw'; dsimp only at f0; go_simp; first | exact rfl | exact ⟨rfl, rfl⟩); clear hK K))
    ((with_reducible refine wpRead_step (fun K hK => ?_)); go_simp; first | (rw [if_neg (by decide)]; (with_reducible refine hK _ ?_); clear hK K) | ((with_reducible refine hK _ ?_); clear hK K) | (apply Exists.intro; (with_reducible refine ⟨fun w' hw' => ?_, hK _ ?_⟩); (obtain ⟨f0, -⟩ := hw'; dsimp only at f0; go_simp; first | exact rfl | exact ⟨rfl, rfl⟩); clear hK K))
    with_reducible refine wpRead_nil ?_
    refine T_one 20 (by kernel_rfl) ?_
    simp only [pick, List.getD_cons_zero, List.getD_cons_succ]
    have c0 := F5.out.2.1.1
    dsimp only at c0
    have e0 : A9.frozen? ⟨g, 0, none⟩ = false := free_of F5.out.2.2.1
    have HBT := Lib.hid ((But.of_below F5.out.1 [g]).setCell (a := ⟨g, 0, none⟩) (.inr (by simp)) (.slice o9 (bl + 3 + dn) c9))
    have hst := setCell_blk F5.out.2.2.1 0 (.slice o9 (bl + 3 + dn) c9)
    have hoo : RB.Own (A9.setCell ⟨g, 0, none⟩ (.slice o9 (bl + 3 + dn) c9)) w.heap.size (.slice o9 (bl + 3 + dn) c9) [B, [f, k], B1, D].flatten := Rep.Own.but F5.out.2.2.2 ((But.refl A9 [g]).setCell (a := ⟨g, 0, none⟩) (.inr (by simp)) _) (by simpa using HB.out.2.2)
    have HW := Lib.hid (And.intro hst hoo)
    clear hst hoo
    go_wp2_with fail
    refine ⟨fun h => absurd rfl h, ?_⟩
    refine T_done (by kernel_rfl) ?_ _
    go_wp2_with fail
    go_end0
    exact ⟨rfl, ⟨_, _, ⟨HW.out.1, HW.out.2, HB.out.2.2⟩, HQ.out⟩, HBT.out⟩
  · simp only [pick, List.getD_cons_zero, List.getD_cons_succ]
    have hal := (Below.refl W0.heap.size W0).alloc (Nat.le_refl _) (.cells #[.int .i64 (dn : Int)] 3)
    have hnx : (W0.alloc (.cells #[.int .i64 (dn : Int)] 3)).heap[W0.heap.size]? = some (.cells #[.int .i64 (dn : Int)] 3) := hnew _ _
    have F6 := Lib.hid (And.intro (bcall F0.out.1 (Nat.le_refl _) hal) (And.intro (Cs.keep hal F0.out.2.1) (And.intro (F0.out.2.2.1.keep hal) (And.intro F0.out.2.2.2.1 (And.intro (F0.out.2.2.2.2.1.keep hal) (And.intro F0.out.2.2.2.2.2.1 (And.intro ((hal.block _ (lt_of_blk F0.out.2.2.2.2.2.2)).trans F0.out.2.2.2.2.2.2) (hnx))))))))
    clear F0
    clear hal hnx
    go_wp2_with fail
    refine ⟨fun _ => F6.out.2.1, ?_⟩
    generalize W0.alloc (.cells #[.int .i64 (dn : Int)] 3) = A4 at *
    generalize W0.heap.size = qL at *
    refine T_two 9 14 (by kernel_rfl) ?_ ?_
    · simp only [pick, List.getD_cons_zero, List.getD_cons_succ]
      have hal := (Below.refl A4.heap.size A4).alloc (Nat.le_refl _) (.cells #[.int .u8 (f : Int), .int .u8 (k : Int)] 5)
      have hnx : RB.Sl (A4.alloc (.cells #[.int .u8 (f : Int), .int .u8 (k : Int)] 5)) (some ⟨A4.heap.size, 0, none⟩) 2 2 [f, k] := Rep.sl_flat (R := RB) (M := [f, k]) (hnew _ _) (by unfold maxLen; simp)
      have F7 := Lib.hid (And.intro (bcall F6.out.1 (Nat.le_refl _) hal) (And.intro (Cs.keep hal F6.out.2.1) (And.intro (F6.out.2.2.1.keep hal) (And.intro F6.out.2.2.2.1 (And.intro (F6.out.2.2.2.2.1.keep hal) (And.intro F6.out.2.2.2.2.2.1 (And.intro ((hal.block _ (lt_of_blk F6.out.2.2.2.2.2.2.1)).trans F6.out.2.2.2.2.2.2.1) (And.intro ((hal.block _ (lt_of_blk F6.out.2.2.2.2.2.2.2)).trans F6.out.2.2.2.2.2.2.2) (hnx)))))))))
      clear F6
      clear hal hnx
      go_wp2_with fail
      refine ⟨fun _ => F7.out.2.1, ?_⟩
      generalize A4.alloc (.cells #[.int .u8 (f : Int), .int .u8 (k : Int)] 5) = A5 at *
      generalize A4.heap.size = qP at *
      refine T_one 14 (by kernel_rfl) ?_
      simp only [pick, List.getD_cons_zero, List.getD_cons_succ]
      go_wp2_with fail
      refine (HK.out _ _ F7.out.2.2.2.2.2.2.2.1).mono ?_
      rintro e A6 ⟨v1, B1, rfl, ho1, hl1, hb1⟩
      obtain ⟨oy, cy, rfl, hsy, hny⟩ := ho1.sl0
      rw [hl1] at hsy ⊢
      have F8 := Lib.hid (And.intro (bcall F7.out.1 (Nat.le_refl _) hb1) (And.intro (Cs.keep hb1 F7.out.2.1) (And.intro (F7.out.2.2.1.keep hb1) (And.intro F7.out.2.2.2.1 (And.intro (F7.out.2.2.2.2.1.keep hb1) (And.intro F7.out.2.2.2.2.2.1 (And.intro ((hb1.block _ (lt_of_blk F7.out.2.2.2.2.2.2.1)).trans F7.out.2.2.2.2.2.2.1) (And.intro (F7.out.2.2.2.2.2.2.2.2.keep hb1) (And.intro hsy (And.intro hny (hl1)))))))))))
      clear F7
      clear hb1 ho1 hl1 hsy hny
      go_wp2_with fail
      refine ⟨fun _ => F8.out.2.1, ?_⟩
      refine T_one 16 (by kernel_rfl) ?_
      simp only [pick, List.getD_cons_zero, List.getD_cons_succ]
      have hal := (Below.refl A6.heap.size A6).alloc (Nat.le_refl _) (.cells #[.slice oa bl c, .slice (some ⟨qP, 0, none⟩) 2 2, .slice oy 1 cy, .slice da dn dc] 40)
      have hvs : RH.Sl (A6.alloc (.cells #[.slice oa bl c, .slice (some ⟨qP, 0, none⟩) 2 2, .slice oy 1 cy, .slice da dn dc] 40)) (some ⟨A6.heap.size, 0, none⟩) 4 4 [(oa, bl, c), (some ⟨qP, 0, none⟩, 2, 2), (oy, 1, cy), (da, dn, dc)] := Rep.sl_flat (R := RH) (M := [(oa, bl, c), (some ⟨qP, 0, none⟩, 2, 2), (oy, 1, cy), (da, dn, dc)]) (hnew _ _) (by unfold maxLen; simp)
      have hbs : BSS (A6.alloc (.cells #[.slice oa bl c, .slice (some ⟨qP, 0, none⟩) 2 2, .slice oy 1 cy, .slice da dn dc] 40)) [(oa, bl, c), (some ⟨qP, 0, none⟩, 2, 2), (oy, 1, cy), (da, dn, dc)] [B, [f, k], B1, D] := BSS.cons (F8.out.2.2.1.keep hal) F8.out.2.2.2.1 (BSS.cons (F8.out.2.2.2.2.2.2.2.1.keep hal) (fun h => by cases h) (BSS.cons (F8.out.2.2.2.2.2.2.2.2.1.keep hal) F8.out.2.2.2.2.2.2.2.2.2.1 (BSS.cons (F8.out.2.2.2.2.1.keep hal) F8.out.2.2.2.2.2.1 BSS.nil)))
      have HT1 := Lib.hid F8.out.2.2.2.2.2.2.2.2.2.2
      have F9 := Lib.hid (And.intro (bcall F8.out.1 (Nat.le_refl _) hal) (And.intro (Cs.keep hal F8.out.2.1) (And.intro ((hal.block _ (lt_of_blk F8.out.2.2.2.2.2.2.1)).trans F8.out.2.2.2.2.2.2.1) (And.intro hvs (hbs)))))
      clear F8
      clear hal hvs hbs
      go_wp2_with fail
      refine ⟨fun _ => F9.out.2.1, ?_⟩
      generalize A6.alloc (.cells #[.slice oa bl c, .slice (some ⟨qP, 0, none⟩) 2 2, .slice oy 1 cy, .slice da dn dc] 40) = A8 at *
      generalize A6.heap.size = q8 at *
      refine T_one 17 (by kernel_rfl) ?_
      simp only [pick, List.getD_cons_zero, List.getD_cons_succ]
      go_wp2_with fail
      have hlq : lsum [B, [f, k], B1, D] = bl + 3 + dn := by
        have h1 := HB.out.1
        have h2 := HB.out.2.1
        have h3 := HT1.out
        unfold lsum
        simp only [List.flatten_cons, List.flatten_nil, List.length_append, List.length_cons, List.length_nil]
        omega
      refine (concat_any F9.out.2.2.2.1 F9.out.2.2.2.2 (by decide) (by rw [hlq]; omega)).mono ?_
      rintro e A9 ⟨v9, rfl, ho9, hb9⟩
      have ho9' := ho9.mono (show w.heap.size ≤ A8.heap.size from F9.out.1.size)
      obtain ⟨o9, c9, rfl, -, -⟩ := ho9.sl0
      have HQ := Lib.hid hlq
      have F10 := Lib.hid (And.intro (bcall F9.out.1 (Nat.le_refl _) hb9) (And.intro (Cs.keep hb9 F9.out.2.1) (And.intro ((hb9.block _ (lt_of_blk F9.out.2.2.1)).trans F9.out.2.2.1) (ho9'))))
      clear F9
      clear hb9 ho9 ho9' hlq
      have hle : [B, [f, k], B1, D].flatten.length = bl + 3 + dn := HQ.out
      rw [hle] at F10 ⊢
      clear hle
      go_wp2_with fail
      refine ⟨fun _ => F10.out.2.1, ?_⟩
      refine T_reads [18, 19] (g := 1) rfl (by kernel_rfl) F10.out.2.1 (fun _ _ d _ _ h => by cases d <;> exact h) ?_
      simp only [pick, List.getD_cons_zero, List.getD_cons_succ]
      ((with_reducible refine wpRead_step (fun K hK => ?_)); go_simp; first | (rw [if_neg (by decide)]; (with_reducible refine hK _ ?_); clear hK K) | ((with_reducible refine hK _ ?_); clear hK K) | (apply Exists.intro; (with_reducible refine ⟨fun w' hw' => ?_, hK _ ?_⟩); (obtain ⟨f0, -⟩ := hw'; dsimp only at f0; go_simp; first | exact rfl | exact ⟨rfl, rfl⟩); clear hK K))
      ((with_reducible refine wpRead_step (fun K hK => ?_)); go_simp; first | (rw [if_neg (by decide)]; (with_reducible refine hK _ ?_); clear hK K) | ((with_reducible refine hK _ ?_); clear hK K) | (apply Exists.intro; (with_reducible refine ⟨fun w' hw' => ?_, hK _ ?_⟩); (obtain ⟨f0, -⟩ := hw'; dsimp only at f0; go_simp; first | exact rfl | exact ⟨rfl, rfl⟩); clear hK K))
      with_reducible refine wpRead_nil ?_
      refine T_one 20 (by kernel_rfl) ?_
      simp only [pick, List.getD_cons_zero, List.getD_cons_succ]
      have c0 := F10.out.2.1.1
      dsimp only at c0
      have e0 : A9.frozen? ⟨g, 0, none⟩ = false := free_of F10.out.2.2.1
      have HBT := Lib.hid ((But.of_below F10.out.1 [g]).setCell (a := ⟨g, 0, none⟩) (.inr (by simp)) (.slice o9 (bl + 3 + dn) c9))
      have hst := setCell_blk F10.out.2.2.1 0 (.slice o9 (bl + 3 + dn) c9)
      have hoo : RB.Own (A9.setCell ⟨g, 0, none⟩ (.slice o9 (bl + 3 + dn) c9)) w.heap.size (.slice o9 (bl + 3 + dn) c9) [B, [f, k], B1, D].flatten := Rep.Own.but F10.out.2.2.2 ((But.refl A9 [g]).setCell (a := ⟨g, 0, none⟩) (.inr (by simp)) _) (by simpa using HB.out.2.2)
      have HW := Lib.hid (And.intro hst hoo)
      clear hst hoo
      go_wp2_with fail
      refine ⟨fun h => absurd rfl h, ?_⟩
      refine T_done (by kernel_rfl) ?_ _
      go_wp2_with fail
      go_end0
      exact ⟨rfl, ⟨_, _, ⟨HW.out.1, HW.out.2, HB.out.2.2⟩, HQ.out⟩, HBT.out⟩
    · simp only [pick, List.getD_cons_zero, List.getD_cons_succ]
      go_wp2_with fail
      refine (HK.out _ _ F6.out.2.2.2.2.2.2.2).mono ?_
      rintro e A7 ⟨v1, B1, rfl, ho1, hl1, hb1⟩
      obtain ⟨oy, cy, rfl, hsy, hny⟩ := ho1.sl0
      rw [hl1] at hsy ⊢
      have F11 := Lib.hid (And.intro (bcall F6.out.1 (Nat.le_refl _) hb1) (And.intro (Cs.keep hb1 F6.out.2.1) (And.intro (F6.out.2.2.1.keep hb1) (And.intro F6.out.2.2.2.1 (And.intro (F6.out.2.2.2.2.1.keep hb1) (And.intro F6.out.2.2.2.2.2.1 (And.intro ((hb1.block _ (lt_of_blk F6.out.2.2.2.2.2.2.1)).trans F6.out.2.2.2.2.2.2.1) (And.intro hsy (And.intro hny (hl1))))))))))
      clear F6
      clear hb1 ho1 hl1 hsy hny
      go_wp2_with fail
      refine ⟨fun _ => F11.out.2.1, ?_⟩
      refine T_one 9 (by kernel_rfl) ?_
      simp only [pick, List.getD_cons_zero, List.getD_cons_succ]
      have hal := (Below.refl A7.heap.size A7).alloc (Nat.le_refl _) (.cells #[.int .u8 (f : Int), .int .u8 (k : Int)] 5)
      have hnx : RB.Sl (A7.alloc (.cells #[.int .u8 (f : Int), .int .u8 (k : Int)] 5)) (some ⟨A7.heap.size, 0, none⟩) 2 2 [f, k] := Rep.sl_flat (R := RB) (M := [f, k]) (hnew _ _) (by unfold maxLen; simp)
      have F12 := Lib.hid (And.intro (bcall F11.out.1 (Nat.le_refl _) hal) (And.intro (Cs.keep hal F11.out.2.1) (And.intro (F11.out.2.2.1.keep hal) (And.intro F11.out.2.2.2.1 (And.intro (F11.out.2.2.2.2.1.keep hal) (And.intro F11.out.2.2.2.2.2.1 (And.intro ((hal.block _ (lt_of_blk F11.out.2.2.2.2.2.2.1)).trans F11.out.2.2.2.2.2.2.1) (And.intro (F11.out.2.2.2.2.2.2.2.1.keep hal) (And.intro F11.out.2.2.2.2.2.2.2.2.1 (And.intro F11.out.2.2.2.2.2.2.2.2.2 (hnx)))))))))))
      clear F11
      clear hal hnx
      go_wp2_with fail
      refine ⟨fun _ => F12.out.2.1, ?_⟩
      generalize A7.alloc (.cells #[.int .u8 (f : Int), .int .u8 (k : Int)] 5) = A8 at *
      generalize A7.heap.size = qP at *
      refine T_one 16 (by kernel_rfl) ?_
      simp only [pick, List.getD_cons_zero, List.getD_cons_succ]
      have hal := (Below.refl A8.heap.size A8).alloc (Nat.le_refl _) (.cells #[.slice oa bl c, .slice (some ⟨qP, 0, none⟩) 2 2, .slice oy 1 cy, .slice da dn dc] 40)
      have hvs : RH.Sl (A8.alloc (.cells #[.slice oa bl c, .slice (some ⟨qP, 0, none⟩) 2 2, .slice oy 1 cy, .slice da dn dc] 40)) (some ⟨A8.heap.size, 0, none⟩) 4 4 [(oa, bl, c), (some ⟨qP, 0, none⟩, 2, 2), (oy, 1, cy), (da, dn, dc)] := Rep.sl_flat (R := RH) (M := [(oa, bl, c), (some ⟨qP, 0, none⟩, 2, 2), (oy, 1, cy), (da, dn, dc)]) (hnew _ _) (by unfold maxLen; simp)
      have hbs : BSS (A8.alloc (.cells #[.slice oa bl c, .slice (some ⟨qP, 0, none⟩) 2 2, .slice oy 1 cy, .slice da dn dc] 40)) [(oa, bl, c), (some ⟨qP, 0, none⟩, 2, 2), (oy, 1, cy), (da, dn, dc)] [B, [f, k], B1, D] := BSS.cons (F12.out.2.2.1.keep hal) F12.out.2.2.2.1 (BSS.cons (F12.out.2.2.2.2.2.2.2.2.2.2.keep hal) (fun h => by cases h) (BSS.cons (F12.out.2.2.2.2.2.2.2.1.keep hal) F12.out.2.2.2.2.2.2.2.2.1 (BSS.cons (F12.out.2.2.2.2.1.keep hal) F12.out.2.2.2.2.2.1 BSS.nil)))
      have HT1 := Lib.hid F12.out.2.2.2.2.2.2.2.2.2.1
      have F13 := Lib.hid (And.intro (bcall F12.out.1 (Nat.le_refl _) hal) (And.intro (Cs.keep hal F12.out.2.1) (And.intro ((hal.block _ (lt_of_blk F12.out.2.2.2.2.2.2.1)).trans F12.out.2.2.2.2.2.2.1) (And.intro hvs (hbs)))))
      clear F12
      clear hal hvs hbs
      go_wp2_with fail
      refine ⟨fun _ => F13.out.2.1, ?_⟩
      generalize A8.alloc (.cells #[.slice oa bl c, .slice (some ⟨qP, 0, none⟩) 2 2, .slice oy 1 cy, .slice da dn dc] 40) = A8 at *
      generalize A8.heap.size = q8 at *
      refine T_one 17 (by kernel_rfl) ?_
      simp only [pick, List.getD_cons_zero, List.getD_cons_succ]
      go_wp2_with fail
      have hlq : lsum [B, [f, k], B1, D] = bl + 3 + dn := by
        have h1 := HB.out.1
        have h2 := HB.out.2.1
        have h3 := HT1.out
        unfold lsum
        simp only [List.flatten_cons, List.flatten_nil, List.length_append, List.length_cons, List.length_nil]
        omega
      refine (concat_any F13.out.2.2.2.1 F13.out.2.2.2.2 (by decide) (by rw [hlq]; omega)).mono ?_
      rintro e A9 ⟨v9, rfl, ho9, hb9⟩
      have ho9' := ho9.mono (show w.heap.size ≤ A8.heap.size from F13.out.1.size)
      obtain ⟨o9, c9, rfl, -, -⟩ := ho9.sl0
      have HQ := Lib.hid hlq
      have F14 := Lib.hid (And.intro (bcall F13.out.1 (Nat.le_refl _) hb9) (And.intro (Cs.keep hb9 F13.out.2.1) (And.intro ((hb9.block _ (lt_of_blk F13.out.2.2.1)).trans F13.out.2.2.1) (ho9'))))
      clear F13
      clear hb9 ho9 ho9' hlq
      have hle : [B, [f, k], B1, D].flatten.length = bl + 3 + dn := HQ.out
      rw [hle] at F14 ⊢
      clear hle
      go_wp2_with fail
      refine ⟨fun _ => F14.out.2.1, ?_⟩
      refine T_reads [18, 19] (g := 1) rfl (by kernel_rfl) F14.out.2.1 (fun _ _ d _ _ h => by cases d <;> exact h) ?_
      simp only [pick, List.getD_cons_zero, List.getD_cons_succ]
      ((with_reducible refine wpRead_step (fun K hK => ?_)); go_simp; first | (rw [if_neg (by decide)]; (with_reducible refine hK _ ?_); clear hK K) | ((with_reducible refine hK _ ?_); clear hK K) | (apply Exists.intro; (with_reducible refine ⟨fun w' hw' => ?_, hK _ ?_⟩); (obtain ⟨f0, -⟩ := hw'; dsimp only at f0; go_simp; first | exact rfl | exact ⟨rfl, rfl⟩); clear hK K))
      ((with_reducible refine wpRead_step (fun K hK => ?_)); go_simp; first | (rw [if_neg (by decide)]; (with_reducible refine hK _ ?_); clear hK K) | ((with_reducible refine hK _ ?_); clear hK K) | (apply Exists.intro; (with_reducible refine ⟨fun w' hw' => ?_, hK _ ?_⟩); (obtain ⟨f0, -⟩ := hw'; dsimp only at f0; go_simp; first | exact rfl | exact ⟨rfl, rfl⟩); clear hK K))
      with_reducible refine wpRead_nil ?_
      refine T_one 20 (by kernel_rfl) ?_
      simp only [pick, List.getD_cons_zero, List.getD_cons_succ]
      have c0 := F14.out.2.1.1
      dsimp only at c0
      have e0 : A9.frozen? ⟨g, 0, none⟩ = false := free_of F14.out.2.2.1
      have HBT := Lib.hid ((But.of_below F14.out.1 [g]).setCell (a := ⟨g, 0, none⟩) (.inr (by simp)) (.slice o9 (bl + 3 + dn) c9))
      have hst := setCell_blk F14.out.2.2.1 0 (.slice o9 (bl + 3 + dn) c9)
      have hoo : RB.Own (A9.setCell ⟨g, 0, none⟩ (.slice o9 (bl + 3 + dn) c9)) w.heap.size (.slice o9 (bl + 3 + dn) c9) [B, [f, k], B1, D].flatten := Rep.Own.but F14.out.2.2.2 ((But.refl A9 [g]).setCell (a := ⟨g, 0, none⟩) (.inr (by simp)) _) (by simpa using HB.out.2.2)
      have HW := Lib.hid (And.intro hst hoo)
      clear hst hoo
      go_wp2_with fail
      refine ⟨fun h => absurd rfl h, ?_⟩
      refine T_done (by kernel_rfl) ?_ _
      go_wp2_with fail
      go_end0
      exact ⟨rfl, ⟨_, _, ⟨HW.out.1, HW.out.2, HB.out.2.2⟩, HQ.out⟩, HBT.out⟩
set_option maxRecDepth 100000 in
set_option maxHeartbeats 4000000 in
theorem add_long {w : World} {g base : Nat} {v : Value} {B : List Nat} (h : Wr g base v B w) {da : Option Addr} {dn dc : Nat} {D : List Nat} (hd : RB.Sl w da dn dc D) (hdn : da = none → dc = 0) (hbl : B.length ≤ 100000) (hs : 255 < dn) (hs2 : dn ≤ 65535) : Calls Try.prog 88 #[.pointer (some ⟨g, 0, none⟩), .int .i64 64, .int .i64 2, .slice da dn dc] w fun e w' => e = .returned (.tuple #[]) ∧ (∃ v' B', Wr g w.heap.size v' B' w' ∧ B'.length = B.length + 4 + dn) ∧ But w w' [g] := by
  have hdl := hd.len
  obtain ⟨oa, c, rfl, hsl, hnil⟩ := h.own.sl0
  have hg := lt_of_blk h.bx
  have hdr := (Below.refl w.heap.size w).drew
  obtain ⟨bl, hbln⟩ : ∃ z, B.length = z := ⟨_, rfl⟩
  rw [hbln] at h hsl hbl ⊢
  have hcs : (Cs [(⟨g, 0, none⟩, .slice oa bl c)]) w.drew := ⟨cell_of h.bx rfl, trivial⟩
  have F0 := Lib.hid (And.intro hdr (And.intro hcs (And.intro (hsl.keep hdr) (And.intro hnil (And.intro (hd.keep hdr) (And.intro hdn (hdr.block _ hg |>.trans h.bx)))))))
  have HB := Lib.hid (And.intro hbln (And.intro hdl.symm hg))
  have HK := Lib.hid (show ∀ (W : World) (q : Nat), W.heap[q]? = some (.cells #[.int .i64 (dn : Int)] 3) → Calls Try.prog 90 #[.int .i64 2, .slice (some ⟨q, 0, none⟩) 1 1] W fun e w' => ∃ v B, e = .returned v ∧ RB.Own w' W.heap.size v B ∧ B.length = 2 ∧ Below W.heap.size W w' from fun W q hq => (abytes_any (L := [(dn : Int)]) (Rep.sl_one (R := RI) (y := (dn : Int)) hq) 2 (by decide) (by simp [fitsB]; omega) (by decide)).mono fun e w' hh => by simpa using hh)
  have e1 : ((255 : Int) < (dn : Int)) = True := by simp; omega
  have e2 : bits .or .i64 64 16 = 80 := by decide
  clear h hsl hnil hdr hcs hd hdn hbln hdl
  go_enter Try.func88, Try.ntmps88
  go_wp2_with fail
  refine wp_region_T 20 (Cs [(⟨g, 0, none⟩, .slice oa bl c)]) (by kernel_rfl) ?_
  generalize w.drew = W0 at *
  refine T_reads [0, 1, 2, 3, 4, 5, 6, 7, 8, 10, 11, 12, 15] (g := 8) rfl (by kernel_rfl) F0.out.2.1 (fun _ _ d _ _ h => by cases d <;> exact h) ?_
  simp only [pick, List.getD_cons_zero, List.getD_cons_succ]
  ((with_reducible refine wpRead_step (fun K hK => ?_)); go_simp; first | (rw [if_neg (by decide)]; (with_reducible refine hK _ ?_); clear hK K) | ((with_reducible refine hK _ ?_); clear hK K) | (apply Exists.intro; (with_reducible refine ⟨fun w' hw' => ?_, hK _ ?_⟩); (obtain ⟨f0, -⟩ := hw'; dsimp only at f0; go_simp; first | exact rfl | exact ⟨rfl, rfl⟩); clear hK K))
  ((with_reducible refine wpRead_step (fun K hK => ?_)); go_simp; first | (rw [if_neg (by decide)]; (with_reducible refine hK _ ?_); clear hK K) | ((with_reducible refine hK _ ?_); clear hK K) | (apply Exists.intro; (with_reducible refine ⟨fun w' hw' => ?_, hK _ ?_⟩); (obtain ⟨f0, -⟩ := hw'; dsimp only at f0; go_simp; first | exact rfl | exact ⟨rfl, rfl⟩); clear hK K))
  ((with_reducible refine wpRead_step (fun K hK => ?_)); go_simp; first | (rw [if_neg (by decide)]; (with_reducible refine hK _ ?_); clear hK K) | ((with_reducible refine hK _ ?_); clear hK K) | (apply Exists.intro; (with_reducible refine ⟨fun w' hw' => ?_, hK _ ?_⟩); (obtain ⟨f0, -⟩ := hw'; dsimp only at f0; go_simp; first | exact rfl | exact ⟨rfl, rfl⟩); clear hK K))
  ((with_reducible refine wpRead_step (fun K hK => ?_)); go_simp; first | (rw [if_neg (by decide)]; (with_reducible refine hK _ ?_); clear hK K) | ((with_reducible refine hK _ ?_); clear hK K) | (apply Exists.intro; (with_reducible refine ⟨fun w' hw' => ?_, hK _ ?_⟩); (obtain ⟨f0, -⟩ := hw'; dsimp only at f0; go_simp; first | exact rfl | exact ⟨rfl, rfl⟩); clear hK K))
  ((with_reducible refine wpRead_step (fun K hK => ?_)); go_simp; first | (rw [if_neg (by decide)]; (with_reducible refine hK _ ?_); clear hK K) | ((with_reducible refine hK _ ?_); clear hK K) | (apply Exists.intro; (with_reducible refine ⟨fun w' hw' => ?_, hK _ ?_⟩); (obtain ⟨f0, -⟩ := hw'; dsimp only at f0; go_simp; first | exact rfl | exact ⟨rfl, rfl⟩); clear hK K))
  ((with_reducible refine wpRead_step (fun K hK => ?_)); go_simp; first | (rw [if_neg (by decide)]; (with_reducible refine hK _ ?_); clear hK K) | ((with_reducible refine hK _ ?_); clear hK K) | (apply Exists.intro; (with_reducible refine ⟨fun w' hw' => ?_, hK _ ?_⟩); (obtain ⟨f0, -⟩ := hw'; dsimp only at f0; go_simp; first | exact rfl | exact ⟨rfl, rfl⟩); clear hK K))
  ((with_reducible refine wpRead_step (fun K hK => ?_)); go_simp; first | (rw [if_neg (by decide)]; (with_reducible refine hK _ ?_); clear hK K) | ((with_reducible refine hK _ ?_); clear hK K) | (apply Exists.intro; (with_reducible refine ⟨fun w' hw' => ?_, hK _ ?_⟩); (obtain ⟨f0, -⟩ := hw'; dsimp only at f0; go_simp; first | exact rfl | exact ⟨rfl, rfl⟩); clear hK K))
  ((with_reducible refine wpRead_step (fun K hK => ?_)); go_simp; first | (rw [if_neg (by decide)]; (with_reducible refine hK _ ?_); clear hK K) | ((with_reducible refine hK _ ?_); clear hK K) | (apply Exists.intro; (with_reducible refine ⟨fun w' hw' => ?_, hK _ ?_⟩); (obtain ⟨f0, -⟩ := hw'; dsimp only at f0; go_simp; first | exact rfl | exact ⟨rfl, rfl⟩); clear hK K))
  ((with_reducible refine wpRead_step (fun K hK => ?_)); go_simp; first | (rw [if_neg (by decide)]; (with_reducible refine hK _ ?_); clear hK K) | ((with_reducible refine hK _ ?_); clear hK K) | (apply Exists.intro; (with_reducible refine ⟨fun w' hw' => ?_, hK _ ?_⟩); (obtain ⟨f0, -⟩ := hw'; dsimp only at f0; go_simp; first | exact rfl | exact ⟨rfl, rfl⟩); clear hK K))
  ((with_reducible refine wpRead_step (fun K hK => ?_)); go_simp; first | (rw [if_neg (by decide)]; (with_reducible refine hK _ ?_); clear hK K) | ((with_reducible refine hK _ ?_); clear hK K) | (apply Exists.intro; (with_reducible refine ⟨fun w' hw' => ?_, hK _ ?_⟩); (obtain ⟨f0, -⟩ := hw'; dsimp only at f0; go_simp; first | exact rfl | exact ⟨rfl, rfl⟩); clear hK K))
  ((with_reducible refine wpRead_step (fun K hK => ?_)); go_simp; first | (rw [if_neg (by decide)]; (with_reducible refine hK _ ?_); clear hK K) | ((with_reducible refine hK _ ?_); clear hK K) | (apply Exists.intro; (with_reducible refine ⟨fun w' hw' => ?_, hK _ ?_⟩); (obtain ⟨f0, -⟩ := hw'; dsimp only at f0; go_simp; first | exact rfl | exact ⟨rfl, rfl⟩); clear hK K))
  ((with_reducible refine wpRead_step (fun K hK => ?_)); go_simp; first | (rw [if_neg (by decide)]; (with_reducible refine hK _ ?_); clear hK K) | ((with_reducible refine hK _ ?_); clear hK K) | (apply Exists.intro; (with_reducible refine ⟨fun w' hw' => ?_, hK _ ?_⟩); (obtain ⟨f0, -⟩ := hw'; dsimp only at f0; go_simp; first | exact rfl | exact ⟨rfl, rfl⟩); clear hK K))
  ((with_reducible refine wpRead_step (fun K hK => ?_)); go_simp; first | (rw [if_neg (by decide)]; (with_reducible refine hK _ ?_); clear hK K) | ((with_reducible refine hK _ ?_); clear hK K) | (apply Exists.intro; (with_reducible refine ⟨fun w' hw' => ?_, hK _ ?_⟩); (obtain ⟨f0, -⟩ := hw'; dsimp only at f0; go_simp; first | exact rfl | exact ⟨rfl, rfl⟩); clear hK K))
  with_reducible refine wpRead_nil ?_
  refine T_two 9 13 (by kernel_rfl) ?_ ?_
  · simp only [pick, List.getD_cons_zero, List.getD_cons_succ]
    have hal := (Below.refl W0.heap.size W0).alloc (Nat.le_refl _) (.cells #[.int .u8 80, .int .u8 2] 5)
    have hnx : RB.Sl (W0.alloc (.cells #[.int .u8 80, .int .u8 2] 5)) (some ⟨W0.heap.size, 0, none⟩) 2 2 [80, 2] := Rep.sl_flat (R := RB) (M := [80, 2]) (hnew _ _) (by unfold maxLen; simp)
    have F15 := Lib.hid (And.intro (bcall F0.out.1 (Nat.le_refl _) hal) (And.intro (Cs.keep hal F0.out.2.1) (And.intro (F0.out.2.2.1.keep hal) (And.intro F0.out.2.2.2.1 (And.intro (F0.out.2.2.2.2.1.keep hal) (And.intro F0.out.2.2.2.2.2.1 (And.intro ((hal.block _ (lt_of_blk F0.out.2.2.2.2.2.2)).trans F0.out.2.2.2.2.2.2) (hnx))))))))
    clear F0
    clear hal hnx
    go_wp2_with fail
    refine ⟨fun _ => F15.out.2.1, ?_⟩
    generalize W0.alloc (.cells #[.int .u8 80, .int .u8 2] 5) = A1 at *
    generalize W0.heap.size = qP at *
    refine T_one 13 (by kernel_rfl) ?_
    simp only [pick, List.getD_cons_zero, List.getD_cons_succ]
    have hal := (Below.refl A1.heap.size A1).alloc (Nat.le_refl _) (.cells #[.int .i64 (dn : Int)] 3)
    have hnx : (A1.alloc (.cells #[.int .i64 (dn : Int)] 3)).heap[A1.heap.size]? = some (.cells #[.int .i64 (dn : Int)] 3) := hnew _ _
    have F16 := Lib.hid (And.intro (bcall F15.out.1 (Nat.le_refl _) hal) (And.intro (Cs.keep hal F15.out.2.1) (And.intro (F15.out.2.2.1.keep hal) (And.intro F15.out.2.2.2.1 (And.intro (F15.out.2.2.2.2.1.keep hal) (And.intro F15.out.2.2.2.2.2.1 (And.intro ((hal.block _ (lt_of_blk F15.out.2.2.2.2.2.2.1)).trans F15.out.2.2.2.2.2.2.1) (And.intro (F15.out.2.2.2.2.2.2.2.keep hal) (hnx)))))))))
    clear F15
    clear hal hnx
    go_wp2_with fail
    refine ⟨fun _ => F16.out.2.1, ?_⟩
    generalize A1.alloc (.cells #[.int .i64 (dn : Int)] 3) = A2 at *
    generalize A1.heap.size = qL at *
    refine T_one 14 (by kernel_rfl) ?_
    simp only [pick, List.getD_cons_zero, List.getD_cons_succ]
    go_wp2_with fail
    refine (HK.out _ _ F16.out.2.2.2.2.2.2.2.2).mono ?_
    rintro e A3 ⟨v1, B1, rfl, ho1, hl1, hb1⟩
    obtain ⟨oy, cy, rfl, hsy, hny⟩ := ho1.sl0
    rw [hl1] at hsy ⊢
    have F17 := Lib.hid (And.intro (bcall F16.out.1 (Nat.le_refl _) hb1) (And.intro (Cs.keep hb1 F16.out.2.1) (And.intro (F16.out.2.2.1.keep hb1) (And.intro F16.out.2.2.2.1 (And.intro (F16.out.2.2.2.2.1.keep hb1) (And.intro F16.out.2.2.2.2.2.1 (And.intro ((hb1.block _ (lt_of_blk F16.out.2.2.2.2.2.2.1)).trans F16.out.2.2.2.2.2.2.1) (And.intro (F16.out.2.2.2.2.2.2.2.1.keep hb1) (And.intro hsy (And.intro hny (hl1)))))))))))
    clear F16
    clear hb1 ho1 hl1 hsy hny
    go_wp2_with fail
    refine ⟨fun _ => F17.out.2.1, ?_⟩
    refine T_one 16 (by kernel_rfl) ?_
    simp only [pick, List.getD_cons_zero, List.getD_cons_succ]
    have hal := (Below.refl A3.heap.size A3).alloc (Nat.le_refl _) (.cells #[.slice oa bl c, .slice (some ⟨qP, 0, none⟩) 2 2, .slice oy 2 cy, .slice da dn dc] 40)
    have hvs : RH.Sl (A3.alloc (.cells #[.slice oa bl c, .slice (some ⟨qP, 0, none⟩) 2 2, .slice oy 2 cy, .slice da dn dc] 40)) (some ⟨A3.heap.size, 0, none⟩) 4 4 [(oa, bl, c), (some ⟨qP, 0, none⟩, 2, 2), (oy, 2, cy), (da, dn, dc)] := Rep.sl_flat (R := RH) (M := [(oa, bl, c), (some ⟨qP, 0, none⟩, 2, 2), (oy, 2, cy), (da, dn, dc)]) (hnew _ _) (by unfold maxLen; simp)
    have hbs : BSS (A3.alloc (.cells #[.slice oa bl c, .slice (some ⟨qP, 0, none⟩) 2 2, .slice oy 2 cy, .slice da dn dc] 40)) [(oa, bl, c), (some ⟨qP, 0, none⟩, 2, 2), (oy, 2, cy), (da, dn, dc)] [B, [80, 2], B1, D] := BSS.cons (F17.out.2.2.1.keep hal) F17.out.2.2.2.1 (BSS.cons (F17.out.2.2.2.2.2.2.2.1.keep hal) (fun h => by cases h) (BSS.cons (F17.out.2.2.2.2.2.2.2.2.1.keep hal) F17.out.2.2.2.2.2.2.2.2.2.1 (BSS.cons (F17.out.2.2.2.2.1.keep hal) F17.out.2.2.2.2.2.1 BSS.nil)))
    have HT1 := Lib.hid F17.out.2.2.2.2.2.2.2.2.2.2
    have F18 := Lib.hid (And.intro (bcall F17.out.1 (Nat.le_refl _) hal) (And.intro (Cs.keep hal F17.out.2.1) (And.intro ((hal.block _ (lt_of_blk F17.out.2.2.2.2.2.2.1)).trans F17.out.2.2.2.2.2.2.1) (And.intro hvs (hbs)))))
    clear F17
    clear hal hvs hbs
    go_wp2_with fail
    refine ⟨fun _ => F18.out.2.1, ?_⟩
    generalize A3.alloc (.cells #[.slice oa bl c, .slice (some ⟨qP, 0, none⟩) 2 2, .slice oy 2 cy, .slice da dn dc] 40) = A8 at *
    generalize A3.heap.size = q8 at *
    refine T_one 17 (by kernel_rfl) ?_
    simp only [pick, List.getD_cons_zero, List.getD_cons_succ]
    go_wp2_with fail
    have hlq : lsum [B, [80, 2], B1, D] = bl + 4 + dn := by
      have h1 := HB.out.1
      have h2 := HB.out.2.1
      have h3 := HT1.out
      unfold lsum
      simp only [List.flatten_cons, List.flatten_nil, List.length_append, List.length_cons, List.length_nil]
      omega
    refine (concat_any F18.out.2.2.2.1 F18.out.2.2.2.2 (by decide) (by rw [hlq]; omega)).mono ?_
    rintro e A9 ⟨v9, rfl, ho9, hb9⟩
    have ho9' := ho9.mono (show w.heap.size ≤ A8.heap.size from F18.out.1.size)
    obtain ⟨o9, c9, rfl, -, -⟩ := ho9.sl0
    have HQ := Lib.hid hlq
    have F19 := Lib.hid (And.intro (bcall F18.out.1 (Nat.le_refl _) hb9) (And.intro (Cs.keep hb9 F18.out.2.1) (And.intro ((hb9.block _ (lt_of_blk F18.out.2.2.1)).trans F18.out.2.2.1) (ho9'))))
    clear F18
    clear hb9 ho9 ho9' hlq
    have hle : [B, [80, 2], B1, D].flatten.length = bl + 4 + dn := HQ.out
    rw [hle] at F19 ⊢
    clear hle
    go_wp2_with fail
    refine ⟨fun _ => F19.out.2.1, ?_⟩
    refine T_reads [18, 19] (g := 1) rfl (by kernel_rfl) F19.out.2.1 (fun _ _ d _ _ h => by cases d <;> exact h) ?_
    simp only [pick, List.getD_cons_zero, List.getD_cons_succ]
    ((with_reducible refine wpRead_step (fun K hK => ?_)); go_simp; first | (rw [if_neg (by decide)]; (with_reducible refine hK _ ?_); clear hK K) | ((with_reducible refine hK _ ?_); clear hK K) | (apply Exists.intro; (with_reducible refine ⟨fun w' hw' => ?_, hK _ ?_⟩); (obtain ⟨f0, -⟩ := hw'; dsimp only at f0; go_simp; first | exact rfl | exact ⟨rfl, rfl⟩); clear hK K))
    ((with_reducible refine wpRead_step (fun K hK => ?_)); go_simp; first | (rw [if_neg (by decide)]; (with_reducible refine hK _ ?_); clear hK K) | ((with_reducible refine hK _ ?_); clear hK K) | (apply Exists.intro; (with_reducible refine ⟨fun w' hw' => ?_, hK _ ?_⟩); (obtain ⟨f0, -⟩ := hw'; dsimp only at f0; go_simp; first | exact rfl | exact ⟨rfl, rfl⟩); clear hK K))
    with_reducible refine wpRead_nil ?_
    refine T_one 20 (by kernel_rfl) ?_
    simp only [pick, List.getD_cons_zero, List.getD_cons_succ]
    have c0 := F19.out.2.1.1
    dsimp only at c0
    have e0 : A9.frozen? ⟨g, 0, none⟩ = false := free_of F19.out.2.2.1
    have HBT := Lib.hid ((But.of_below F19.out.1 [g]).setCell (a := ⟨g, 0, none⟩) (.inr (by simp)) (.slice o9 (bl + 4 + dn) c9))
    have hst := setCell_blk F19.out.2.2.1 0 (.slice o9 (bl + 4 + dn) c9)
    have hoo : RB.Own (A9.setCell ⟨g, 0, none⟩ (.slice o9 (bl + 4 + dn) c9)) w.heap.size (.slice o9 (bl + 4 + dn) c9) [B, [80, 2], B1, D].flatten := Rep.Own.but F19.out.2.2.2 ((But.refl A9 [g]).setCell (a := ⟨g, 0, none⟩) (.inr (by simp)) _) (by simpa using HB.out.2.2)
    have HW := Lib.hid (And.intro hst hoo)
    clear hst hoo
    go_wp2_with fail
    refine ⟨fun h => absurd rfl h, ?_⟩
    refine T_done (by kernel_rfl) ?_ _
    go_wp2_with fail
    go_end0
    exact ⟨rfl, ⟨_, _, ⟨HW.out.1, HW.out.2, HB.out.2.2⟩, HQ.out⟩, HBT.out⟩
  · simp only [pick, List.getD_cons_zero, List.getD_cons_succ]
    have hal := (Below.refl W0.heap.size W0).alloc (Nat.le_refl _) (.cells #[.int .i64 (dn : Int)] 3)
    have hnx : (W0.alloc (.cells #[.int .i64 (dn : Int)] 3)).heap[W0.heap.size]? = some (.cells #[.int .i64 (dn : Int)] 3) := hnew _ _
    have F20 := Lib.hid (And.intro (bcall F0.out.1 (Nat.le_refl _) hal) (And.intro (Cs.keep hal F0.out.2.1) (And.intro (F0.out.2.2.1.keep hal) (And.intro F0.out.2.2.2.1 (And.intro (F0.out.2.2.2.2.1.keep hal) (And.intro F0.out.2.2.2.2.2.1 (And.intro ((hal.block _ (lt_of_blk F0.out.2.2.2.2.2.2)).trans F0.out.2.2.2.2.2.2) (hnx))))))))
    clear F0
    clear hal hnx
    go_wp2_with fail
    refine ⟨fun _ => F20.out.2.1, ?_⟩
    generalize W0.alloc (.cells #[.int .i64 (dn : Int)] 3) = A4 at *
    generalize W0.heap.size = qL at *
    refine T_two 9 14 (by kernel_rfl) ?_ ?_
    · simp only [pick, List.getD_cons_zero, List.getD_cons_succ]
      have hal := (Below.refl A4.heap.size A4).alloc (Nat.le_refl _) (.cells #[.int .u8 80, .int .u8 2] 5)
      have hnx : RB.Sl (A4.alloc (.cells #[.int .u8 80, .int .u8 2] 5)) (some ⟨A4.heap.size, 0, none⟩) 2 2 [80, 2] := Rep.sl_flat (R := RB) (M := [80, 2]) (hnew _ _) (by unfold maxLen; simp)
      have F21 := Lib.hid (And.intro (bcall F20.out.1 (Nat.le_refl _) hal) (And.intro (Cs.keep hal F20.out.2.1) (And.intro (F20.out.2.2.1.keep hal) (And.intro F20.out.2.2.2.1 (And.intro (F20.out.2.2.2.2.1.keep hal) (And.intro F20.out.2.2.2.2.2.1 (And.intro ((hal.block _ (lt_of_blk F20.out.2.2.2.2.2.2.1)).trans F20.out.2.2.2.2.2.2.1) (And.intro ((hal.block _ (lt_of_blk F20.out.2.2.2.2.2.2.2)).trans F20.out.2.2.2.2.2.2.2) (hnx)))))))))
      clear F20
      clear hal hnx
      go_wp2_with fail
      refine ⟨fun _ => F21.out.2.1, ?_⟩
      generalize A4.alloc (.cells #[.int .u8 80, .int .u8 2] 5) = A5 at *
      generalize A4.heap.size = qP at *
      refine T_one 14 (by kernel_rfl) ?_
      simp only [pick, List.getD_cons_zero, List.getD_cons_succ]
      go_wp2_with fail
      refine (HK.out _ _ F21.out.2.2.2.2.2.2.2.1).mono ?_
      rintro e A6 ⟨v1, B1, rfl, ho1, hl1, hb1⟩
      obtain ⟨oy, cy, rfl, hsy, hny⟩ := ho1.sl0
      rw [hl1] at hsy ⊢
      have F22 := Lib.hid (And.intro (bcall F21.out.1 (Nat.le_refl _) hb1) (And.intro (Cs.keep hb1 F21.out.2.1) (And.intro (F21.out.2.2.1.keep hb1) (And.intro F21.out.2.2.2.1 (And.intro (F21.out.2.2.2.2.1.keep hb1) (And.intro F21.out.2.2.2.2.2.1 (And.intro ((hb1.block _ (lt_of_blk F21.out.2.2.2.2.2.2.1)).trans F21.out.2.2.2.2.2.2.1) (And.intro (F21.out.2.2.2.2.2.2.2.2.keep hb1) (And.intro hsy (And.intro hny (hl1)))))))))))
      clear F21
      clear hb1 ho1 hl1 hsy hny
      go_wp2_with fail
      refine ⟨fun _ => F22.out.2.1, ?_⟩
      refine T_one 16 (by kernel_rfl) ?_
      simp only [pick, List.getD_cons_zero, List.getD_cons_succ]
      have hal := (Below.refl A6.heap.size A6).alloc (Nat.le_refl _) (.cells #[.slice oa bl c, .slice (some ⟨qP, 0, none⟩) 2 2, .slice oy 2 cy, .slice da dn dc] 40)
      have hvs : RH.Sl (A6.alloc (.cells #[.slice oa bl c, .slice (some ⟨qP, 0, none⟩) 2 2, .slice oy 2 cy, .slice da dn dc] 40)) (some ⟨A6.heap.size, 0, none⟩) 4 4 [(oa, bl, c), (some ⟨qP, 0, none⟩, 2, 2), (oy, 2, cy), (da, dn, dc)] := Rep.sl_flat (R := RH) (M := [(oa, bl, c), (some ⟨qP, 0, none⟩, 2, 2), (oy, 2, cy), (da, dn, dc)]) (hnew _ _) (by unfold maxLen; simp)
      have hbs : BSS (A6.alloc (.cells #[.slice oa bl c, .slice (some ⟨qP, 0, none⟩) 2 2, .slice oy 2 cy, .slice da dn dc] 40)) [(oa, bl, c), (some ⟨qP, 0, none⟩, 2, 2), (oy, 2, cy), (da, dn, dc)] [B, [80, 2], B1, D] := BSS.cons (F22.out.2.2.1.keep hal) F22.out.2.2.2.1 (BSS.cons (F22.out.2.2.2.2.2.2.2.1.keep hal) (fun h => by cases h) (BSS.cons (F22.out.2.2.2.2.2.2.2.2.1.keep hal) F22.out.2.2.2.2.2.2.2.2.2.1 (BSS.cons (F22.out.2.2.2.2.1.keep hal) F22.out.2.2.2.2.2.1 BSS.nil)))
      have HT1 := Lib.hid F22.out.2.2.2.2.2.2.2.2.2.2
      have F23 := Lib.hid (And.intro (bcall F22.out.1 (Nat.le_refl _) hal) (And.intro (Cs.keep hal F22.out.2.1) (And.intro ((hal.block _ (lt_of_blk F22.out.2.2.2.2.2.2.1)).trans F22.out.2.2.2.2.2.2.1) (And.intro hvs (hbs)))))
      clear F22
      clear hal hvs hbs
      go_wp2_with fail
      refine ⟨fun _ => F23.out.2.1, ?_⟩
      generalize A6.alloc (.cells #[.slice oa bl c, .slice (some ⟨qP, 0, none⟩) 2 2, .slice oy 2 cy, .slice da dn dc] 40) = A8 at *
      generalize A6.heap.size = q8 at *
      refine T_one 17 (by kernel_rfl) ?_
      simp only [pick, List.getD_cons_zero, List.getD_cons_succ]
      go_wp2_with fail
      have hlq : lsum [B, [80, 2], B1, D] = bl + 4 + dn := by
        have h1 := HB.out.1
        have h2 := HB.out.2.1
        have h3 := HT1.out
        unfold lsum
        simp only [List.flatten_cons, List.flatten_nil, List.length_append, List.length_cons, List.length_nil]
        omega
      refine (concat_any F23.out.2.2.2.1 F23.out.2.2.2.2 (by decide) (by rw [hlq]; omega)).mono ?_
      rintro e A9 ⟨v9, rfl, ho9, hb9⟩
      have ho9' := ho9.mono (show w.heap.size ≤ A8.heap.size from F23.out.1.size)
      obtain ⟨o9, c9, rfl, -, -⟩ := ho9.sl0
      have HQ := Lib.hid hlq
      have F24 := Lib.hid (And.intro (bcall F23.out.1 (Nat.le_refl _) hb9) (And.intro (Cs.keep hb9 F23.out.2.1) (And.intro ((hb9.block _ (lt_of_blk F23.out.2.2.1)).trans F23.out.2.2.1) (ho9'))))
      clear F23
      clear hb9 ho9 ho9' hlq
      have hle : [B, [80, 2], B1, D].flatten.length = bl + 4 + dn := HQ.out
      rw [hle] at F24 ⊢
      clear hle
      go_wp2_with fail
      refine ⟨fun _ => F24.out.2.1, ?_⟩
      refine T_reads [18, 19] (g := 1) rfl (by kernel_rfl) F24.out.2.1 (fun _ _ d _ _ h => by cases d <;> exact h) ?_
      simp only [pick, List.getD_cons_zero, List.getD_cons_succ]
      ((with_reducible refine wpRead_step (fun K hK => ?_)); go_simp; first | (rw [if_neg (by decide)]; (with_reducible refine hK _ ?_); clear hK K) | ((with_reducible refine hK _ ?_); clear hK K) | (apply Exists.intro; (with_reducible refine ⟨fun w' hw' => ?_, hK _ ?_⟩); (obtain ⟨f0, -⟩ := hw'; dsimp only at f0; go_simp; first | exact rfl | exact ⟨rfl, rfl⟩); clear hK K))
      ((with_reducible refine wpRead_step (fun K hK => ?_)); go_simp; first | (rw [if_neg (by decide)]; (with_reducible refine hK _ ?_); clear hK K) | ((with_reducible refine hK _ ?_); clear hK K) | (apply Exists.intro; (with_reducible refine ⟨fun w' hw' => ?_, hK _ ?_⟩); (obtain ⟨f0, -⟩ := hw'; dsimp only at f0; go_simp; first | exact rfl | exact ⟨rfl, rfl⟩); clear hK K))
      with_reducible refine wpRead_nil ?_
      refine T_one 20 (by kernel_rfl) ?_
      simp only [pick, List.getD_cons_zero, List.getD_cons_succ]
      have c0 := F24.out.2.1.1
      dsimp only at c0
      have e0 : A9.frozen? ⟨g, 0, none⟩ = false := free_of F24.out.2.2.1
      have HBT := Lib.hid ((But.of_below F24.out.1 [g]).setCell (a := ⟨g, 0, none⟩) (.inr (by simp)) (.slice o9 (bl + 4 + dn) c9))
      have hst := setCell_blk F24.out.2.2.1 0 (.slice o9 (bl + 4 + dn) c9)
      have hoo : RB.Own (A9.setCell ⟨g, 0, none⟩ (.slice o9 (bl + 4 + dn) c9)) w.heap.size (.slice o9 (bl + 4 + dn) c9) [B, [80, 2], B1, D].flatten := Rep.Own.but F24.out.2.2.2 ((But.refl A9 [g]).setCell (a := ⟨g, 0, none⟩) (.inr (by simp)) _) (by simpa using HB.out.2.2)
      have HW := Lib.hid (And.intro hst hoo)
      clear hst hoo
      go_wp2_with fail
      refine ⟨fun h => absurd rfl h, ?_⟩
      refine T_done (by kernel_rfl) ?_ _
      go_wp2_with fail
      go_end0
      exact ⟨rfl, ⟨_, _, ⟨HW.out.1, HW.out.2, HB.out.2.2⟩, HQ.out⟩, HBT.out⟩
    · simp only [pick, List.getD_cons_zero, List.getD_cons_succ]
      go_wp2_with fail
      refine (HK.out _ _ F20.out.2.2.2.2.2.2.2).mono ?_
      rintro e A7 ⟨v1, B1, rfl, ho1, hl1, hb1⟩
      obtain ⟨oy, cy, rfl, hsy, hny⟩ := ho1.sl0
      rw [hl1] at hsy ⊢
      have F25 := Lib.hid (And.intro (bcall F20.out.1 (Nat.le_refl _) hb1) (And.intro (Cs.keep hb1 F20.out.2.1) (And.intro (F20.out.2.2.1.keep hb1) (And.intro F20.out.2.2.2.1 (And.intro (F20.out.2.2.2.2.1.keep hb1) (And.intro F20.out.2.2.2.2.2.1 (And.intro ((hb1.block _ (lt_of_blk F20.out.2.2.2.2.2.2.1)).trans F20.out.2.2.2.2.2.2.1) (And.intro hsy (And.intro hny (hl1))))))))))
      clear F20
      clear hb1 ho1 hl1 hsy hny
      go_wp2_with fail
      refine ⟨fun _ => F25.out.2.1, ?_⟩
      refine T_one 9 (by kernel_rfl) ?_
      simp only [pick, List.getD_cons_zero, List.getD_cons_succ]
      have hal := (Below.refl A7.heap.size A7).alloc (Nat.le_refl _) (.cells #[.int .u8 80, .int .u8 2] 5)
      have hnx : RB.Sl (A7.alloc (.cells #[.int .u8 80, .int .u8 2] 5)) (some ⟨A7.heap.size, 0, none⟩) 2 2 [80, 2] := Rep.sl_flat (R := RB) (M := [80, 2]) (hnew _ _) (by unfold maxLen; simp)
      have F26 := Lib.hid (And.intro (bcall F25.out.1 (Nat.le_refl _) hal) (And.intro (Cs.keep hal F25.out.2.1) (And.intro (F25.out.2.2.1.keep hal) (And.intro F25.out.2.2.2.1 (And.intro (F25.out.2.2.2.2.1.keep hal) (And.intro F25.out.2.2.2.2.2.1 (And.intro ((hal.block _ (lt_of_blk F25.out.2.2.2.2.2.2.1)).trans F25.out.2.2.2.2.2.2.1) (And.intro (F25.out.2.2.2.2.2.2.2.1.keep hal) (And.intro F25.out.2.2.2.2.2.2.2.2.1 (And.intro F25.out.2.2.2.2.2.2.2.2.2 (hnx)))))))))))
      clear F25
      clear hal hnx
      go_wp2_with fail
      refine ⟨fun _ => F26.out.2.1, ?_⟩
      generalize A7.alloc (.cells #[.int .u8 80, .int .u8 2] 5) = A8 at *
      generalize A7.heap.size = qP at *
      refine T_one 16 (by kernel_rfl) ?_
      simp only [pick, List.getD_cons_zero, List.getD_cons_succ]
      have hal := (Below.refl A8.heap.size A8).alloc (Nat.le_refl _) (.cells #[.slice oa bl c, .slice (some ⟨qP, 0, none⟩) 2 2, .slice oy 2 cy, .slice da dn dc] 40)
      have hvs : RH.Sl (A8.alloc (.cells #[.slice oa bl c, .slice (some ⟨qP, 0, none⟩) 2 2, .slice oy 2 cy, .slice da dn dc] 40)) (some ⟨A8.heap.size, 0, none⟩) 4 4 [(oa, bl, c), (some ⟨qP, 0, none⟩, 2, 2), (oy, 2, cy), (da, dn, dc)] := Rep.sl_flat (R := RH) (M := [(oa, bl, c), (some ⟨qP, 0, none⟩, 2, 2), (oy, 2, cy), (da, dn, dc)]) (hnew _ _) (by unfold maxLen; simp)
      have hbs : BSS (A8.alloc (.cells #[.slice oa bl c, .slice (some ⟨qP, 0, none⟩) 2 2, .slice oy 2 cy, .slice da dn dc] 40)) [(oa, bl, c), (some ⟨qP, 0, none⟩, 2, 2), (oy, 2, cy), (da, dn, dc)] [B, [80, 2], B1, D] := BSS.cons (F26.out.2.2.1.keep hal) F26.out.2.2.2.1 (BSS.cons (F26.out.2.2.2.2.2.2.2.2.2.2.keep hal) (fun h => by cases h) (BSS.cons (F26.out.2.2.2.2.2.2.2.1.keep hal) F26.out.2.2.2.2.2.2.2.2.1 (BSS.cons (F26.out.2.2.2.2.1.keep hal) F26.out.2.2.2.2.2.1 BSS.nil)))
      have HT1 := Lib.hid F26.out.2.2.2.2.2.2.2.2.2.1
      have F27 := Lib.hid (And.intro (bcall F26.out.1 (Nat.le_refl _) hal) (And.intro (Cs.keep hal F26.out.2.1) (And.intro ((hal.block _ (lt_of_blk F26.out.2.2.2.2.2.2.1)).trans F26.out.2.2.2.2.2.2.1) (And.intro hvs (hbs)))))
      clear F26
      clear hal hvs hbs
      go_wp2_with fail
      refine ⟨fun _ => F27.out.2.1, ?_⟩
      generalize A8.alloc (.cells #[.slice oa bl c, .slice (some ⟨qP, 0, none⟩) 2 2, .slice oy 2 cy, .slice da dn dc] 40) = A8 at *
      generalize A8.heap.size = q8 at *
      refine T_one 17 (by kernel_rfl) ?_
      simp only [pick, List.getD_cons_zero, List.getD_cons_succ]
      go_wp2_with fail
      have hlq : lsum [B, [80, 2], B1, D] = bl + 4 + dn := by
        have h1 := HB.out.1
        have h2 := HB.out.2.1
        have h3 := HT1.out
        unfold lsum
        simp only [List.flatten_cons, List.flatten_nil, List.length_append, List.length_cons, List.length_nil]
        omega
      refine (concat_any F27.out.2.2.2.1 F27.out.2.2.2.2 (by decide) (by rw [hlq]; omega)).mono ?_
      rintro e A9 ⟨v9, rfl, ho9, hb9⟩
      have ho9' := ho9.mono (show w.heap.size ≤ A8.heap.size from F27.out.1.size)
      obtain ⟨o9, c9, rfl, -, -⟩ := ho9.sl0
      have HQ := Lib.hid hlq
      have F28 := Lib.hid (And.intro (bcall F27.out.1 (Nat.le_refl _) hb9) (And.intro (Cs.keep hb9 F27.out.2.1) (And.intro ((hb9.block _ (lt_of_blk F27.out.2.2.1)).trans F27.out.2.2.1) (ho9'))))
      clear F27
      clear hb9 ho9 ho9' hlq
      have hle : [B, [80, 2], B1, D].flatten.length = bl + 4 + dn := HQ.out
      rw [hle] at F28 ⊢
      clear hle
      go_wp2_with fail
      refine ⟨fun _ => F28.out.2.1, ?_⟩
      refine T_reads [18, 19] (g := 1) rfl (by kernel_rfl) F28.out.2.1 (fun _ _ d _ _ h => by cases d <;> exact h) ?_
      simp only [pick, List.getD_cons_zero, List.getD_cons_succ]
      ((with_reducible refine wpRead_step (fun K hK => ?_)); go_simp; first | (rw [if_neg (by decide)]; (with_reducible refine hK _ ?_); clear hK K) | ((with_reducible refine hK _ ?_); clear hK K) | (apply Exists.intro; (with_reducible refine ⟨fun w' hw' => ?_, hK _ ?_⟩); (obtain ⟨f0, -⟩ := hw'; dsimp only at f0; go_simp; first | exact rfl | exact ⟨rfl, rfl⟩); clear hK K))
      ((with_reducible refine wpRead_step (fun K hK => ?_)); go_simp; first | (rw [if_neg (by decide)]; (with_reducible refine hK _ ?_); clear hK K) | ((with_reducible refine hK _ ?_); clear hK K) | (apply Exists.intro; (with_reducible refine ⟨fun w' hw' => ?_, hK _ ?_⟩); (obtain ⟨f0, -⟩ := hw'; dsimp only at f0; go_simp; first | exact rfl | exact ⟨rfl, rfl⟩); clear hK K))
      with_reducible refine wpRead_nil ?_
      refine T_one 20 (by kernel_rfl) ?_
      simp only [pick, List.getD_cons_zero, List.getD_cons_succ]
      have c0 := F28.out.2.1.1
      dsimp only at c0
      have e0 : A9.frozen? ⟨g, 0, none⟩ = false := free_of F28.out.2.2.1
      have HBT := Lib.hid ((But.of_below F28.out.1 [g]).setCell (a := ⟨g, 0, none⟩) (.inr (by simp)) (.slice o9 (bl + 4 + dn) c9))
      have hst := setCell_blk F28.out.2.2.1 0 (.slice o9 (bl + 4 + dn) c9)
      have hoo : RB.Own (A9.setCell ⟨g, 0, none⟩ (.slice o9 (bl + 4 + dn) c9)) w.heap.size (.slice o9 (bl + 4 + dn) c9) [B, [80, 2], B1, D].flatten := Rep.Own.but F28.out.2.2.2 ((But.refl A9 [g]).setCell (a := ⟨g, 0, none⟩) (.inr (by simp)) _) (by simpa using HB.out.2.2)
      have HW := Lib.hid (And.intro hst hoo)
      clear hst hoo
      go_wp2_with fail
      refine ⟨fun h => absurd rfl h, ?_⟩
      refine T_done (by kernel_rfl) ?_ _
      go_wp2_with fail
      go_end0
      exact ⟨rfl, ⟨_, _, ⟨HW.out.1, HW.out.2, HB.out.2.2⟩, HQ.out⟩, HBT.out⟩
end Go.Proofs.Ytadoflcomienoaa
