/- Timers: At, Set, Stop. -/
import Derived.Test.YtfmehahjjgalfaaEa
namespace Go.Proofs.Ytfmehahjjgalfaa.Tim
open Go.RowKit
open Go.ChangeMaps (setBlock)

def KS (q : Nat) (k : TK) (w : World) : Prop := w.heap[q]? = some (.cells #[.int .i64 k.1, .int .i64 k.2] 31)
theorem KS.cells {q : Nat} {k : TK} {w : World} (h : KS q k w) : w.cell? ⟨q, 0, none⟩ = some (.int .i64 k.1) ∧ w.cell? ⟨q, 1, none⟩ = some (.int .i64 k.2) := ⟨cell_of h rfl, cell_of h rfl⟩
theorem KS.on {q : Nat} {k : TK} {w w' : World} (h : KS q k w) (hb : w'.heap[q]? = w.heap[q]?) : KS q k w' := hb.trans h
def kv (k : TK) : Value := .agg #[.int .i64 k.1, .int .i64 k.2]
theorem at_nil (k : TK) (w : World) : Calls Try.prog 25 #[.pointer none, kv k] w fun e w' => e = .returned (.tuple #[.int .i64 0, .bool false]) ∧ Below w.heap.size w w' := by
  have HB := Lib.hid ((Below.refl w.heap.size w).alloc (Nat.le_refl _) (.cells #[.int .i64 k.1, .int .i64 k.2] 31))
  unfold kv
  go_enter Try.func25, Try.ntmps25
  go_wp2_with fail
  go_ret2
  exact ⟨rfl, HB.out⟩
set_option maxRecDepth 100000 in
theorem at_any {w : World} {t bm : Nat} {L : List Tm} (H : TimAt w t bm L) {k : TK} (hk : TN.ok k) : Calls Try.prog 25 #[.pointer (some ⟨t, 0, none⟩), kv k] w fun e w' => e = .returned (.tuple #[.int .i64 (atO L k), .bool (hasT L k)]) ∧ Below w.heap.size w w' := by
  have hal := (Below.refl w.heap.size w).alloc (Nat.le_refl _) (.cells #[.int .i64 k.1, .int .i64 k.2] 31)
  have hks : KS w.heap.size k (w.alloc (.cells #[.int .i64 k.1, .int .i64 k.2] 31)) := hnew _ _
  have hlk := fun (W' : World) (h : W'.heap[bm]? = (w.alloc (.cells #[.int .i64 k.1, .int .i64 k.2] 31)).heap[bm]?) => (H.keep hal).lookup hk W' h
  have F := Lib.hid (And.intro hal (And.intro hks (And.intro (H.keep hal) hlk)))
  clear hal hks hlk H
  unfold kv
  generalize atO L k = n at *
  generalize hasT L k = hs at *
  go_enter Try.func25, Try.ntmps25
  go_wp2_with fail
  refine wp_region_heldP (SameAt [t, bm, w.heap.size] (w.alloc (.cells #[.int .i64 k.1, .int .i64 k.2] 31))) (by kernel_rfl) ?_
  have hc := show ∀ w', SameAt [t, bm, w.heap.size] (w.alloc (.cells #[.int .i64 k.1, .int .i64 k.2] 31)) w' → w'.cell? ⟨t, 0, none⟩ = some (.map (some bm)) ∧ w'.cell? ⟨w.heap.size, 0, none⟩ = some (.int .i64 k.1) ∧ w'.cell? ⟨w.heap.size, 1, none⟩ = some (.int .i64 k.2) ∧ (Instr.lookup 104 (.map (some bm)) (.agg #[.int .i64 k.1, .int .i64 k.2]) true).run Try.prog w' = .ok (.tuple #[.int .i64 n, .bool hs]) w' from fun w' hw' => by
    obtain ⟨g0, g1⟩ := (F.out.2.1.on (hw' w.heap.size (by simp))).cells
    exact ⟨(cell_same (hw' t (by simp))).trans F.out.2.2.1.c0, g0, g1, F.out.2.2.2 w' (hw' bm (by simp))⟩
  have HC := Lib.hid hc
  have hd := (Below.refl (w.alloc (.cells #[.int .i64 k.1, .int .i64 k.2] 31)).heap.size (w.alloc (.cells #[.int .i64 k.1, .int .i64 k.2] 31))).drew
  have F2 := Lib.hid (And.intro (bcall F.out.1 (Nat.le_refl _) hd) (show SameAt [t, bm, w.heap.size] (w.alloc (.cells #[.int .i64 k.1, .int .i64 k.2] 31)) (w.alloc (.cells #[.int .i64 k.1, .int .i64 k.2] 31)).drew from SameAt.refl _ _))
  have HSO := Lib.hid (And.intro (show KS w.heap.size k (w.alloc (.cells #[.int .i64 k.1, .int .i64 k.2] 31)).drew from F.out.2.1) (show TimAt (w.alloc (.cells #[.int .i64 k.1, .int .i64 k.2] 31)).drew t bm L from F.out.2.2.1.on rfl rfl))
  clear hc hd F
  refine held_reads [0, 1, 2, 3, 4, 5, 6, 7, 8] (g := 2) rfl (by kernel_rfl) F2.out.2 (fun _ _ d _ _ h => by cases d <;> exact h) ?_
  simp only [pick, List.getD_cons_zero, List.getD_cons_succ]
  ((with_reducible refine wpRead_step (fun K hK => ?_)); go_simp; first | ((with_reducible refine hK _ ?_); clear hK K) | (apply Exists.intro; (with_reducible refine ⟨fun w' hw' => ?_, hK _ ?_⟩); (first | exact rfl | exact ⟨rfl, rfl⟩); clear hK K))
  ((with_reducible refine wpRead_step (fun K hK => ?_)); go_simp; first | ((with_reducible refine hK _ ?_); clear hK K) | (apply Exists.intro; (with_reducible refine ⟨fun w' hw' => ?_, hK _ ?_⟩); (first | exact rfl | exact ⟨rfl, rfl⟩); clear hK K))
  ((with_reducible refine wpRead_step (fun K hK => ?_)); go_simp; first | ((with_reducible refine hK _ ?_); clear hK K) | (apply Exists.intro; (with_reducible refine ⟨fun w' hw' => ?_, hK _ ?_⟩); (first | exact rfl | exact ⟨rfl, rfl⟩); clear hK K))
  ((with_reducible refine wpRead_step (fun K hK => ?_)); go_simp; first | ((with_reducible refine hK _ ?_); clear hK K) | (apply Exists.intro; (with_reducible refine ⟨fun w' hw' => ?_, hK _ ?_⟩); (obtain ⟨f0, f1, f2, l0⟩ := HC.out w' hw'; go_simp; first | exact rfl | exact ⟨rfl, rfl⟩); clear hK K))
  ((with_reducible refine wpRead_step (fun K hK => ?_)); go_simp; first | ((with_reducible refine hK _ ?_); clear hK K) | (apply Exists.intro; (with_reducible refine ⟨fun w' hw' => ?_, hK _ ?_⟩); (obtain ⟨f0, f1, f2, l0⟩ := HC.out w' hw'; go_simp; first | exact rfl | exact ⟨rfl, rfl⟩); clear hK K))
  ((with_reducible refine wpRead_step (fun K hK => ?_)); go_simp; first | ((with_reducible refine hK _ ?_); clear hK K) | (apply Exists.intro; (with_reducible refine ⟨fun w' hw' => ?_, hK _ ?_⟩); (obtain ⟨f0, f1, f2, l0⟩ := HC.out w' hw'; go_simp; first | exact rfl | exact ⟨rfl, rfl⟩); clear hK K))
  ((with_reducible refine wpRead_step (fun K hK => ?_)); go_simp; first | ((with_reducible refine hK _ ?_); clear hK K) | (apply Exists.intro; (with_reducible refine ⟨fun w' hw' => ?_, hK _ ?_⟩); (first | exact rfl | exact ⟨rfl, rfl⟩); clear hK K))
  ((with_reducible refine wpRead_step (fun K hK => ?_)); go_simp; first | ((with_reducible refine hK _ ?_); clear hK K) | (apply Exists.intro; (with_reducible refine ⟨fun w' hw' => ?_, hK _ ?_⟩); (first | exact rfl | exact ⟨rfl, rfl⟩); clear hK K))
  ((with_reducible refine wpRead_step (fun K hK => ?_)); go_simp; first | ((with_reducible refine hK _ ?_); clear hK K) | (apply Exists.intro; (with_reducible refine ⟨fun w' hw' => ?_, hK _ ?_⟩); (first | exact rfl | exact ⟨rfl, rfl⟩); clear hK K))
  with_reducible refine wpRead_nil ?_
  refine held_one 9 (by kernel_rfl) ?_
  simp only [pick, List.getD_cons_zero, List.getD_cons_succ]
  go_wp2_with fail
  refine ⟨F2.out.2, ?_⟩
  refine held_one 10 (by kernel_rfl) ?_
  simp only [pick, List.getD_cons_zero, List.getD_cons_succ]
  go_wp2_with fail
  refine ⟨F2.out.2, ?_⟩
  refine wpAnyH_done (by kernel_rfl) ?_ _
  go_wp2_with fail
  go_ret2
  exact ⟨rfl, F2.out.1⟩
def setTE (L : List Tm) (k : TK) (n : Int) : Int := if n < 0 ∨ 9007199254740991 < n then 1 else (if !hasT L k && decide (1024 ≤ L.length) then 2 else 0)
theorem set_nil (k : TK) (n : Int) (w : World) : Calls Try.prog 18 #[.pointer none, kv k, .int .i64 n] w fun e w' => e = .returned (.int .i64 6) ∧ Below w.heap.size w w' := by
  have HB := Lib.hid ((Below.refl w.heap.size w).alloc (Nat.le_refl _) (.cells #[.int .i64 k.1, .int .i64 k.2] 31))
  unfold kv
  go_enter Try.func18, Try.ntmps18
  go_wp2_with fail
  go_ret
  exact ⟨rfl, HB.out⟩
structure MSet (w w' : World) (t bm : Nat) (L : List Tm) (k : TK) (n : Int) : Prop where
  tab : TimAt w' t bm (if setTE L k n = 0 then setT L ⟨k, n⟩ else L)
  but : But w w' [bm]
set_option maxRecDepth 100000 in
set_option maxHeartbeats 2000000 in
theorem set_any {w : World} {t bm : Nat} {L : List Tm} (H : TimAt w t bm L) {k : TK} (hk : TN.ok k) (n : Int) : Calls Try.prog 18 #[.pointer (some ⟨t, 0, none⟩), kv k, .int .i64 n] w fun e w' => e = .returned (.int .i64 (setTE L k n)) ∧ MSet w w' t bm L k n := by
  have hal := (Below.refl w.heap.size w).alloc (Nat.le_refl _) (.cells #[.int .i64 k.1, .int .i64 k.2] 31)
  have hks : KS w.heap.size k (w.alloc (.cells #[.int .i64 k.1, .int .i64 k.2] 31)) := hnew _ _
  have HT := Lib.hid (H.keep hal)
  have hlk := fun (W' : World) (h : W'.heap[bm]? = (w.alloc (.cells #[.int .i64 k.1, .int .i64 k.2] 31)).heap[bm]?) => (H.keep hal).lookup hk W' h
  have hlen := fun (W' : World) (h : W'.heap[bm]? = (w.alloc (.cells #[.int .i64 k.1, .int .i64 k.2] 31)).heap[bm]?) ty => (H.keep hal).len W' h ty
  have F := Lib.hid (And.intro hal (And.intro hks (And.intro (H.keep hal) hlk)))
  have HLN := Lib.hid hlen
  have HK := Lib.hid hk
  have c0 := (H.keep hal).c0
  have hne : (binOp BinOp.eql 104 (.map (some bm)) (.map none)).run Try.prog (w.alloc (.cells #[.int .i64 k.1, .int .i64 k.2] 31)) = .ok (.bool false) (w.alloc (.cells #[.int .i64 k.1, .int .i64 k.2] 31)) := by kernel_rfl
  obtain ⟨hs, hhs⟩ : ∃ hs, hasT L k = hs := ⟨_, rfl⟩
  obtain ⟨nl, hnl⟩ : ∃ nl, L.length = nl := ⟨_, rfl⟩
  have HE := Lib.hid (show setTE L k n = if n < 0 ∨ 9007199254740991 < n then 1 else (if !hs && decide (1024 ≤ nl) then 2 else 0) from by unfold setTE; rw [hhs, hnl])
  rw [hhs] at F
  rw [hnl] at HLN
  clear hal hks hlk hlen H hhs hnl hk
  unfold kv
  generalize atO L k = a0 at *
  go_enter Try.func18, Try.ntmps18
  go_wp2_with fail
  clear hne
  refine wp_region_heldP (SameAt [t, bm, w.heap.size] (w.alloc (.cells #[.int .i64 k.1, .int .i64 k.2] 31))) (by kernel_rfl) ?_
  have hc := show ∀ w', SameAt [t, bm, w.heap.size] (w.alloc (.cells #[.int .i64 k.1, .int .i64 k.2] 31)) w' → w'.cell? ⟨t, 0, none⟩ = some (.map (some bm)) ∧ w'.cell? ⟨w.heap.size, 0, none⟩ = some (.int .i64 k.1) ∧ w'.cell? ⟨w.heap.size, 1, none⟩ = some (.int .i64 k.2) ∧ (Instr.lookup 104 (.map (some bm)) (.agg #[.int .i64 k.1, .int .i64 k.2]) true).run Try.prog w' = .ok (.tuple #[.int .i64 a0, .bool hs]) w' from fun w' hw' => by
    obtain ⟨g0, g1⟩ := (F.out.2.1.on (hw' w.heap.size (by simp))).cells
    exact ⟨(cell_same (hw' t (by simp))).trans F.out.2.2.1.c0, g0, g1, F.out.2.2.2 w' (hw' bm (by simp))⟩
  have HC := Lib.hid hc
  have hd := (Below.refl (w.alloc (.cells #[.int .i64 k.1, .int .i64 k.2] 31)).heap.size (w.alloc (.cells #[.int .i64 k.1, .int .i64 k.2] 31))).drew
  have F2 := Lib.hid (And.intro (bcall F.out.1 (Nat.le_refl _) hd) (show SameAt [t, bm, w.heap.size] (w.alloc (.cells #[.int .i64 k.1, .int .i64 k.2] 31)) (w.alloc (.cells #[.int .i64 k.1, .int .i64 k.2] 31)).drew from SameAt.refl _ _))
  have HSO := Lib.hid (And.intro (show KS w.heap.size k (w.alloc (.cells #[.int .i64 k.1, .int .i64 k.2] 31)).drew from F.out.2.1) (show TimAt (w.alloc (.cells #[.int .i64 k.1, .int .i64 k.2] 31)).drew t bm L from F.out.2.2.1.on rfl rfl))
  clear hc hd F
  refine held_reads [0, 1, 2, 3, 4, 5, 6, 7, 8] (g := 2) rfl (by kernel_rfl) F2.out.2 (fun _ _ d _ _ h => by cases d <;> exact h) ?_
  simp only [pick, List.getD_cons_zero, List.getD_cons_succ]
  ((with_reducible refine wpRead_step (fun K hK => ?_)); go_simp; first | ((with_reducible refine hK _ ?_); clear hK K) | (apply Exists.intro; (with_reducible refine ⟨fun w' hw' => ?_, hK _ ?_⟩); (first | exact rfl | exact ⟨rfl, rfl⟩); clear hK K))
  ((with_reducible refine wpRead_step (fun K hK => ?_)); go_simp; first | ((with_reducible refine hK _ ?_); clear hK K) | (apply Exists.intro; (with_reducible refine ⟨fun w' hw' => ?_, hK _ ?_⟩); (first | exact rfl | exact ⟨rfl, rfl⟩); clear hK K))
  ((with_reducible refine wpRead_step (fun K hK => ?_)); go_simp; first | ((with_reducible refine hK _ ?_); clear hK K) | (apply Exists.intro; (with_reducible refine ⟨fun w' hw' => ?_, hK _ ?_⟩); (first | exact rfl | exact ⟨rfl, rfl⟩); clear hK K))
  ((with_reducible refine wpRead_step (fun K hK => ?_)); go_simp; first | ((with_reducible refine hK _ ?_); clear hK K) | (apply Exists.intro; (with_reducible refine ⟨fun w' hw' => ?_, hK _ ?_⟩); (obtain ⟨f0, f1, f2, l0⟩ := HC.out w' hw'; go_simp; first | exact rfl | exact ⟨rfl, rfl⟩); clear hK K))
  ((with_reducible refine wpRead_step (fun K hK => ?_)); go_simp; first | ((with_reducible refine hK _ ?_); clear hK K) | (apply Exists.intro; (with_reducible refine ⟨fun w' hw' => ?_, hK _ ?_⟩); (obtain ⟨f0, f1, f2, l0⟩ := HC.out w' hw'; go_simp; first | exact rfl | exact ⟨rfl, rfl⟩); clear hK K))
  ((with_reducible refine wpRead_step (fun K hK => ?_)); go_simp; first | ((with_reducible refine hK _ ?_); clear hK K) | (apply Exists.intro; (with_reducible refine ⟨fun w' hw' => ?_, hK _ ?_⟩); (obtain ⟨f0, f1, f2, l0⟩ := HC.out w' hw'; go_simp; first | exact rfl | exact ⟨rfl, rfl⟩); clear hK K))
  ((with_reducible refine wpRead_step (fun K hK => ?_)); go_simp; first | ((with_reducible refine hK _ ?_); clear hK K) | (apply Exists.intro; (with_reducible refine ⟨fun w' hw' => ?_, hK _ ?_⟩); (first | exact rfl | exact ⟨rfl, rfl⟩); clear hK K))
  ((with_reducible refine wpRead_step (fun K hK => ?_)); go_simp; first | ((with_reducible refine hK _ ?_); clear hK K) | (apply Exists.intro; (with_reducible refine ⟨fun w' hw' => ?_, hK _ ?_⟩); (first | exact rfl | exact ⟨rfl, rfl⟩); clear hK K))
  ((with_reducible refine wpRead_step (fun K hK => ?_)); go_simp; first | ((with_reducible refine hK _ ?_); clear hK K) | (apply Exists.intro; (with_reducible refine ⟨fun w' hw' => ?_, hK _ ?_⟩); (first | exact rfl | exact ⟨rfl, rfl⟩); clear hK K))
  with_reducible refine wpRead_nil ?_
  refine held_one 9 (by kernel_rfl) ?_
  simp only [pick, List.getD_cons_zero, List.getD_cons_succ]
  go_wp2_with fail
  refine ⟨F2.out.2, ?_⟩
  refine held_one 10 (by kernel_rfl) ?_
  simp only [pick, List.getD_cons_zero, List.getD_cons_succ]
  go_wp2_with fail
  refine ⟨F2.out.2, ?_⟩
  refine wpAnyH_done (by kernel_rfl) ?_ _
  have HBQ := Lib.hid (show (w.alloc (.cells #[.int .i64 k.1, .int .i64 k.2] 31)).drew.heap[bm]? = (w.alloc (.cells #[.int .i64 k.1, .int .i64 k.2] 31)).heap[bm]? from rfl)
  have F3 := Lib.hid (And.intro F2.out.1 HSO.out)
  clear HC F2 HSO c0
  have c0 := F3.out.2.2.c0
  have hln := fun ty => HLN.out (w.alloc (.cells #[.int .i64 k.1, .int .i64 k.2] 31)).drew HBQ.out ty
  obtain ⟨z0, z1⟩ := F3.out.2.1.cells
  clear HLN HBQ
  generalize (w.alloc (.cells #[.int .i64 k.1, .int .i64 k.2] 31)).drew = W5 at *
  obtain ⟨q, hq⟩ : ∃ q, w.heap.size = q := ⟨_, rfl⟩
  rw [hq] at z0 z1 ⊢
  clear hq
  by_cases h1 : n < 0
  · have h1t : (n < 0) = True := by simp [h1]
    have hE : setTE L k n = 1 := by rw [HE.out, if_pos (.inl h1)]
    have HE1 := Lib.hid hE
    clear hE h1
    go_wp2_with fail
    go_ret
    exact ⟨ret_int HE1.out.symm, by rw [HE1.out]; exact F3.out.2.2, But.of_below F3.out.1 _⟩
  have h1f : (n < 0) = False := by simp; omega
  by_cases h2 : 9007199254740991 < n
  · have h2t : (9007199254740991 < n) = True := by simp [h2]
    have hE : setTE L k n = 1 := by rw [HE.out, if_pos (.inr h2)]
    have HE1 := Lib.hid hE
    clear hE h1 h2
    go_wp2_with fail
    go_ret
    exact ⟨ret_int HE1.out.symm, by rw [HE1.out]; exact F3.out.2.2, But.of_below F3.out.1 _⟩
  have h2f : (9007199254740991 < n) = False := by simp; omega
  have hE0 : setTE L k n = (if !hs && decide (1024 ≤ nl) then 2 else 0) := by rw [HE.out, if_neg (by omega)]
  have HE0 := Lib.hid hE0
  clear hE0 h1 h2 HE
  cases hs with
  | true =>
    have HE1 := Lib.hid (show setTE L k n = 0 from HE0.out)
    obtain ⟨O, hup, htab⟩ := (F3.out.2.2.on (w' := W5.drew) rfl rfl).update HK.out n
    have F5 := Lib.hid (And.intro htab ((But.of_below F3.out.1 [bm]).drew.setBlock (b := bm) (.inr (by simp)) O))
    clear htab
    go_wp2_with fail
    refine wp_region_pieces (by kernel_rfl) ?_
    refine wpAny_seg (fun w' => w' = W5.drew) [0, 1, 2, 3, 4, 5] (g := 1) rfl (by kernel_rfl) rfl ?_
    simp only [pick, List.getD_cons_zero, List.getD_cons_succ]
    iterate 6 ((with_reducible refine wpQuiet_step (fun K hK => ?_)); go_simp; first | ((with_reducible refine hK _ ?_); clear hK K) | (apply Exists.intro; (with_reducible refine ⟨fun w' hw' => ?_, hK _ ?_⟩); (subst hw'; go_simp; first | exact rfl | exact ⟨rfl, rfl⟩); clear hK K))
    refine wpQuiet_nil ?_
    rintro _ rfl
    refine wpAny_one 6 (by kernel_rfl) ?_
    simp only [pick, List.getD_cons_zero, List.getD_cons_succ]
    go_wp2_with fail
    refine wpAny_done (by kernel_rfl) ?_ _
    go_wp2_with fail
    go_ret
    exact ⟨ret_int HE1.out.symm, by rw [HE1.out, if_pos rfl]; exact F5.out.1, F5.out.2⟩
  | false =>
    by_cases h4 : 1024 ≤ nl
    · have h4t : ((1024 : Int) ≤ (nl : Int)) = True := by simp; omega
      have HE1 := Lib.hid (show setTE L k n = 2 from by rw [HE0.out]; simp [h4])
      clear h4
      go_wp2_with fail
      go_ret
      exact ⟨ret_int HE1.out.symm, by rw [HE1.out]; exact F3.out.2.2, But.of_below F3.out.1 _⟩
    · have h4t : ((1024 : Int) ≤ (nl : Int)) = False := by simp; omega
      have HE1 := Lib.hid (show setTE L k n = 0 from by rw [HE0.out]; simp [h4])
      clear h4
      obtain ⟨O, hup, htab⟩ := (F3.out.2.2.on (w' := W5.drew) rfl rfl).update HK.out n
      have F5 := Lib.hid (And.intro htab ((But.of_below F3.out.1 [bm]).drew.setBlock (b := bm) (.inr (by simp)) O))
      clear htab
      go_wp2_with fail
      refine wp_region_pieces (by kernel_rfl) ?_
      refine wpAny_seg (fun w' => w' = W5.drew) [0, 1, 2, 3, 4, 5] (g := 1) rfl (by kernel_rfl) rfl ?_
      simp only [pick, List.getD_cons_zero, List.getD_cons_succ]
      iterate 6 ((with_reducible refine wpQuiet_step (fun K hK => ?_)); go_simp; first | ((with_reducible refine hK _ ?_); clear hK K) | (apply Exists.intro; (with_reducible refine ⟨fun w' hw' => ?_, hK _ ?_⟩); (subst hw'; go_simp; first | exact rfl | exact ⟨rfl, rfl⟩); clear hK K))
      refine wpQuiet_nil ?_
      rintro _ rfl
      refine wpAny_one 6 (by kernel_rfl) ?_
      simp only [pick, List.getD_cons_zero, List.getD_cons_succ]
      go_wp2_with fail
      refine wpAny_done (by kernel_rfl) ?_ _
      go_wp2_with fail
      go_ret
      exact ⟨ret_int HE1.out.symm, by rw [HE1.out, if_pos rfl]; exact F5.out.1, F5.out.2⟩
end Go.Proofs.Ytfmehahjjgalfaa.Tim
