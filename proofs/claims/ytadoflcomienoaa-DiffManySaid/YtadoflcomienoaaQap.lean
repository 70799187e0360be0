/- What lives says of prefixes; what is said of a route. -/
import Derived.Test.YtadoflcomienoaaQao
import Derived.Test.YtadoflcomienoaaQam
import Derived.Test.YtadoflcomienoaaQaf
import Derived.Test.YtadoflcomienoaaQal
namespace Go.Proofs.Ytadoflcomienoaa
open Go.RowKit

set_option maxRecDepth 100000 in
theorem ten_1 (w : World) : Calls Try.prog 19 #[.int .i64 1] w fun e w' => e = .returned (.agg #[.int .u32 167837696, .int .i64 16]) ∧ Below w.heap.size w w' := by
  have hal := (Below.refl w.heap.size w).alloc (Nat.le_refl _) (.cells #[.int .u32 0, .int .i64 0] 33)
  have F := Lib.hid (And.intro hal (hnew w (.cells #[.int .u32 0, .int .i64 0] 33)))
  clear hal
  go_enter Try.func19, Try.ntmps19
  go_wp2_with (with_reducible refine halt_store 33 (x := .tmp 2) rfl ?_)
  refine Halted.go ?_
  generalize w.alloc (.cells #[.int .u32 0, .int .i64 0] 33) = W1 at *
  refine store_whole rfl 33 _ _ rfl w.heap.size #[.int .u32 167837696, .int .i64 16] rfl rfl F.out.2 rfl (by kernel_rfl) (by simp [Value.oneCell']) ?_
  intro W2 hwz hsz
  have HZ := Lib.hid (And.intro hwz (F.out.1.trans (hsz.below (Nat.le_refl _))))
  clear hwz hsz
  go_wp2_with fail
  refine ret_cell rfl rfl rfl HZ.out.1 Try.underlying33 rfl (by kernel_rfl) ?_
  exact ⟨rfl, HZ.out.2⟩
set_option maxRecDepth 100000 in
theorem ten_2 (w : World) : Calls Try.prog 19 #[.int .i64 2] w fun e w' => e = .returned (.agg #[.int .u32 167903232, .int .i64 16]) ∧ Below w.heap.size w w' := by
  have hal := (Below.refl w.heap.size w).alloc (Nat.le_refl _) (.cells #[.int .u32 0, .int .i64 0] 33)
  have F := Lib.hid (And.intro hal (hnew w (.cells #[.int .u32 0, .int .i64 0] 33)))
  clear hal
  go_enter Try.func19, Try.ntmps19
  go_wp2_with (with_reducible refine halt_store 33 (x := .tmp 2) rfl ?_)
  refine Halted.go ?_
  generalize w.alloc (.cells #[.int .u32 0, .int .i64 0] 33) = W1 at *
  refine store_whole rfl 33 _ _ rfl w.heap.size #[.int .u32 167903232, .int .i64 16] rfl rfl F.out.2 rfl (by kernel_rfl) (by simp [Value.oneCell']) ?_
  intro W2 hwz hsz
  have HZ := Lib.hid (And.intro hwz (F.out.1.trans (hsz.below (Nat.le_refl _))))
  clear hwz hsz
  go_wp2_with fail
  refine ret_cell rfl rfl rfl HZ.out.1 Try.underlying33 rfl (by kernel_rfl) ?_
  exact ⟨rfl, HZ.out.2⟩
set_option maxRecDepth 100000 in
theorem ten_3 (w : World) : Calls Try.prog 19 #[.int .i64 3] w fun e w' => e = .returned (.agg #[.int .u32 167968768, .int .i64 16]) ∧ Below w.heap.size w w' := by
  have hal := (Below.refl w.heap.size w).alloc (Nat.le_refl _) (.cells #[.int .u32 0, .int .i64 0] 33)
  have F := Lib.hid (And.intro hal (hnew w (.cells #[.int .u32 0, .int .i64 0] 33)))
  clear hal
  go_enter Try.func19, Try.ntmps19
  go_wp2_with (with_reducible refine halt_store 33 (x := .tmp 2) rfl ?_)
  refine Halted.go ?_
  generalize w.alloc (.cells #[.int .u32 0, .int .i64 0] 33) = W1 at *
  refine store_whole rfl 33 _ _ rfl w.heap.size #[.int .u32 167968768, .int .i64 16] rfl rfl F.out.2 rfl (by kernel_rfl) (by simp [Value.oneCell']) ?_
  intro W2 hwz hsz
  have HZ := Lib.hid (And.intro hwz (F.out.1.trans (hsz.below (Nat.le_refl _))))
  clear hwz hsz
  go_wp2_with fail
  refine ret_cell rfl rfl rfl HZ.out.1 Try.underlying33 rfl (by kernel_rfl) ?_
  exact ⟨rfl, HZ.out.2⟩
set_option maxRecDepth 100000 in
theorem ten_4 (w : World) : Calls Try.prog 19 #[.int .i64 4] w fun e w' => e = .returned (.agg #[.int .u32 168034304, .int .i64 16]) ∧ Below w.heap.size w w' := by
  have hal := (Below.refl w.heap.size w).alloc (Nat.le_refl _) (.cells #[.int .u32 0, .int .i64 0] 33)
  have F := Lib.hid (And.intro hal (hnew w (.cells #[.int .u32 0, .int .i64 0] 33)))
  clear hal
  go_enter Try.func19, Try.ntmps19
  go_wp2_with (with_reducible refine halt_store 33 (x := .tmp 2) rfl ?_)
  refine Halted.go ?_
  generalize w.alloc (.cells #[.int .u32 0, .int .i64 0] 33) = W1 at *
  refine store_whole rfl 33 _ _ rfl w.heap.size #[.int .u32 168034304, .int .i64 16] rfl rfl F.out.2 rfl (by kernel_rfl) (by simp [Value.oneCell']) ?_
  intro W2 hwz hsz
  have HZ := Lib.hid (And.intro hwz (F.out.1.trans (hsz.below (Nat.le_refl _))))
  clear hwz hsz
  go_wp2_with fail
  refine ret_cell rfl rfl rfl HZ.out.1 Try.underlying33 rfl (by kernel_rfl) ?_
  exact ⟨rfl, HZ.out.2⟩
def saidI (nx : Int) : At := ⟨0, [(false, [7])], nx, -1, -1, []⟩
def sayI (a : Nat) (nx : Int) : Sy := ⟨(a, 16), saidI nx⟩
set_option maxRecDepth 100000 in
theorem said_any (nx : Int) (hnx : 0 ≤ nx ∧ nx ≤ 4294967295) (w : World) : Calls Try.prog 32 #[.int .i64 7, .int .u32 nx] w fun e w' => ∃ y : AtV, e = .returned y.v ∧ AtOk w' y ∧ NewA w.heap.size y ∧ y.at = saidI nx ∧ Below w.heap.size w w' := by
  have hal := (((Below.refl w.heap.size w).alloc (Nat.le_refl _) (.cells #[.int .i64 0, .slice none 0 0, .int .u32 0, .int .i64 0, .int .i64 0, .slice none 0 0] 26)).alloc (by simp) (.cells #[.int .i64 7] 3)).alloc (by simp; omega) (.cells #[.bool false, .slice (some ⟨w.heap.size + 1, 0, none⟩) 1 1] 53)
  have h0 : (((w.alloc (.cells #[.int .i64 0, .slice none 0 0, .int .u32 0, .int .i64 0, .int .i64 0, .slice none 0 0] 26)).alloc (.cells #[.int .i64 7] 3)).alloc (.cells #[.bool false, .slice (some ⟨w.heap.size + 1, 0, none⟩) 1 1] 53)).heap[w.heap.size]? = some (.cells #[.int .i64 0, .slice none 0 0, .int .u32 0, .int .i64 0, .int .i64 0, .slice none 0 0] 26) := hold (hold (hnew _ _))
  have h1 : (((w.alloc (.cells #[.int .i64 0, .slice none 0 0, .int .u32 0, .int .i64 0, .int .i64 0, .slice none 0 0] 26)).alloc (.cells #[.int .i64 7] 3)).alloc (.cells #[.bool false, .slice (some ⟨w.heap.size + 1, 0, none⟩) 1 1] 53)).heap[w.heap.size + 1]? = some (.cells #[.int .i64 7] 3) := hold (hnewAt (by simp))
  have h2 : (((w.alloc (.cells #[.int .i64 0, .slice none 0 0, .int .u32 0, .int .i64 0, .int .i64 0, .slice none 0 0] 26)).alloc (.cells #[.int .i64 7] 3)).alloc (.cells #[.bool false, .slice (some ⟨w.heap.size + 1, 0, none⟩) 1 1] 53)).heap[w.heap.size + 2]? = some (.cells #[.bool false, .slice (some ⟨w.heap.size + 1, 0, none⟩) 1 1] 53) := hnewAt (by simp)
  have F := Lib.hid (And.intro hal (And.intro h0 (And.intro h1 (And.intro h2 hnx))))
  clear hal h0 h1 h2 hnx
  go_enter Try.func32, Try.ntmps32
  go_wp2_with (with_reducible refine halt_store 26 (x := .tmp 4) rfl ?_)
  refine Halted.go ?_
  refine store_whole rfl 26 _ _ rfl w.heap.size #[.int .i64 0, .slice (some ⟨w.heap.size + 2, 0, none⟩) 1 1, .int .u32 nx, .int .i64 (-1), .int .i64 (-1), .slice none 0 0] rfl rfl F.out.2.1 rfl (by kernel_rfl) (by simp [Value.oneCell']) ?_
  intro W2 hwz hsz
  have hy : AtOk W2 ⟨0, ⟨some ⟨w.heap.size + 2, 0, none⟩, 1, 1, [⟨false, ⟨some ⟨w.heap.size + 1, 0, none⟩, 1, 1, [7]⟩⟩]⟩, nx, -1, -1, ⟨none, 0, 0, []⟩⟩ := by
    have g1 := (hsz.other (show w.heap.size + 1 ≠ w.heap.size by omega)).trans F.out.2.2.1
    have g2 := (hsz.other (show w.heap.size + 2 ≠ w.heap.size by omega)).trans F.out.2.2.2.1
    have s1 : SlOk RI OkI W2 ⟨some ⟨w.heap.size + 1, 0, none⟩, 1, 1, [7]⟩ := ⟨Rep.sl_one (R := RI) (y := (7 : Int)) g1, (fun h => by cases h), Nat.le_refl _, by show 1 ≤ maxLen; unfold maxLen; omega, fun n hn => by rw [List.mem_singleton] at hn; subst hn; show I64 7; unfold I64; decide⟩
    refine ⟨⟨Rep.sl_one (R := RSg) (y := (⟨false, ⟨some ⟨w.heap.size + 1, 0, none⟩, 1, 1, [7]⟩⟩ : SgV)) g2, (fun h => by cases h), Nat.le_refl _, by show 1 ≤ maxLen; unfold maxLen; omega, fun s hs => by rw [List.mem_singleton] at hs; subst hs; exact s1⟩, slZ, by show I64 0; unfold I64; decide, F.out.2.2.2.2, by show I64 (-1); unfold I64; decide, by show I64 (-1); unfold I64; decide⟩
  have hnw : NewA w.heap.size ⟨0, ⟨some ⟨w.heap.size + 2, 0, none⟩, 1, 1, [⟨false, ⟨some ⟨w.heap.size + 1, 0, none⟩, 1, 1, [7]⟩⟩]⟩, nx, -1, -1, ⟨none, 0, 0, []⟩⟩ := ⟨(fun _ a e => by injection e with e; subst e; exact Nat.le_add_right _ _), (fun _ a e => by cases e), (fun z hz => by rw [List.mem_singleton] at hz; subst hz; exact fun _ a e => by injection e with e; subst e; exact Nat.le_add_right _ _)⟩
  have HZ := Lib.hid (And.intro hwz (And.intro (And.intro hy hnw) (F.out.1.trans (hsz.below (Nat.le_refl _)))))
  clear hwz hsz hy hnw
  go_wp2_with fail
  refine ret_cell rfl rfl rfl HZ.out.1 Try.underlying26 rfl (by kernel_rfl) ?_
  exact ⟨_, rfl, HZ.out.2.1.1, HZ.out.2.1.2, rfl, HZ.out.2.2⟩
set_option maxRecDepth 100000 in
theorem say_1_9 (w : World) : Calls Try.prog 17 #[.int .i64 1, .int .u32 9] w fun e w' => ∃ x : SyV, e = .returned x.v ∧ SyOk w' x ∧ x.sy = sayI 167837696 9 ∧ Below w.heap.size w w' := by
  have hal := (Below.refl w.heap.size w).alloc (Nat.le_refl _) (.cells #[.int .u32 0, .int .i64 0, .int .i64 0, .slice none 0 0, .int .u32 0, .int .i64 0, .int .i64 0, .slice none 0 0] 35)
  have F := Lib.hid (And.intro hal (hnew w (.cells #[.int .u32 0, .int .i64 0, .int .i64 0, .slice none 0 0, .int .u32 0, .int .i64 0, .int .i64 0, .slice none 0 0] 35)))
  have HT := Lib.hid (fun W => ten_1 W)
  have HS := Lib.hid (fun W => said_any 9 (by decide) W)
  unfold AtV.v at HS
  clear hal
  go_enter Try.func17, Try.ntmps17
  go_wp2_with fail
  generalize w.alloc (.cells #[.int .u32 0, .int .i64 0, .int .i64 0, .slice none 0 0, .int .u32 0, .int .i64 0, .int .i64 0, .slice none 0 0] 35) = W0 at *
  refine (HT.out _).mono ?_
  rintro e W1 ⟨rfl, hb⟩
  have F1 := Lib.hid (And.intro (bcall F.out.1 (Nat.le_refl _) hb) ((hb.block _ (lt_of_blk F.out.2)).trans F.out.2))
  clear hb HT F
  go_wp2_with fail
  refine (HS.out _).mono ?_
  rintro e W2 ⟨y, rfl, hy, hyn, hya, hb⟩
  have F2 := Lib.hid (And.intro (bcall F1.out.1 (Nat.le_refl _) hb) (And.intro ((hb.block _ (lt_of_blk F1.out.2)).trans F1.out.2) (And.intro hy hya)))
  have F3 := Lib.hid (show Firm (some w.heap.size) W2 (fun W => AtOk W y) from by
    exact hy.firm (hyn.far fun k hk => by injection hk with hk; rw [← hk]; exact lt_of_blk F1.out.2))
  clear hb HS F1 hy hya hyn
  go_wp2_with (with_reducible refine halt_store 35 (x := .tmp 4) rfl ?_)
  refine Halted.go ?_
  refine store_whole rfl 35 _ _ rfl w.heap.size #[.int .u32 167837696, .int .i64 16, .int .i64 y.o, .slice y.p.a y.p.n y.p.c, .int .u32 y.nx, .int .i64 y.md, .int .i64 y.pf, .slice y.c.a y.c.n y.c.c] rfl rfl F2.out.2.1 rfl (by kernel_rfl) (by simp [Value.oneCell']) ?_
  intro W3 hwz hsz
  have hy3 : AtOk W3 y := F3.out W3 ⟨hsz.os, hsz.tape, hsz.output, by rw [hsz.size]; exact Nat.le_refl _, fun k _ hne => hsz.other (fun e => hne (by rw [e]))⟩
  have HZ := Lib.hid (And.intro hwz (And.intro hy3 (F2.out.1.trans (hsz.below (Nat.le_refl _)))))
  clear hwz hsz hy3
  go_wp2_with fail
  refine ret_cell rfl rfl rfl HZ.out.1 Try.underlying35 rfl (by kernel_rfl) ?_
  refine ⟨⟨(167837696, 16), y⟩, rfl, ⟨⟨by show 167837696 < 4294967296; omega, by show I64 16; unfold I64; decide⟩, HZ.out.2.1⟩, ?_, HZ.out.2.2⟩
  unfold SyV.sy sayI
  rw [F2.out.2.2.2]
set_option maxRecDepth 100000 in
theorem say_2_9 (w : World) : Calls Try.prog 17 #[.int .i64 2, .int .u32 9] w fun e w' => ∃ x : SyV, e = .returned x.v ∧ SyOk w' x ∧ x.sy = sayI 167903232 9 ∧ Below w.heap.size w w' := by
  have hal := (Below.refl w.heap.size w).alloc (Nat.le_refl _) (.cells #[.int .u32 0, .int .i64 0, .int .i64 0, .slice none 0 0, .int .u32 0, .int .i64 0, .int .i64 0, .slice none 0 0] 35)
  have F := Lib.hid (And.intro hal (hnew w (.cells #[.int .u32 0, .int .i64 0, .int .i64 0, .slice none 0 0, .int .u32 0, .int .i64 0, .int .i64 0, .slice none 0 0] 35)))
  have HT := Lib.hid (fun W => ten_2 W)
  have HS := Lib.hid (fun W => said_any 9 (by decide) W)
  unfold AtV.v at HS
  clear hal
  go_enter Try.func17, Try.ntmps17
  go_wp2_with fail
  generalize w.alloc (.cells #[.int .u32 0, .int .i64 0, .int .i64 0, .slice none 0 0, .int .u32 0, .int .i64 0, .int .i64 0, .slice none 0 0] 35) = W0 at *
  refine (HT.out _).mono ?_
  rintro e W1 ⟨rfl, hb⟩
  have F1 := Lib.hid (And.intro (bcall F.out.1 (Nat.le_refl _) hb) ((hb.block _ (lt_of_blk F.out.2)).trans F.out.2))
  clear hb HT F
  go_wp2_with fail
  refine (HS.out _).mono ?_
  rintro e W2 ⟨y, rfl, hy, hyn, hya, hb⟩
  have F2 := Lib.hid (And.intro (bcall F1.out.1 (Nat.le_refl _) hb) (And.intro ((hb.block _ (lt_of_blk F1.out.2)).trans F1.out.2) (And.intro hy hya)))
  have F3 := Lib.hid (show Firm (some w.heap.size) W2 (fun W => AtOk W y) from by
    exact hy.firm (hyn.far fun k hk => by injection hk with hk; rw [← hk]; exact lt_of_blk F1.out.2))
  clear hb HS F1 hy hya hyn
  go_wp2_with (with_reducible refine halt_store 35 (x := .tmp 4) rfl ?_)
  refine Halted.go ?_
  refine store_whole rfl 35 _ _ rfl w.heap.size #[.int .u32 167903232, .int .i64 16, .int .i64 y.o, .slice y.p.a y.p.n y.p.c, .int .u32 y.nx, .int .i64 y.md, .int .i64 y.pf, .slice y.c.a y.c.n y.c.c] rfl rfl F2.out.2.1 rfl (by kernel_rfl) (by simp [Value.oneCell']) ?_
  intro W3 hwz hsz
  have hy3 : AtOk W3 y := F3.out W3 ⟨hsz.os, hsz.tape, hsz.output, by rw [hsz.size]; exact Nat.le_refl _, fun k _ hne => hsz.other (fun e => hne (by rw [e]))⟩
  have HZ := Lib.hid (And.intro hwz (And.intro hy3 (F2.out.1.trans (hsz.below (Nat.le_refl _)))))
  clear hwz hsz hy3
  go_wp2_with fail
  refine ret_cell rfl rfl rfl HZ.out.1 Try.underlying35 rfl (by kernel_rfl) ?_
  refine ⟨⟨(167903232, 16), y⟩, rfl, ⟨⟨by show 167903232 < 4294967296; omega, by show I64 16; unfold I64; decide⟩, HZ.out.2.1⟩, ?_, HZ.out.2.2⟩
  unfold SyV.sy sayI
  rw [F2.out.2.2.2]
set_option maxRecDepth 100000 in
theorem say_3_8 (w : World) : Calls Try.prog 17 #[.int .i64 3, .int .u32 8] w fun e w' => ∃ x : SyV, e = .returned x.v ∧ SyOk w' x ∧ x.sy = sayI 167968768 8 ∧ Below w.heap.size w w' := by
  have hal := (Below.refl w.heap.size w).alloc (Nat.le_refl _) (.cells #[.int .u32 0, .int .i64 0, .int .i64 0, .slice none 0 0, .int .u32 0, .int .i64 0, .int .i64 0, .slice none 0 0] 35)
  have F := Lib.hid (And.intro hal (hnew w (.cells #[.int .u32 0, .int .i64 0, .int .i64 0, .slice none 0 0, .int .u32 0, .int .i64 0, .int .i64 0, .slice none 0 0] 35)))
  have HT := Lib.hid (fun W => ten_3 W)
  have HS := Lib.hid (fun W => said_any 8 (by decide) W)
  unfold AtV.v at HS
  clear hal
  go_enter Try.func17, Try.ntmps17
  go_wp2_with fail
  generalize w.alloc (.cells #[.int .u32 0, .int .i64 0, .int .i64 0, .slice none 0 0, .int .u32 0, .int .i64 0, .int .i64 0, .slice none 0 0] 35) = W0 at *
  refine (HT.out _).mono ?_
  rintro e W1 ⟨rfl, hb⟩
  have F1 := Lib.hid (And.intro (bcall F.out.1 (Nat.le_refl _) hb) ((hb.block _ (lt_of_blk F.out.2)).trans F.out.2))
  clear hb HT F
  go_wp2_with fail
  refine (HS.out _).mono ?_
  rintro e W2 ⟨y, rfl, hy, hyn, hya, hb⟩
  have F2 := Lib.hid (And.intro (bcall F1.out.1 (Nat.le_refl _) hb) (And.intro ((hb.block _ (lt_of_blk F1.out.2)).trans F1.out.2) (And.intro hy hya)))
  have F3 := Lib.hid (show Firm (some w.heap.size) W2 (fun W => AtOk W y) from by
    exact hy.firm (hyn.far fun k hk => by injection hk with hk; rw [← hk]; exact lt_of_blk F1.out.2))
  clear hb HS F1 hy hya hyn
  go_wp2_with (with_reducible refine halt_store 35 (x := .tmp 4) rfl ?_)
  refine Halted.go ?_
  refine store_whole rfl 35 _ _ rfl w.heap.size #[.int .u32 167968768, .int .i64 16, .int .i64 y.o, .slice y.p.a y.p.n y.p.c, .int .u32 y.nx, .int .i64 y.md, .int .i64 y.pf, .slice y.c.a y.c.n y.c.c] rfl rfl F2.out.2.1 rfl (by kernel_rfl) (by simp [Value.oneCell']) ?_
  intro W3 hwz hsz
  have hy3 : AtOk W3 y := F3.out W3 ⟨hsz.os, hsz.tape, hsz.output, by rw [hsz.size]; exact Nat.le_refl _, fun k _ hne => hsz.other (fun e => hne (by rw [e]))⟩
  have HZ := Lib.hid (And.intro hwz (And.intro hy3 (F2.out.1.trans (hsz.below (Nat.le_refl _)))))
  clear hwz hsz hy3
  go_wp2_with fail
  refine ret_cell rfl rfl rfl HZ.out.1 Try.underlying35 rfl (by kernel_rfl) ?_
  refine ⟨⟨(167968768, 16), y⟩, rfl, ⟨⟨by show 167968768 < 4294967296; omega, by show I64 16; unfold I64; decide⟩, HZ.out.2.1⟩, ?_, HZ.out.2.2⟩
  unfold SyV.sy sayI
  rw [F2.out.2.2.2]
set_option maxRecDepth 100000 in
theorem say_4_9 (w : World) : Calls Try.prog 17 #[.int .i64 4, .int .u32 9] w fun e w' => ∃ x : SyV, e = .returned x.v ∧ SyOk w' x ∧ x.sy = sayI 168034304 9 ∧ Below w.heap.size w w' := by
  have hal := (Below.refl w.heap.size w).alloc (Nat.le_refl _) (.cells #[.int .u32 0, .int .i64 0, .int .i64 0, .slice none 0 0, .int .u32 0, .int .i64 0, .int .i64 0, .slice none 0 0] 35)
  have F := Lib.hid (And.intro hal (hnew w (.cells #[.int .u32 0, .int .i64 0, .int .i64 0, .slice none 0 0, .int .u32 0, .int .i64 0, .int .i64 0, .slice none 0 0] 35)))
  have HT := Lib.hid (fun W => ten_4 W)
  have HS := Lib.hid (fun W => said_any 9 (by decide) W)
  unfold AtV.v at HS
  clear hal
  go_enter Try.func17, Try.ntmps17
  go_wp2_with fail
  generalize w.alloc (.cells #[.int .u32 0, .int .i64 0, .int .i64 0, .slice none 0 0, .int .u32 0, .int .i64 0, .int .i64 0, .slice none 0 0] 35) = W0 at *
  refine (HT.out _).mono ?_
  rintro e W1 ⟨rfl, hb⟩
  have F1 := Lib.hid (And.intro (bcall F.out.1 (Nat.le_refl _) hb) ((hb.block _ (lt_of_blk F.out.2)).trans F.out.2))
  clear hb HT F
  go_wp2_with fail
  refine (HS.out _).mono ?_
  rintro e W2 ⟨y, rfl, hy, hyn, hya, hb⟩
  have F2 := Lib.hid (And.intro (bcall F1.out.1 (Nat.le_refl _) hb) (And.intro ((hb.block _ (lt_of_blk F1.out.2)).trans F1.out.2) (And.intro hy hya)))
  have F3 := Lib.hid (show Firm (some w.heap.size) W2 (fun W => AtOk W y) from by
    exact hy.firm (hyn.far fun k hk => by injection hk with hk; rw [← hk]; exact lt_of_blk F1.out.2))
  clear hb HS F1 hy hya hyn
  go_wp2_with (with_reducible refine halt_store 35 (x := .tmp 4) rfl ?_)
  refine Halted.go ?_
  refine store_whole rfl 35 _ _ rfl w.heap.size #[.int .u32 168034304, .int .i64 16, .int .i64 y.o, .slice y.p.a y.p.n y.p.c, .int .u32 y.nx, .int .i64 y.md, .int .i64 y.pf, .slice y.c.a y.c.n y.c.c] rfl rfl F2.out.2.1 rfl (by kernel_rfl) (by simp [Value.oneCell']) ?_
  intro W3 hwz hsz
  have hy3 : AtOk W3 y := F3.out W3 ⟨hsz.os, hsz.tape, hsz.output, by rw [hsz.size]; exact Nat.le_refl _, fun k _ hne => hsz.other (fun e => hne (by rw [e]))⟩
  have HZ := Lib.hid (And.intro hwz (And.intro hy3 (F2.out.1.trans (hsz.below (Nat.le_refl _)))))
  clear hwz hsz hy3
  go_wp2_with fail
  refine ret_cell rfl rfl rfl HZ.out.1 Try.underlying35 rfl (by kernel_rfl) ?_
  refine ⟨⟨(168034304, 16), y⟩, rfl, ⟨⟨by show 168034304 < 4294967296; omega, by show I64 16; unfold I64; decide⟩, HZ.out.2.1⟩, ?_, HZ.out.2.2⟩
  unfold SyV.sy sayI
  rw [F2.out.2.2.2]
end Go.Proofs.Ytadoflcomienoaa
/- What is said of a route. -/
namespace Go.Proofs.Ytadoflcomienoaa
open Go.RowKit

set_option maxRecDepth 100000 in
set_option maxHeartbeats 2000000 in
theorem dof_any {w : World} {ro id pref : Int} {k : PK} {x : AtV} (hx : AtOk w x) (hs : SmA x) : Calls Try.prog 18 #[.agg #[.int .i64 ro, .int .u32 (k.1 : Int), .int .i64 k.2, .int .i64 id, .int .i64 x.o, .slice x.p.a x.p.n x.p.c, .int .u32 x.nx, .int .i64 x.md, .int .i64 x.pf, .slice x.c.a x.c.n x.c.c], .int .i64 pref] w fun e w' => ∃ y : AtV, e = .returned (.agg #[.int .u32 (k.1 : Int), .int .i64 k.2, .int .i64 y.o, .slice y.p.a y.p.n y.p.c, .int .u32 y.nx, .int .i64 (-1), .int .i64 pref, .slice none 0 0]) ∧ y.nx = x.nx ∧ Below w.heap.size w w' := by
  have hal := ((Below.refl w.heap.size w).alloc (Nat.le_refl _) (.cells #[.int .i64 ro, .int .u32 (k.1 : Int), .int .i64 k.2, .int .i64 id, .int .i64 x.o, .slice x.p.a x.p.n x.p.c, .int .u32 x.nx, .int .i64 x.md, .int .i64 x.pf, .slice x.c.a x.c.n x.c.c] 62)).alloc (by simp) (.cells #[.int .u32 0, .int .i64 0, .int .i64 0, .slice none 0 0, .int .u32 0, .int .i64 0, .int .i64 0, .slice none 0 0] 35)
  have h0 : ((w.alloc (.cells #[.int .i64 ro, .int .u32 (k.1 : Int), .int .i64 k.2, .int .i64 id, .int .i64 x.o, .slice x.p.a x.p.n x.p.c, .int .u32 x.nx, .int .i64 x.md, .int .i64 x.pf, .slice x.c.a x.c.n x.c.c] 62)).alloc (.cells #[.int .u32 0, .int .i64 0, .int .i64 0, .slice none 0 0, .int .u32 0, .int .i64 0, .int .i64 0, .slice none 0 0] 35)).heap[w.heap.size]? = some (.cells #[.int .i64 ro, .int .u32 (k.1 : Int), .int .i64 k.2, .int .i64 id, .int .i64 x.o, .slice x.p.a x.p.n x.p.c, .int .u32 x.nx, .int .i64 x.md, .int .i64 x.pf, .slice x.c.a x.c.n x.c.c] 62) := hold (hnew _ _)
  have h1 : ((w.alloc (.cells #[.int .i64 ro, .int .u32 (k.1 : Int), .int .i64 k.2, .int .i64 id, .int .i64 x.o, .slice x.p.a x.p.n x.p.c, .int .u32 x.nx, .int .i64 x.md, .int .i64 x.pf, .slice x.c.a x.c.n x.c.c] 62)).alloc (.cells #[.int .u32 0, .int .i64 0, .int .i64 0, .slice none 0 0, .int .u32 0, .int .i64 0, .int .i64 0, .slice none 0 0] 35)).heap[w.heap.size + 1]? = some (.cells #[.int .u32 0, .int .i64 0, .int .i64 0, .slice none 0 0, .int .u32 0, .int .i64 0, .int .i64 0, .slice none 0 0] 35) := hnewAt (by simp)
  have F := Lib.hid (And.intro hal (And.intro h0 h1))
  have HC := Lib.hid (copyOf_any (hx.keep hal) hs)
  have r0 := cell_of (o := 0) (h0) rfl
  have r1 := cell_of (o := 1) (h0) rfl
  have r2 := cell_of (o := 2) (h0) rfl
  have r3 := cell_of (o := 3) (h0) rfl
  have r4 := cell_of (o := 4) (h0) rfl
  have r5 := cell_of (o := 5) (h0) rfl
  have r6 := cell_of (o := 6) (h0) rfl
  have r7 := cell_of (o := 7) (h0) rfl
  have r8 := cell_of (o := 8) (h0) rfl
  have r9 := cell_of (o := 9) (h0) rfl
  unfold AtV.v at HC
  clear hal h0 h1 hx hs
  go_enter Try.func18, Try.ntmps18
  go_wp2_with fail
  generalize (w.alloc (.cells #[.int .i64 ro, .int .u32 (k.1 : Int), .int .i64 k.2, .int .i64 id, .int .i64 x.o, .slice x.p.a x.p.n x.p.c, .int .u32 x.nx, .int .i64 x.md, .int .i64 x.pf, .slice x.c.a x.c.n x.c.c] 62)).alloc (.cells #[.int .u32 0, .int .i64 0, .int .i64 0, .slice none 0 0, .int .u32 0, .int .i64 0, .int .i64 0, .slice none 0 0] 35) = W0 at *
  refine (HC.out).mono ?_
  rintro e W1 ⟨y, rfl, hy1, hy2, hy3, hb⟩
  have F1 := Lib.hid (And.intro (bcall F.out.1 (Nat.le_refl _) hb) (And.intro ((hb.block _ (lt_of_blk F.out.2.1)).trans F.out.2.1) (And.intro ((hb.block _ (lt_of_blk F.out.2.2)).trans F.out.2.2) hy3)))
  clear hb hy1 hy2 hy3 HC F r0 r1 r2 r3 r4 r5 r6 r7 r8 r9
  go_wp2_with (with_reducible refine halt_store 26 (x := .tmp 5) rfl ?_)
  refine Halted.go ?_
  have hal := (Below.refl W1.heap.size W1).alloc (Nat.le_refl _) (.cells #[.int .i64 0, .slice none 0 0, .int .u32 0, .int .i64 0, .int .i64 0, .slice none 0 0] 26)
  refine store_whole rfl 26 _ _ rfl W1.heap.size #[.int .i64 y.o, .slice y.p.a y.p.n y.p.c, .int .u32 y.nx, .int .i64 y.md, .int .i64 y.pf, .slice y.c.a y.c.n y.c.c] rfl rfl (hnew _ _) rfl (by kernel_rfl) (by simp [Value.oneCell']) ?_
  intro V0 hwz hsz
  have hzb : Below W1.heap.size W1 V0 := Below.trans hal (hsz.below (Nat.le_refl _))
  have hlt := lt_of_blk F1.out.2.2.1
  have B0 := Lib.hid (And.intro hwz (And.intro ((hzb.block _ (lt_of_blk F1.out.2.1)).trans F1.out.2.1) (And.intro (bcall F1.out.1 (Nat.le_refl _) hzb) hlt)))
  have HZ1 := Lib.hid ((hzb.block _ (lt_of_blk F1.out.2.2.1)).trans F1.out.2.2.1)
  clear hwz hsz hal hzb hlt
  go_wp2_with (with_reducible refine halt_store 3 (x := .tmp 10) rfl ?_)
  refine Halted.go ?_
  refine store_mid rfl 3 _ _ rfl W1.heap.size 3 (.int .i64 (-1)) rfl rfl B0.out.1 (by simp [Value.cells]) (by kernel_rfl) (by simp [Value.cells, Value.oneCell']) ?_
  intro V1 cur hset hsz0 hcq hsb
  have hcur : cur = #[.int .i64 y.o, .slice y.p.a y.p.n y.p.c, .int .u32 y.nx, .int .i64 (-1), .int .i64 y.pf, .slice y.c.a y.c.n y.c.c] := by
    apply Array.ext_getElem?
    intro q
    rw [hcq q]
    rcases q with _ | _ | _ | _ | _ | _ | q <;> simp [Value.cells]
  subst hcur
  have HZA := Lib.hid ((hsb.other (show w.heap.size + 1 ≠ W1.heap.size by have := B0.out.2.2.2; omega)).trans HZ1.out)
  have B1 := Lib.hid (And.intro hset (And.intro ((hsb.other (show w.heap.size ≠ W1.heap.size by have := B0.out.2.2.2; omega)).trans B0.out.2.1) (And.intro (B0.out.2.2.1.trans (hsb.below (by have := B0.out.2.2.2; omega))) B0.out.2.2.2)))
  clear hset hsz0 hcq hsb
  go_wp2_with (with_reducible refine halt_store 3 (x := .tmp 11) rfl ?_)
  refine Halted.go ?_
  refine store_mid rfl 3 _ _ rfl W1.heap.size 4 (.int .i64 pref) rfl rfl B1.out.1 (by simp [Value.cells]) (by kernel_rfl) (by simp [Value.cells, Value.oneCell']) ?_
  intro V2 cur hset hsz0 hcq hsb
  have hcur : cur = #[.int .i64 y.o, .slice y.p.a y.p.n y.p.c, .int .u32 y.nx, .int .i64 (-1), .int .i64 pref, .slice y.c.a y.c.n y.c.c] := by
    apply Array.ext_getElem?
    intro q
    rw [hcq q]
    rcases q with _ | _ | _ | _ | _ | _ | q <;> simp [Value.cells]
  subst hcur
  have HZB := Lib.hid ((hsb.other (show w.heap.size + 1 ≠ W1.heap.size by have := B1.out.2.2.2; omega)).trans HZA.out)
  have B2 := Lib.hid (And.intro hset (And.intro ((hsb.other (show w.heap.size ≠ W1.heap.size by have := B1.out.2.2.2; omega)).trans B1.out.2.1) (And.intro (B1.out.2.2.1.trans (hsb.below (by have := B1.out.2.2.2; omega))) B1.out.2.2.2)))
  clear hset hsz0 hcq hsb
  go_wp2_with (with_reducible refine halt_store 24 (x := .tmp 12) rfl ?_)
  refine Halted.go ?_
  refine store_mid rfl 24 _ _ rfl W1.heap.size 5 (.slice none 0 0) rfl rfl B2.out.1 (by simp [Value.cells]) (by kernel_rfl) (by simp [Value.cells, Value.oneCell']) ?_
  intro V3 cur hset hsz0 hcq hsb
  have hcur : cur = #[.int .i64 y.o, .slice y.p.a y.p.n y.p.c, .int .u32 y.nx, .int .i64 (-1), .int .i64 pref, .slice none 0 0] := by
    apply Array.ext_getElem?
    intro q
    rw [hcq q]
    rcases q with _ | _ | _ | _ | _ | _ | q <;> simp [Value.cells]
  subst hcur
  have HZC := Lib.hid ((hsb.other (show w.heap.size + 1 ≠ W1.heap.size by have := B2.out.2.2.2; omega)).trans HZB.out)
  have B3 := Lib.hid (And.intro hset (And.intro ((hsb.other (show w.heap.size ≠ W1.heap.size by have := B2.out.2.2.2; omega)).trans B2.out.2.1) (And.intro (B2.out.2.2.1.trans (hsb.below (by have := B2.out.2.2.2; omega))) B2.out.2.2.2)))
  clear hset hsz0 hcq hsb
  obtain ⟨a0, a1, a2, a3, a4, a5⟩ := (show BxA W1.heap.size ⟨y.o, y.p, y.nx, -1, pref, ⟨none, 0, 0, []⟩⟩ V3 from B3.out.1).cells
  have r0 := cell_of (o := 0) (B3.out.2.1) rfl
  have r1 := cell_of (o := 1) (B3.out.2.1) rfl
  have r2 := cell_of (o := 2) (B3.out.2.1) rfl
  have r3 := cell_of (o := 3) (B3.out.2.1) rfl
  have r4 := cell_of (o := 4) (B3.out.2.1) rfl
  have r5 := cell_of (o := 5) (B3.out.2.1) rfl
  have r6 := cell_of (o := 6) (B3.out.2.1) rfl
  have r7 := cell_of (o := 7) (B3.out.2.1) rfl
  have r8 := cell_of (o := 8) (B3.out.2.1) rfl
  have r9 := cell_of (o := 9) (B3.out.2.1) rfl
  have HZ2 := Lib.hid (show V3.heap[w.heap.size + 1]? = some (.cells #[.int .u32 0, .int .i64 0, .int .i64 0, .slice none 0 0, .int .u32 0, .int .i64 0, .int .i64 0, .slice none 0 0] 35) from HZC.out)
  go_wp2_with (with_reducible refine halt_store 35 (x := .tmp 4) rfl ?_)
  refine Halted.go ?_
  refine store_whole rfl 35 _ _ rfl (w.heap.size + 1) #[.int .u32 (k.1 : Int), .int .i64 k.2, .int .i64 y.o, .slice y.p.a y.p.n y.p.c, .int .u32 y.nx, .int .i64 (-1), .int .i64 pref, .slice none 0 0] rfl rfl HZ2.out rfl (by kernel_rfl) (by simp [Value.oneCell']) ?_
  intro W9 hwz hsz
  have HF := Lib.hid (And.intro hwz (B3.out.2.2.1.trans (hsz.below (Nat.le_succ _))))
  have hnx : y.nx = x.nx := congrArg At.nx F1.out.2.2.2
  have HX := Lib.hid hnx
  clear hwz hsz hnx a0 a1 a2 a3 a4 a5 r0 r1 r2 r3 r4 r5 r6 r7 r8 r9
  go_wp2_with fail
  refine ret_cell rfl rfl rfl HF.out.1 Try.underlying35 rfl (by kernel_rfl) ?_
  exact ⟨y, rfl, HX.out, HF.out.2⟩
end Go.Proofs.Ytadoflcomienoaa
/- Updates of what comes, as the reference tells. -/
namespace Go.Proofs.Ytadoflcomienoaa
open Go.RowKit

theorem sl_head {W : World} {oa : Option Addr} {n c : Nat} {L : List SyV} (h : RSy.Sl W oa n c L) (h0 : 0 < n) : ∃ b o, oa = some ⟨b, o, none⟩ ∧ b < W.heap.size ∧ RSy.At W b o (L.getD 0 default) := by
  obtain ⟨b, o, e, hl, hat⟩ := h.at h0
  rw [Nat.zero_mul, Nat.add_zero] at hat
  exact ⟨b, o, e, hl, hat⟩
theorem sl_head' {W : World} {b o n c : Nat} {L : List SyV} (h : RSy.Sl W (some ⟨b, o, none⟩) n c L) (h0 : 0 < n) : b < W.heap.size ∧ RSy.At W b o (L.getD 0 default) := by
  obtain ⟨b', o', e, h1, h2⟩ := sl_head h h0
  injection e with e
  injection e with e1 e2 _
  subst e1
  subst e2
  exact ⟨h1, h2⟩
structure AtC (b o : Nat) (x : SyV) (W : World) : Prop where
  at' : RSy.At W b o x
end Go.Proofs.Ytadoflcomienoaa
/- Those with the attributes of the first one, and the rest, as the program tells. -/
namespace Go.Proofs.Ytadoflcomienoaa
open Go.RowKit

structure SmC (q : Nat) (x : SyV) (b o : Nat) (x0 : SyV) (W : World) : Prop where
  bx : BxY q x W
  at' : RSy.At W b o x0
  lt : b < W.heap.size
theorem SmC.keep {q b o : Nat} {x x0 : SyV} {W W' : World} (h : SmC q x b o x0 W) (hb : Below W.heap.size W W') : SmC q x b o x0 W' := ⟨h.bx.keep hb, h.at'.keep (hb.block _ h.lt), Nat.lt_of_lt_of_le h.lt hb.size⟩
theorem BxY.rA {q : Nat} {x : SyV} {W : World} (h : BxY q x W) : W.rangeAt q 2 [.int .i64 x.a.o, .slice x.a.p.a x.a.p.n x.a.p.c, .int .u32 x.a.nx, .int .i64 x.a.md, .int .i64 x.a.pf, .slice x.a.c.a x.a.c.n x.a.c.c] := by
  intro j v hv
  have h1 := range_box h (2 + j) v (by rw [Nat.add_comm 2 j]; exact hv)
  rw [Nat.zero_add] at h1
  exact h1
set_option maxRecDepth 100000 in
set_option maxHeartbeats 8000000 in
theorem dsame_any {w : World} {b o sn sc : Nat} {sl : List SyV} {x0 : SyV} {r0 : List SyV} (h : SlOk RSy SyOk w ⟨some ⟨b, o, none⟩, sn, sc, sl⟩) (hl : sl = x0 :: r0) (hmx : sn ≤ 4611686) : Calls Try.prog 44 #[.slice (some ⟨b, o, none⟩) sn sc] w fun e w' => ∃ sv rv, e = .returned (.tuple #[sv, rv]) ∧ RNl.Own w' w.heap.size sv (sameV x0.a.at sl) ∧ RSy.Own w' w.heap.size rv (restV x0.a.at sl) ∧ Below w.heap.size w w' := by
  have hln : sn = sl.length := h.sl.len
  have hmax : sn ≤ maxLen := h.sl.max
  have hx0 : sl.getD 0 default = x0 := by rw [hl]; rfl
  have hat0 := (sl_head' h.sl (show 0 < sn by rw [hln, hl, List.length_cons]; omega))
  dsimp only at hat0
  rw [hx0] at hat0
  have HX0 := Lib.hid (h.all x0 (by rw [hl]; exact List.mem_cons_self))
  have G := Lib.hid (And.intro h (And.intro hat0.2 (And.intro hat0.1 (And.intro hln (show 0 < sn by rw [hln, hl, List.length_cons]; omega)))))
  have HLN := Lib.hid hln
  clear h hl hln hx0 hat0
  go_enter Try.func44, Try.ntmps44
  go_wp2_with fail
  go_loopw [4, 5, 10] (fun sv rv iv wr => ∃ i : Nat, i ≤ sn ∧ iv = .int .i64 i ∧ SmS w sl x0.a.at i sv rv wr) (fun _ _ iv _ => sn - (intOf iv).toNat)
  case atStart => exact ⟨0, Nat.zero_le _, rfl, SmS.begin _ _ _⟩
  case round =>
    obtain ⟨i, hi, rfl, hsm⟩ := hrel
    obtain ⟨w4, rfl⟩ : ∃ w4 : World, w4 = wr := ⟨_, rfl⟩
    obtain ⟨sa1, sc1, rfl, -, -⟩ := hsm.s.sl0
    obtain ⟨ra1, rc1, rfl, -, -⟩ := hsm.r.sl0
    by_cases hlt : i < sn
    · have hit : ((i : Int) < (sn : Int)) = True := by simp; omega
      have hw3 := wrapS hlt hmax
      have hlL : i < sl.length := by rw [← HLN.out]; exact hlt
      have hsl := G.out.1.keepY hsm.old
      obtain ⟨b1, o1, ea, hbb1, hat⟩ := hsl.sl.at hlt
      injection ea with ea
      injection ea with ea1 ea2 _
      subst ea1
      subst ea2
      obtain ⟨x, hx⟩ : ∃ x, sl.getD i default = x := ⟨_, rfl⟩
      dsimp only at hat
      rw [hx] at hat
      have hmem : x ∈ sl := by rw [← hx]; exact getD_mem hlL
      have hokx := hsl.all x hmem
      have hsl1 : (sameV x0.a.at (sl.take i)).length ≤ sn ∧ (restV x0.a.at (sl.take i)).length ≤ sn := by
        have := sameV_len x0.a.at (sl.take i)
        rw [List.length_take] at this
        omega
      have HSL := Lib.hid hsl1
      have hsn0 : (0 < sn) = True := eq_true G.out.2.2.2.2
      have c0 := hat 0 (by decide)
      have c1 := hat 1 (by decide)
      have c2 := hat 2 (by decide)
      have c3 := hat 3 (by decide)
      have c4 := hat 4 (by decide)
      have c5 := hat 5 (by decide)
      have c6 := hat 6 (by decide)
      have c7 := hat 7 (by decide)
      simp only [RSy, Nat.add_zero, List.getElem?_cons_zero, List.getElem?_cons_succ] at c0 c1 c2 c3 c4 c5 c6 c7
      have J := Lib.hid (And.intro hsm (And.intro hlL (And.intro hx (And.intro hmem (And.intro hlt (And.intro hi hokx))))))
      obtain ⟨n1, hn1⟩ : ∃ n1, (sameV x0.a.at (sl.take i)).length = n1 := ⟨_, rfl⟩
      obtain ⟨n2, hn2⟩ : ∃ n2, (restV x0.a.at (sl.take i)).length = n2 := ⟨_, rfl⟩
      rw [hn1, hn2] at J HSL ⊢
      have HN := Lib.hid (And.intro hn1 hn2)
      clear hn1 hn2 hsm hlL hx hmem hi hokx hsl hat hbb1 hsl1
      go_wp2_with (with_reducible refine halt_store 35 (x := .tmp 7) rfl ?_)
      refine Halted.go ?_
      have hal := (Below.refl w4.heap.size w4).alloc (Nat.le_refl _) (.cells #[.int .u32 0, .int .i64 0, .int .i64 0, .slice none 0 0, .int .u32 0, .int .i64 0, .int .i64 0, .slice none 0 0] 35)
      refine store_whole rfl 35 _ _ rfl w4.heap.size #[.int .u32 (x.k.1 : Int), .int .i64 x.k.2, .int .i64 x.a.o, .slice x.a.p.a x.a.p.n x.a.p.c, .int .u32 x.a.nx, .int .i64 x.a.md, .int .i64 x.a.pf, .slice x.a.c.a x.a.c.n x.a.c.c] rfl rfl (hnew _ _) rfl (by kernel_rfl) (by simp [Value.oneCell']) ?_
      intro W1 hwz hsz
      have hzb : Below w4.heap.size w4 W1 := Below.trans hal (hsz.below (Nat.le_refl _))
      have hd := (Below.refl W1.heap.size W1).drew
      have hb1d : Below w4.heap.size w4 W1.drew := bcall hzb (Nat.le_refl _) hd
      have K := Lib.hid (show SmC w4.heap.size x b o x0 W1.drew from ⟨hwz, G.out.2.1.keep ((bcall J.out.1.old (Nat.le_refl _) hb1d).block _ G.out.2.2.1), Nat.lt_of_lt_of_le G.out.2.2.1 (Nat.le_trans J.out.1.old.size hb1d.size)⟩)
      have HC := Lib.hid (asame_any (J.out.2.2.2.2.2.2.a.keep hb1d) ((HX0.out.keep J.out.1.old).a.keep hb1d))
      obtain ⟨bo, hbo⟩ : ∃ z, decide (x.a.at = x0.a.at) = z := ⟨_, rfl⟩
      rw [hbo] at HC
      have KS := Lib.hid (J.out.1.keep hb1d)
      have HBO := Lib.hid hbo
      unfold AtV.v at HC
      clear hwz hsz hal hzb hd hb1d hbo c0 c1 c2 c3 c4 c5 c6 c7
      go_wp2_with fail
      refine wp_region_heldP (SmC w4.heap.size x b o x0) (by kernel_rfl) ?_
      generalize W1.drew = V at *
      refine held_reads [0, 1, 2, 3, 4, 5] (g := 1) rfl (by kernel_rfl) K.out (fun _ _ d _ _ h => by cases d <;> exact h) ?_
      simp only [pick, List.getD_cons_zero, List.getD_cons_succ]
      ((with_reducible refine wpRead_step (fun K hK => ?_)); go_simp; first | ((with_reducible refine hK _ ?_); clear hK K) | (apply Exists.intro; (with_reducible refine ⟨fun w' hw' => ?_, hK _ ?_⟩); (first | exact rfl | exact ⟨rfl, rfl⟩); clear hK K))
      with_reducible refine wpRead_yes ?_ ?_
      rotate_left
      rfl
      intro K hK
      refine read_load 26 _ rfl w4.heap.size 2 #[.int .i64 x.a.o, .slice x.a.p.a x.a.p.n x.a.p.c, .int .u32 x.a.nx, .int .i64 x.a.md, .int .i64 x.a.pf, .slice x.a.c.a x.a.c.n x.a.c.c] rfl (fun w' hw' => hw'.bx.rA) Try.underlying26 rfl (by kernel_rfl) (hK _ ?_)
      clear hK K
      ((with_reducible refine wpRead_step (fun K hK => ?_)); go_simp; first | ((with_reducible refine hK _ ?_); clear hK K) | (apply Exists.intro; (with_reducible refine ⟨fun w' hw' => ?_, hK _ ?_⟩); (first | exact rfl | exact ⟨rfl, rfl⟩); clear hK K))
      ((with_reducible refine wpRead_step (fun K hK => ?_)); go_simp; first | ((with_reducible refine hK _ ?_); clear hK K) | (apply Exists.intro; (with_reducible refine ⟨fun w' hw' => ?_, hK _ ?_⟩); (first | exact rfl | exact ⟨rfl, rfl⟩); clear hK K))
      ((with_reducible refine wpRead_step (fun K hK => ?_)); go_simp; first | ((with_reducible refine hK _ ?_); clear hK K) | (apply Exists.intro; (with_reducible refine ⟨fun w' hw' => ?_, hK _ ?_⟩); (first | exact rfl | exact ⟨rfl, rfl⟩); clear hK K))
      with_reducible refine wpRead_yes ?_ ?_
      rotate_left
      rfl
      intro K hK
      refine read_load 26 _ rfl b (o + 2) #[.int .i64 x0.a.o, .slice x0.a.p.a x0.a.p.n x0.a.p.c, .int .u32 x0.a.nx, .int .i64 x0.a.md, .int .i64 x0.a.pf, .slice x0.a.c.a x0.a.c.n x0.a.c.c] rfl (fun w' hw' => hw'.at'.yA) Try.underlying26 rfl (by kernel_rfl) (hK _ ?_)
      clear hK K
      with_reducible refine wpRead_nil ?_
      refine held_one 6 (by kernel_rfl) ?_
      simp only [pick, List.getD_cons_zero, List.getD_cons_succ]
      go_wp2_with fail
      refine (HC.out).mono ?_
      rintro e V2 ⟨rfl, hb⟩
      have K3 := Lib.hid (K.out.keep hb)
      have KS3 := Lib.hid (KS.out.keep hb)
      clear hb HC K KS
      go_wp2_with fail
      refine ⟨K3.out, ?_⟩
      refine wpAnyH_done (by kernel_rfl) ?_ _
      have hlt := J.out.2.2.2.2.1
      obtain ⟨c0, c1, c2, c3, c4, c5, c6, c7⟩ := K3.out.bx.cells
      cases bo with
      | true =>
        go_wp2_with (at_builtin; refine halt ?_)
        refine Halted.go ?_
        clear c0 c1 c2 c3 c4 c5 c6 c7
        have hal := (Below.refl V2.heap.size V2).alloc (Nat.le_refl _) (.cells #[.int .i64 0, .int .u32 (x.k.1 : Int), .int .i64 x.k.2] 70)
        have hk := KS3.out.keep hal
        have hlt1 : (sameV x0.a.at (sl.take i)).length = n1 := HN.out.1
        refine Rep.append_listW TNl rfl _ _ rfl rfl hk.s rfl (Rep.sl_one (R := RNl) (y := x.sy.nl) (hnew _ _)) (fun h => by cases h) (by rw [hlt1]; have := HSL.out.1; unfold maxLen; omega) (by rw [hlt1]; have := HSL.out.1; omega) hk.old.size ?_
        intro v9 V9 hown9 hb9 hg9 hf9
        have hres := hk.same J.out.2.1 J.out.2.2.1 (of_decide_eq_true HBO.out) hown9 hb9 hg9 hf9
        obtain ⟨a9, c9, rfl, -, -⟩ := hown9.sl0
        obtain ⟨n9, hn9⟩ : ∃ n9, (sameV x0.a.at (sl.take i) ++ [x.sy.nl]).length = n9 := ⟨_, rfl⟩
        rw [hn9] at hres ⊢
        have HRES := Lib.hid hres
        clear hres hown9 hb9 hg9 hf9 hk hal hlt1 hn9
        go_wp2_with fail
        exact ⟨⟨i + 1, hlt, by first | rw [hw3] | rw [Int.natCast_succ], HRES.out⟩, by first | (rw [hw3]; exact mSucc hlt) | (rw [← Int.natCast_succ]; exact mSucc hlt)⟩
      | false =>
        go_wp2_with (at_builtin; refine halt ?_)
        refine Halted.go ?_
        clear c0 c1 c2 c3 c4 c5 c6 c7
        have hal := (Below.refl V2.heap.size V2).alloc (Nat.le_refl _) (.cells #[.int .u32 (x.k.1 : Int), .int .i64 x.k.2, .int .i64 x.a.o, .slice x.a.p.a x.a.p.n x.a.p.c, .int .u32 x.a.nx, .int .i64 x.a.md, .int .i64 x.a.pf, .slice x.a.c.a x.a.c.n x.a.c.c] 35)
        have hk := KS3.out.keep hal
        have hlt1 : (restV x0.a.at (sl.take i)).length = n2 := HN.out.2
        refine Rep.append_listW TSy rfl _ _ rfl rfl hk.r rfl (Rep.sl_one (R := RSy) (y := x) (hnew _ _)) (fun h => by cases h) (by rw [hlt1]; have := HSL.out.2; unfold maxLen; omega) (by rw [hlt1]; have := HSL.out.2; omega) hk.old.size ?_
        intro v9 V9 hown9 hb9 hg9 hf9
        have hres := hk.rest J.out.2.1 J.out.2.2.1 (of_decide_eq_false HBO.out) hown9 hb9 hg9 hf9
        obtain ⟨a9, c9, rfl, -, -⟩ := hown9.sl0
        obtain ⟨n9, hn9⟩ : ∃ n9, (restV x0.a.at (sl.take i) ++ [x]).length = n9 := ⟨_, rfl⟩
        rw [hn9] at hres ⊢
        have HRES := Lib.hid hres
        clear hres hown9 hb9 hg9 hf9 hk hal hlt1 hn9
        go_wp2_with fail
        exact ⟨⟨i + 1, hlt, by first | rw [hw3] | rw [Int.natCast_succ], HRES.out⟩, by first | (rw [hw3]; exact mSucc hlt) | (rw [← Int.natCast_succ]; exact mSucc hlt)⟩
    · obtain rfl : i = sn := by omega
      have hit : ((i : Int) < (i : Int)) = False := by simp
      have hall : sl.take i = sl := by rw [HLN.out, List.take_length]
      obtain ⟨ts, rs, far, old⟩ := hsm
      rw [hall] at ts rs ⊢
      clear far
      obtain ⟨n1, hn1⟩ : ∃ n1, (sameV x0.a.at sl).length = n1 := ⟨_, rfl⟩
      obtain ⟨n2, hn2⟩ : ∃ n2, (restV x0.a.at sl).length = n2 := ⟨_, rfl⟩
      rw [hn1] at ts
      rw [hn2] at rs
      rw [hn1, hn2]
      have HF := Lib.hid (And.intro ts (And.intro rs old))
      clear ts rs old hall hn1 hn2 hi hlt
      go_wp2_with fail
      go_ret2
      exact ⟨_, _, rfl, HF.out⟩
end Go.Proofs.Ytadoflcomienoaa
/- Updates of what comes, as the program tells. -/
namespace Go.Proofs.Ytadoflcomienoaa
open Go.RowKit

theorem Rep.cut_kkB {P : Program} {α : Type} [Inhabited α] {R : Rep α} {t : TypeId} {bytes : Nat} (hT : Rep.Ty P t R bytes) {w : World} {a : Option Addr} {n c : Nat} {L : List α} (hs : R.Sl w a n c L) (hnc : n ≤ c) {i : Nat} (hi : i ≤ n) :
    ∃ sa, (∀ W, (Instr.sliceAt t (.slice a n c) none (some (.int .i64 (i : Int))) (some (.int .i64 (i : Int)))).run P W = .ok (.slice sa i i) W) ∧ (∀ W, (Instr.slice t (.slice a n c) none (some (.int .i64 (i : Int))) (some (.int .i64 (i : Int)))).run P W = .ok (.slice sa i i) W) ∧
      R.Sl w sa i i (L.take i) ∧ (∀ b o, a = some ⟨b, o, none⟩ → ∃ o', sa = some ⟨b, o', none⟩) := by
  have h2 : ∀ W, (Instr.slice t (.slice a n c) none (some (.int .i64 (i : Int))) (some (.int .i64 (i : Int)))).run P W = .ok (.slice (Rep.cutAddr a 0 i R.k) i i) W := fun W => by
    rw [run_slice_hm W t a n c hT.elem' .i64 .i64 (i : Int) (i : Int) (by omega) (by omega) (by omega), hT.size W]
    simp only [Result.andThen, sliced, Int.toNat_natCast, Rep.cutAddr, Nat.sub_zero]
  refine ⟨Rep.cutAddr a 0 i R.k, fun W => ?_, h2, ⟨by rw [List.length_take, ← hs.len]; omega, by have := hs.max; omega, fun h0 => ?_⟩, fun b o e => ?_⟩
  · rw [run_sliceAt_slice W t _ _ _ _ hT.elem']; exact h2 W
  · obtain ⟨b, o, e, hr⟩ := hs.row (by omega)
    obtain ⟨o', e', ho'⟩ := Rep.cutAddr_some (b := b) (o := o) (l := 0) (m := i) (k := R.k)
    rw [e, e']
    refine ⟨b, o', rfl, ?_⟩
    rw [ho' (by omega), Nat.zero_mul, Nat.add_zero]
    exact hr.take i
  · obtain ⟨o', e', -⟩ := Rep.cutAddr_some (b := b) (o := o) (l := 0) (m := i) (k := R.k)
    rw [e, e']
    exact ⟨o', rfl⟩
theorem NewS.cut {α : Type} [Inhabited α] {R : Rep α} {w : World} {B : Nat} {a sa : Option Addr} {n c m d : Nat} {L M : List α} (h : NewS B (⟨a, n, c, L⟩ : SlV α)) (hs : R.Sl w a n c L) (hm : 0 < m → 0 < n) (hb : ∀ b o, a = some ⟨b, o, none⟩ → ∃ o', sa = some ⟨b, o', none⟩) : NewS B (⟨sa, m, d, M⟩ : SlV α) := by
  intro h0 x e
  obtain ⟨b, o, ea, -⟩ := hs.row (hm h0)
  obtain ⟨o', e'⟩ := hb b o ea
  have h1 := h (hm h0) _ ea
  dsimp only at e
  rw [e'] at e
  injection e with e
  rw [← e]
  exact h1
theorem smA_of {four : Bool} {w : World} {x : AtV} (hx : AtOk w x) (h : okA four x.at = true) : SmA x := by
  rw [okA_at hx] at h
  simp only [Bool.and_eq_true, decide_eq_true_eq] at h
  refine ⟨by omega, by omega, fun y hy => ?_⟩
  have h1 := List.all_eq_true.1 h.1.2.2 y hy
  unfold okSg at h1
  simp only [Bool.and_eq_true, decide_eq_true_eq] at h1
  have h2 : y.s.n = y.s.l.length := (hx.p.all y hy).sl.len
  have h3 : y.sg.2.length = y.s.l.length := rfl
  omega
set_option maxRecDepth 100000 in
set_option maxHeartbeats 16000000 in
theorem dcome_any {w : World} {sa : Option Addr} {sn sc : Nat} {sl : List SyV} {four : Bool} {lo : Nat} (h : SlOk RSy SyOk w ⟨sa, sn, sc, sl⟩) (hB : ∀ s ∈ sl, LowA lo s.a) (hok : ∀ s ∈ sl, okS four s = true) (hmx : sn ≤ 4611686) : Calls Try.prog 25 #[.slice sa sn sc, .bool four] w fun e w' => ∃ v M, e = .returned v ∧ OwnP RUp UpOk w' w.heap.size v M ∧ M.map UpV.up = comeI szN (asz four) sl.length (sl.map SyV.sy) ∧ (∀ x ∈ M, ApU lo w.heap.size x) ∧ Below w.heap.size w w' := by
  have HH := Lib.hid hmx
  obtain ⟨tot, htot⟩ : ∃ t, comeI szN (asz four) sl.length (sl.map SyV.sy) = t := ⟨_, rfl⟩
  have HG0 := Lib.hid (And.intro (show CmS four lo w.heap.size sn tot [] sl from htot ▸ CmS.start hok hB h.sl.len) h)
  rw [htot]
  clear h hB hok hmx htot
  go_enter Try.func25, Try.ntmps25
  go_wp2_with fail
  go_loopw [0, 5] (fun lv ov wr => ∃ (l : SlV SyV) (M : List UpV), lv = .slice l.a l.n l.c ∧ Firm ov.ownBlock wr (fun W => SlOk RSy SyOk W l) ∧ CmS four lo w.heap.size sn tot M l.l ∧ OwnP RUp UpOk wr w.heap.size ov M ∧ Below w.heap.size w wr) (fun lv _ _ => lenV lv)
  case atStart => exact ⟨⟨sa, sn, sc, sl⟩, [], rfl, Firm.old (Below.refl _ _) (fun W hW => HG0.out.2.keepY hW) (fun _ e => by cases e), HG0.out.1, OwnP.nil, Below.refl _ _⟩
  case round =>
    obtain ⟨⟨la, ln, lc, ll⟩, M, rfl, hs, hg, hown, hb⟩ := hrel
    dsimp only at *
    obtain ⟨w2, rfl⟩ : ∃ w2 : World, w2 = wr := ⟨_, rfl⟩
    obtain ⟨oc, cc, rfl, -, -⟩ := hown.own.sl0
    have hln : ln = ll.length := hs.now.sl.len
    by_cases h0 : 0 < ln
    · have hil : (0 < ln) = True := eq_true h0
      obtain ⟨b, o, ea, hbb, hat⟩ := sl_head hs.now.sl h0
      dsimp only at ea hat
      subst ea
      obtain ⟨x0, r0, hl0⟩ : ∃ x r, ll = x :: r := by
        cases ll with
        | nil => rw [List.length_nil] at hln; omega
        | cons x r => exact ⟨x, r, rfl⟩
      have hx0 : ll.getD 0 default = x0 := by rw [hl0]; rfl
      rw [hx0] at hat
      have hmL : ln ≤ 4611686 := by have := hg.len; have := HH.out; omega
      have hokx := hs.now.all x0 (by dsimp only; rw [hl0]; exact List.mem_cons_self)
      have hokS := hg.ok x0 (by rw [hl0]; exact List.mem_cons_self)
      have HSM := Lib.hid (smA_of hokx.a (okA_of hokS))
      have G := Lib.hid (And.intro hs (And.intro hg (And.intro hown (And.intro hb (And.intro hl0 (And.intro hln (And.intro hmL hokx)))))))
      have c0 := hat 0 (by decide)
      have c1 := hat 1 (by decide)
      have c2 := hat 2 (by decide)
      have c3 := hat 3 (by decide)
      have c4 := hat 4 (by decide)
      have c5 := hat 5 (by decide)
      have c6 := hat 6 (by decide)
      have c7 := hat 7 (by decide)
      simp only [RSy, Nat.add_zero, List.getElem?_cons_zero, List.getElem?_cons_succ] at c0 c1 c2 c3 c4 c5 c6 c7
      generalize M.length = m at *
      clear hs hg hown hb hln h0 hl0 hat hbb hx0 hokx hokS hmL
      go_wp2_with (with_reducible refine halt_store 26 (x := .tmp 6) rfl ?_)
      refine Halted.go ?_
      have hal := (Below.refl w2.heap.size w2).alloc (Nat.le_refl _) (.cells #[.int .i64 0, .slice none 0 0, .int .u32 0, .int .i64 0, .int .i64 0, .slice none 0 0] 26)
      refine store_whole rfl 26 _ _ rfl w2.heap.size #[.int .i64 x0.a.o, .slice x0.a.p.a x0.a.p.n x0.a.p.c, .int .u32 x0.a.nx, .int .i64 x0.a.md, .int .i64 x0.a.pf, .slice x0.a.c.a x0.a.c.n x0.a.c.c] rfl rfl (hnew _ _) rfl (by kernel_rfl) (by simp [Value.oneCell']) ?_
      intro W1 hwz hsz
      have hzb : Below w2.heap.size w2 W1 := Below.trans hal (hsz.below (Nat.le_refl _))
      have HS := Lib.hid (dsame_any (G.out.1.below hzb).now G.out.2.2.2.2.1 G.out.2.2.2.2.2.2.1)
      have H1 := Lib.hid (And.intro hzb (show BxA w2.heap.size x0.a W1 from hwz))
      clear hwz hsz hal hzb c0 c1 c2 c3 c4 c5 c6 c7
      go_wp2_with fail
      refine (HS.out).mono ?_
      rintro e W2 ⟨sv, rv, rfl, ts, rs, hb2⟩
      have hb22 : Below w2.heap.size w2 W2 := bcall H1.out.1 (Nat.le_refl _) hb2
      obtain ⟨s, e1, hs1, hs2, hs3, -⟩ := Own_slok (ok := NlOk) ts (fun n hn => by
        obtain ⟨t, ht, rfl⟩ := List.mem_map.1 hn
        have := (G.out.1.now.all t (List.mem_filter.1 ht).1).k
        exact ⟨this.1, by show I64 0; unfold I64; decide, this.2⟩)
      obtain ⟨r, e2, hr1, hr2, hr3, -⟩ := Own_slok (ok := SyOk) rs (fun t ht => (G.out.1.below hb22).now.all t (List.mem_filter.1 ht).1)
      rw [e1, e2]
      have hlt2 : ∀ k, Value.ownBlock (.slice oc m cc) = some k → k < W1.heap.size := fun k hk => Nat.lt_of_lt_of_le (World.ownsRow.lt G.out.2.2.1.own k hk).2 H1.out.1.size
      have hl3 := G.out.1.below hb22
      have HRL0 := Lib.hid (show r.l.length < ll.length from by rw [hr1]; exact restV_lt G.out.2.2.2.2.1)
      have hw1 : w.heap.size ≤ W1.heap.size := Nat.le_trans G.out.2.2.2.1.size H1.out.1.size
      have hbx : Firm (Value.ownBlock (.slice oc m cc)) W2 (fun W => BxA w2.heap.size x0.a W) := fun W hW => (hW.block _ (Nat.lt_of_lt_of_le (lt_of_blk H1.out.2) hb2.size) (fun e => by have := (World.ownsRow.lt G.out.2.2.1.own _ e.symm).2; omega)).trans (H1.out.2.keep hb2)
      have H0 := Lib.hid (And.intro hbx (And.intro (hl3.imp (Q := fun W => AtOk W x0.a) fun W hW => (hW.all x0 (by dsimp only; rw [G.out.2.2.2.2.1]; exact List.mem_cons_self)).a) (And.intro (SlOk.firm hr2 (hr3.far hlt2) fun t ht => hl3.imp fun W hW => hW.all t (by rw [hr1] at ht; exact (List.mem_filter.1 ht).1)) (And.intro (SlOk.firmN hs2 (hs3.far hlt2)) (And.intro (show NewS w.heap.size s from fun hn a e => Nat.le_trans hw1 (hs3 hn a e)) (And.intro (G.out.2.2.1.below hb22) (And.intro (bcall G.out.2.2.2.1 (Nat.le_refl _) hb22) (show CmT four lo w.heap.size sn tot x0.a.at r.l M s.l from by rw [hs1, hr1]; exact G.out.2.1.inner G.out.2.2.2.2.1))))))))
      clear ts rs e1 hs1 hs2 hs3 e2 hr1 hr2 hr3 hlt2 hl3 hb2 hb22 hw1 hbx HS
      go_wp2_with fail
      go_loopw [5, 7] (fun ov sv wr => ∃ (s : SlV Nl) (M : List UpV), sv = .slice s.a s.n s.c ∧ Firm ov.ownBlock wr (fun W => BxA w2.heap.size x0.a W) ∧ Firm ov.ownBlock wr (fun W => AtOk W x0.a) ∧ Firm ov.ownBlock wr (fun W => SlOk RSy SyOk W r) ∧ Firm ov.ownBlock wr (fun W => SlOk RNl NlOk W s) ∧ NewS w.heap.size s ∧ OwnP RUp UpOk wr w.heap.size ov M ∧ Below w.heap.size w wr ∧ CmT four lo w.heap.size sn tot x0.a.at r.l M s.l) (fun _ sv _ => lenV sv)
      case atStart => exact ⟨s, M, rfl, H0.out⟩
      case round =>
        obtain ⟨⟨ta, tn, tc, tl⟩, M2, rfl, hbx, hA, hr, hs, hns, hown, hb, hct⟩ := hrel
        dsimp only at *
        obtain ⟨w5, rfl⟩ : ∃ w5 : World, w5 = wr := ⟨_, rfl⟩
        obtain ⟨oc2, cc2, rfl, -, -⟩ := hown.own.sl0
        have htn : tn = tl.length := hs.now.sl.len
        have htm : tn ≤ maxLen := hs.now.sl.max
        have htc : tn ≤ tc := hs.now.nc
        have hm2 : M2.length + 1 + tn ≤ 4611687 := by have := hct.len; have := HH.out; omega
        have HM2 := Lib.hid hm2
        obtain ⟨m2, hm2e⟩ : ∃ m2, M2.length = m2 := ⟨_, rfl⟩
        have HM2E := Lib.hid hm2e
        rw [hm2e] at HM2 hbx hA hr hs hown ⊢
        by_cases ht0 : 0 < tn
        · have htt : (0 < tn) = True := eq_true ht0
          have hne : tl ≠ [] := fun e => by rw [e, List.length_nil] at htn; omega
          have HF := Lib.hid (ufit_any hs.now hct.oks hA.now hct.oka)
          obtain ⟨fi, hfi⟩ : ∃ z, fitI szN (4073 - asz four x0.a.at) 1024 tl = z := ⟨_, rfl⟩
          rw [hfi] at HF
          have hf1 : 1 ≤ fi := by rw [← hfi]; exact fitA_pos hct.oka hct.oks hne
          have hf2 : fi ≤ tn := by rw [← hfi, htn]; exact (fitI_le _ _ _ _).1
          obtain ⟨c0, c1, c2, c3, c4, c5⟩ := hbx.now.cells
          have T0 := Lib.hid (And.intro hbx (And.intro hA (And.intro hr (And.intro hs (And.intro hns (And.intro hown (And.intro hb (And.intro hct (And.intro hne (And.intro hfi htn))))))))))
          unfold AtV.v at HF
          clear hbx hA hr hs hns hown hb hct hne hfi htn ht0 hm2e hm2
          go_wp2_with fail
          refine (HF.out).mono ?_
          rintro e V1 ⟨rfl, hb1⟩
          clear c0 c1 c2 c3 c4 c5 HF
          have hf3 : ((0 : Int) ≤ (fi : Int)) = True := by simp
          have hf4 : ((fi : Int) ≤ (tc : Int)) = True := eq_true (by omega)
          have hf5 : ((fi : Int) ≤ (tn : Int)) = True := eq_true (by omega)
          have hfw : IntKind.i64.wrap (fi : Int) = (fi : Int) := IntWalk.i64_in _ (by unfold maxLen at htm; omega)
          have hd := (Below.refl V1.heap.size V1).drew
          have hbd : Below w5.heap.size w5 V1.drew := bcall hb1 (Nat.le_refl _) hd
          have hsV := (T0.out.2.2.2.1.below hbd)
          obtain ⟨s1, hr1, hr2, hst, hsb⟩ := Rep.cut_kkB TNl hsV.now.sl htc (i := fi) hf2
          obtain ⟨s2, hq1, hq2, hsf, hsfn, hsfb⟩ := Rep.cut_from TNl hsV.now.sl htc hsV.now.nil (i := fi) hf2
          obtain ⟨dn, hdn⟩ : ∃ dn, tn - fi = dn := ⟨_, rfl⟩
          rw [hdn] at hq1 hq2 hsf
          have HDN := Lib.hid (And.intro hdn (And.intro hf1 hf2))
          have HB5 := Lib.hid hbd
          have HQ := Lib.hid (And.intro hq1 hq2)
          have K := Lib.hid (T0.out.1.below hbd).now
          have HNW := Lib.hid (And.intro (NewS.cut (sa := s1) (m := fi) (d := fi) (M := tl.take fi) T0.out.2.2.2.2.1 hsV.now.sl (fun h => Nat.lt_of_lt_of_le h hf2) hsb) (NewS.cut (sa := s2) (m := dn) (d := tc - fi) (M := tl.drop fi) T0.out.2.2.2.2.1 hsV.now.sl (fun _ => Nat.lt_of_lt_of_le hf1 hf2) hsfb))
          have HS1 := Lib.hid (show Firm (Value.ownBlock (.slice oc2 m2 cc2)) V1.drew (fun W => SlOk RNl NlOk W ⟨s1, fi, fi, tl.take fi⟩) from hsV.imp fun W hW => by
            obtain ⟨s3, hz1, -, hzf, -⟩ := Rep.cut_kkB TNl hW.sl htc (i := fi) hf2
            have e1 := hr1 W
            rw [hz1 W] at e1
            injection e1 with e1 _
            injection e1 with e1 _ _
            subst e1
            exact ⟨hzf, fun e => hzf.none_zero e, Nat.le_refl _, Nat.le_trans hf2 htm, fun n hn => hW.all n (List.mem_of_mem_take hn)⟩)
          have HS2 := Lib.hid (show Firm (Value.ownBlock (.slice oc2 m2 cc2)) V1.drew (fun W => SlOk RNl NlOk W ⟨s2, dn, tc - fi, tl.drop fi⟩) from hsV.imp fun W hW => by
            obtain ⟨s3, hz1, -, hzf, hzn, -⟩ := Rep.cut_from TNl hW.sl htc hW.nil (i := fi) hf2
            have e1 := hq1 W
            rw [hz1 W] at e1
            injection e1 with e1 _
            injection e1 with e1 _ _
            subst e1
            rw [hdn] at hzf
            exact ⟨hzf, hzn, by show dn ≤ tc - fi; omega, Nat.le_trans (Nat.sub_le _ _) hW.cm, fun n hn => hW.all n (List.mem_of_mem_drop hn)⟩)
          have HC := Lib.hid (copyOf_any (T0.out.2.1.below hbd).now HSM.out)
          unfold AtV.v at HC
          clear hb1 hsV hst hsb hsf hsfn hsfb hdn hbd hd hq1 hq2 hf1 hf2 htc htm
          go_wp2_with fail
          refine wp_region_heldP (BxA w2.heap.size x0.a) (by kernel_rfl) ?_
          generalize V1.drew = V at *
          refine held_reads [0, 1, 2, 3, 4, 5] (g := 5) rfl (by kernel_rfl) K.out (fun _ _ d _ _ h => by cases d <;> exact h) ?_
          simp only [pick, List.getD_cons_zero, List.getD_cons_succ]
          ((with_reducible refine wpRead_step (fun K hK => ?_)); go_simp; first | ((with_reducible refine hK _ ?_); clear hK K) | (apply Exists.intro; (with_reducible refine ⟨fun w' hw' => ?_, hK _ ?_⟩); (first | exact rfl | exact ⟨rfl, rfl⟩); clear hK K))
          ((with_reducible refine wpRead_step (fun K hK => ?_)); go_simp; first | ((with_reducible refine hK _ ?_); clear hK K) | (apply Exists.intro; (with_reducible refine ⟨fun w' hw' => ?_, hK _ ?_⟩); (first | exact rfl | exact ⟨rfl, rfl⟩); clear hK K))
          ((with_reducible refine wpRead_step (fun K hK => ?_)); go_simp; first | ((with_reducible refine hK _ ?_); clear hK K) | (apply Exists.intro; (with_reducible refine ⟨fun w' hw' => ?_, hK _ ?_⟩); (first | exact rfl | exact ⟨rfl, rfl⟩); clear hK K))
          ((with_reducible refine wpRead_step (fun K hK => ?_)); go_simp; first | ((with_reducible refine hK _ ?_); clear hK K) | (apply Exists.intro; (with_reducible refine ⟨fun w' hw' => ?_, hK _ ?_⟩); (first | exact rfl | exact ⟨rfl, rfl⟩); clear hK K))
          ((with_reducible refine wpRead_step (fun K hK => ?_)); go_simp; first | ((with_reducible refine hK _ ?_); clear hK K) | (apply Exists.intro; (with_reducible refine ⟨fun w' hw' => ?_, hK _ ?_⟩); (first | exact rfl | exact ⟨rfl, rfl⟩); clear hK K))
          with_reducible refine wpRead_yes ?_ ?_
          rotate_left
          rfl
          intro K hK
          refine read_load 26 _ rfl w2.heap.size 0 #[.int .i64 x0.a.o, .slice x0.a.p.a x0.a.p.n x0.a.p.c, .int .u32 x0.a.nx, .int .i64 x0.a.md, .int .i64 x0.a.pf, .slice x0.a.c.a x0.a.c.n x0.a.c.c] rfl (fun w' hw' => range_box hw') Try.underlying26 rfl (by kernel_rfl) (hK _ ?_)
          clear hK K
          with_reducible refine wpRead_nil ?_
          clear hr1 hr2 hfw hf3 hf4 hf5
          refine held_one 6 (by kernel_rfl) ?_
          simp only [pick, List.getD_cons_zero, List.getD_cons_succ]
          go_wp2_with fail
          refine (HC.out).mono ?_
          rintro e V2 ⟨y, rfl, hy1, hy2, hy3, hb2⟩
          have K2 := Lib.hid (K.out.keep hb2)
          have HY := Lib.hid (And.intro hy1 (And.intro hy2 (And.intro hy3 hb2)))
          clear hy1 hy2 hy3 hb2 HC K
          go_wp2_with fail
          refine ⟨K2.out, ?_⟩
          refine held_reads [7] (g := 3) rfl (by kernel_rfl) K2.out (fun _ _ d _ _ h => by cases d <;> exact h) ?_
          simp only [pick, List.getD_cons_zero, List.getD_cons_succ]
          ((with_reducible refine wpRead_step (fun K hK => ?_)); go_simp; first | ((with_reducible refine hK _ ?_); clear hK K) | (apply Exists.intro; (with_reducible refine ⟨fun w' hw' => ?_, hK _ ?_⟩); (first | exact rfl | exact ⟨rfl, rfl⟩); clear hK K))
          with_reducible refine wpRead_nil ?_
          refine held_one 8 (by kernel_rfl) ?_
          simp only [pick, List.getD_cons_zero, List.getD_cons_succ]
          have hal := (Below.refl V2.heap.size V2).alloc (Nat.le_refl _) (.cells #[.slice none 0 0, .slice s1 fi fi, .int .i64 y.o, .slice y.p.a y.p.n y.p.c, .int .u32 y.nx, .int .i64 y.md, .int .i64 y.pf, .slice y.c.a y.c.n y.c.c, .bool false] 48)
          have K3 := Lib.hid (K2.out.keep hal)
          have HAL := Lib.hid hal
          clear hal
          go_wp2_with fail
          refine ⟨K3.out, ?_⟩
          refine held_one 9 (by kernel_rfl) ?_
          simp only [pick, List.getD_cons_zero, List.getD_cons_succ]
          go_wp2_with (at_builtin; refine halt ?_)
          refine Halted.go ?_
          have hVA : Below V.heap.size V (V2.alloc (.cells #[.slice none 0 0, .slice s1 fi fi, .int .i64 y.o, .slice y.p.a y.p.n y.p.c, .int .u32 y.nx, .int .i64 y.md, .int .i64 y.pf, .slice y.c.a y.c.n y.c.c, .bool false] 48)) := bcall HY.out.2.2.2 (Nat.le_refl _) HAL.out
          have hbA : Below w5.heap.size w5 (V2.alloc (.cells #[.slice none 0 0, .slice s1 fi fi, .int .i64 y.o, .slice y.p.a y.p.n y.p.c, .int .u32 y.nx, .int .i64 y.md, .int .i64 y.pf, .slice y.c.a y.c.n y.c.c, .bool false] 48)) := bcall HB5.out (Nat.le_refl _) hVA
          refine Rep.append_listQ TUp rfl _ _ rfl rfl (T0.out.2.2.2.2.2.1.below hbA) rfl (Rep.sl_one (R := RUp) (y := (⟨⟨none, 0, 0, []⟩, ⟨s1, fi, fi, tl.take fi⟩, y, false⟩ : UpV)) (hnew _ _)) (fun h => by cases h) (fun z hz => by
            rw [List.mem_singleton] at hz
            subst hz
            have hg2 : ∀ k, Value.ownBlock (.slice oc2 m2 cc2) = some k → k < V.heap.size := fun k hk => Nat.lt_of_lt_of_le (World.ownsRow.lt T0.out.2.2.2.2.2.1.own k hk).2 HB5.out.size
            have hA : Firm (Value.ownBlock (.slice oc2 m2 cc2)) (V2.alloc (.cells #[.slice none 0 0, .slice s1 fi fi, .int .i64 y.o, .slice y.p.a y.p.n y.p.c, .int .u32 y.nx, .int .i64 y.md, .int .i64 y.pf, .slice y.c.a y.c.n y.c.c, .bool false] 48)) (fun W => AtOk W y) := (HY.out.1.keep HAL.out).firm (HY.out.2.1.far hg2)
            exact fun W hW => ⟨slZ, HS1.out.below hVA W hW, hA W hW⟩) (by have := HM2.out; rw [HM2E.out]; unfold maxLen; omega) (by have := HM2.out; rw [HM2E.out]; omega) (Nat.le_trans T0.out.2.2.2.2.2.2.1.size hbA.size) ?_
          intro v10 V10 hown10 hb10 hz10
          have hVw : w.heap.size ≤ V.heap.size := Nat.le_trans T0.out.2.2.2.2.2.2.1.size HB5.out.size
          have HO := Lib.hid (And.intro (hz10 _ (T0.out.1.below hbA)) (And.intro (hz10 _ (T0.out.2.1.below hbA)) (And.intro (hz10 _ (T0.out.2.2.1.below hbA)) (And.intro (hz10 _ (HS2.out.below hVA)) (And.intro HNW.out.2 (And.intro hown10 (And.intro ((bcall T0.out.2.2.2.2.2.2.1 (Nat.le_refl _) hbA).trans hb10) (T0.out.2.2.2.2.2.2.2.1.step T0.out.2.2.2.2.2.2.2.2.1 T0.out.2.2.2.2.2.2.2.2.2.1 (x := (⟨⟨none, 0, 0, []⟩, ⟨s1, fi, fi, tl.take fi⟩, y, false⟩ : UpV)) (by show (⟨[], tl.take fi, y.at, false⟩ : Up) = _; rw [HY.out.2.2.1]; rfl) ⟨ApS.none, HNW.out.1.ap (Nat.le_refl _), HY.out.2.1.ap hVw⟩))))))))
          have K4 := Lib.hid HO.out.1.now
          clear hVA hbA hVw hown10 hb10 hz10 K3
          go_wp2_with fail
          refine ⟨K4.out, ?_⟩
          refine held_one 10 (by kernel_rfl) ?_
          simp only [pick, List.getD_cons_zero, List.getD_cons_succ]
          go_wp2_with fail
          refine ⟨K4.out, ?_⟩
          refine wpAnyH_done (by kernel_rfl) ?_ _
          obtain ⟨hq1, hq2⟩ := HQ.out
          have hf3 : ((0 : Int) ≤ (fi : Int)) = True := by simp
          have hf5 : ((fi : Int) ≤ (tn : Int)) = True := eq_true (by have := HDN.out.2.2; omega)
          go_wp2_with fail
          exact ⟨⟨⟨s2, dn, tc - fi, tl.drop fi⟩, _, rfl, HO.out⟩, by show dn < tn; have := HDN.out; omega⟩
        · obtain rfl : tn = 0 := by omega
          obtain rfl : tl = [] := List.length_eq_zero_iff.1 htn.symm
          have HE := Lib.hid (And.intro hr (And.intro hct.outer (And.intro hown hb)))
          have HRL := Lib.hid (show lenV (.slice r.a r.n r.c) < lenV (.slice (some ⟨b, o, none⟩) ln lc) from by
            show r.n < ln
            have h1 : r.n = r.l.length := hr.now.sl.len
            have h5 := HRL0.out
            have h6 := G.out.2.2.2.2.2.1
            omega)
          clear hbx hA hr hs hns hown hb hct htn htm htc ht0 hm2 hm2e
          go_wp2_with fail
          exact ⟨⟨r, M2, rfl, HE.out.1, HE.out.2.1, HE.out.2.2.1, HE.out.2.2.2⟩, HRL.out⟩
    · obtain rfl : ln = 0 := by omega
      obtain rfl : ll = [] := List.length_eq_zero_iff.1 hln.symm
      have HE := Lib.hid (And.intro hown (And.intro hg.done (And.intro hg.ap hb)))
      generalize M.length = m at *
      clear hs hg hown hb hln h0
      go_wp2_with fail
      go_ret
      exact ⟨_, M, rfl, HE.out.1, HE.out.2⟩
end Go.Proofs.Ytadoflcomienoaa
