/- Capa in memory; capa.New, made, Get. -/
import Derived.Test.YtlkbaplfffbmkaaKad
import Derived.Shelf.Bits.Mul64
import Derived.Test.YtlkbaplfffbmkaaKaa
namespace Go.Proofs.Ytlkbaplfffbmkaa
open Go.RowKit

/-- what an interface carries -/
structure Cy where
  id : Int
  cp : Int
  dr : Bool
deriving Inhabited
def Cy.v (x : Cy) : Value := .agg #[.int .i64 x.id, .int .i64 x.cp, .bool x.dr]
def CGet (D : HD) (S : Int → Option Cy) (id : Int) : Option Cy := match D.get id with
  | none => none
  | some x => some ((S id).getD ⟨id, x.cp, false⟩)
structure CapAt (w0 w : World) (c bm h : Nat) (D : HD) (S : Int → Option Cy) : Prop where
  hop : HopsAt w0 h D
  bel : Below w0.heap.size w0 w
  hc : w0.heap.size ≤ c
  hm : w0.heap.size ≤ bm
  ne : c ≠ bm
  out : ∃ (clk : Nat) (es : List (MR.Ent Int)) (cs : Array Value), w.heap[c]? = some (.cells cs 101) ∧ cs[0]? = some (.pointer (some ⟨h, 0, none⟩)) ∧ cs[1]? = some (.map (some bm)) ∧ (∀ i, i < 16 → ∃ s a b, cs[2 + 3 * i]? = some (.int .i64 s) ∧ cs[2 + 3 * i + 1]? = some (.int .i64 a) ∧ cs[2 + 3 * i + 2]? = some (.bool b)) ∧ MR.MapAt IN w bm es clk ∧ ∀ id, MR.get? es id = (S id).map Cy.v
theorem CapAt.keep {w0 w w' : World} {c bm h : Nat} {D : HD} {S : Int → Option Cy} (H : CapAt w0 w c bm h D S) (hb : Below w.heap.size w w') : CapAt w0 w' c bm h D S := by
  obtain ⟨clk, es, cs, h1, h2, h3, h4, h5, h6⟩ := H.out
  exact ⟨H.hop, bcall H.bel (Nat.le_refl _) hb, H.hc, H.hm, H.ne, clk, es, cs, (hb.block _ (lt_of_blk h1)).trans h1, h2, h3, h4, h5.blk_iff IN (hb.block _ (lt_of_blk h5.blk)), h6⟩
theorem CapAt.hops {w0 w : World} {c bm h : Nat} {D : HD} {S : Int → Option Cy} (H : CapAt w0 w c bm h D S) : HopsAt w h D := H.hop.keep H.bel
theorem zero52 (w : World) : (zeroValue 69).run Try.prog w = .ok (.agg #[.int .i64 0, .int .i64 0, .bool false]) w := by kernel_rfl
set_option maxRecDepth 100000 in
theorem cnew_ok {w : World} {h : Nat} {D : HD} (H : HopsAt w h D) : Calls Try.prog 23 #[.pointer (some ⟨h, 0, none⟩)] w fun e w' => ∃ c bm, e = .returned (.tuple #[.pointer (some ⟨c, 0, none⟩), .int .i64 0]) ∧ CapAt w w' c bm h D (fun _ => none) := by
  have G := Lib.hid H
  clear H
  have hmm := @run_makeMap Try.prog
  go_enter Try.func23, Try.ntmps23
  go_wp2_with fail
  go_ret2
  refine ⟨w.heap.size + 1, w.heap.size, rfl, G.out, ((Below.refl _ _).alloc (Nat.le_refl _) _).alloc (by simp) _, by omega, Nat.le_refl _, by omega, 0, [], _, hnewAt (by simp), rfl, rfl, fun i hi => ?_, MR.mapAt_made IN (hold (hnew _ _)), fun _ => rfl⟩
  have : i = 0 ∨ i = 1 ∨ i = 2 ∨ i = 3 ∨ i = 4 ∨ i = 5 ∨ i = 6 ∨ i = 7 ∨ i = 8 ∨ i = 9 ∨ i = 10 ∨ i = 11 ∨ i = 12 ∨ i = 13 ∨ i = 14 ∨ i = 15 := by omega
  rcases this with rfl | rfl | rfl | rfl | rfl | rfl | rfl | rfl | rfl | rfl | rfl | rfl | rfl | rfl | rfl | rfl <;> exact ⟨_, _, _, rfl, rfl, rfl⟩
set_option maxRecDepth 100000 in
theorem cnew_nil (w : World) : Calls Try.prog 23 #[.pointer none] w fun e w' => e = .returned (.tuple #[.pointer none, .int .i64 1]) ∧ w' = w := by
  go_enter Try.func23, Try.ntmps23
  go_wp2_with fail
  go_ret2
  exact ⟨rfl, rfl⟩
set_option maxRecDepth 100000 in
theorem made_nil (w : World) : Calls Try.prog 51 #[.pointer none] w fun e w' => e = .returned (.bool false) ∧ w' = w := by
  go_enter Try.func51, Try.ntmps51
  go_wp2_with fail
  go_ret
  exact ⟨rfl, rfl⟩
set_option maxRecDepth 100000 in
theorem made_any {w0 w : World} {c bm h : Nat} {D : HD} {S : Int → Option Cy} (H : CapAt w0 w c bm h D S) : Calls Try.prog 51 #[.pointer (some ⟨c, 0, none⟩)] w fun e w' => e = .returned (.bool true) ∧ w' = w := by
  obtain ⟨clk, es, cs, h1, h2, h3, h4, h5, h6⟩ := H.out
  have c1 : w.cell? ⟨c, 1, none⟩ = some (.map (some bm)) := cell_of h1 h3
  clear h1 h2 h3 h4 h5 h6 H
  have hne : (binOp BinOp.neq 96 (.map (some bm)) (.map none)).run Try.prog w = .ok (.bool true) w := by kernel_rfl
  go_enter Try.func51, Try.ntmps51
  go_wp2_with fail
  go_ret
  exact ⟨rfl, rfl⟩
set_option maxRecDepth 100000 in
theorem get_nil (id : Int) (w : World) : Calls Try.prog 33 #[.pointer none, .int .i64 id] w fun e w' => e = .returned (.tuple #[.agg #[.int .i64 0, .int .i64 0, .bool false], .bool false]) ∧ Below w.heap.size w w' := by
  go_enter Try.func33, Try.ntmps33
  go_wp2_with fail
  refine (made_nil _).mono ?_
  rintro e W ⟨rfl, hW⟩
  subst W
  go_wp2_with (with_reducible refine halt_store 69 (x := .tmp 4) rfl ?_)
  refine Halted.go ?_
  refine store_whole rfl 69 _ _ rfl w.heap.size #[.int .i64 0, .int .i64 0, .bool false] rfl rfl (hnew _ _) rfl (by kernel_rfl) (by simp [Value.oneCell']) ?_
  intro Wz hwz hsz
  have HZ := Lib.hid (And.intro hwz (Below.trans ((Below.refl w.heap.size w).alloc (Nat.le_refl _) _) (hsz.below (Nat.le_refl _))))
  clear hwz hsz
  go_wp2_with fail
  refine ret_cell2 rfl rfl rfl HZ.out.1 Try.underlying69 rfl (by kernel_rfl) ?_
  exact ⟨rfl, HZ.out.2⟩
set_option maxRecDepth 100000 in
set_option maxHeartbeats 1000000 in
theorem get_any {w0 w : World} {c bm h : Nat} {D : HD} {S : Int → Option Cy} (H : CapAt w0 w c bm h D S) {id : Int} (hid : IN.ok id) (r : Cy) (is : Bool) (hr : CGet D S id = if is then some r else none) (hz : is = false → r = ⟨0, 0, false⟩) : Calls Try.prog 33 #[.pointer (some ⟨c, 0, none⟩), .int .i64 id] w fun e w' => e = .returned (.tuple #[r.v, .bool is]) ∧ Below w.heap.size w w' := by
  have hal := (Below.refl w.heap.size w).alloc (Nat.le_refl _) (.cells #[.int .i64 0, .int .i64 0, .bool false] 69)
  have H1 := H.keep hal
  have hzero : (w.alloc (.cells #[.int .i64 0, .int .i64 0, .bool false] 69)).heap[w.heap.size]? = some (.cells #[.int .i64 0, .int .i64 0, .bool false] 69 (0, 0)) := hnew _ _
  obtain ⟨clk, es, cs, h1, h2, h3, h4, h5, h6⟩ := H1.out
  have c0 : (w.alloc (.cells #[.int .i64 0, .int .i64 0, .bool false] 69)).cell? ⟨c, 0, none⟩ = some (.pointer (some ⟨h, 0, none⟩)) := cell_of h1 h2
  have HM := Lib.hid (made_any H1)
  have F := Lib.hid (And.intro hal (And.intro H1 (And.intro hzero (And.intro hid (And.intro hr hz)))))
  have HP := Lib.hid H1.hops
  clear h1 h2 h3 h4 h5 h6 H hal H1 hzero hr hz hid
  go_enter Try.func33, Try.ntmps33
  go_wp2_with fail
  refine (HM.out).mono ?_
  rintro e W ⟨rfl, hW⟩
  generalize w.alloc (.cells #[.int .i64 0, .int .i64 0, .bool false] 69) = W1 at *
  subst W
  go_wp2_with fail
  rcases hG : D.get id with _ | x
  · have hI := iface_any HP.out F.out.2.2.2.1 ⟨0, 0, 0, 0, 0⟩ false (by rw [hG]; rfl) (fun _ => rfl)
    obtain rfl : is = false := by
      have := F.out.2.2.2.2.1
      unfold CGet at this; rw [hG] at this
      cases is with
      | false => rfl
      | true => cases this
    have hr0 := F.out.2.2.2.2.2 rfl
    subst hr0
    refine hI.mono ?_
    rintro e W2 ⟨rfl, hb2⟩
    have F2 := Lib.hid (And.intro (bcall F.out.1 (Nat.le_refl _) hb2) ((hb2.block _ (lt_of_blk F.out.2.2.1)).trans F.out.2.2.1))
    clear hb2 hI HM HP F c0
    unfold If.v
    go_wp2_with (with_reducible refine halt_store 69 (x := .tmp 4) rfl ?_)
    refine Halted.go ?_
    have hal3 := (Below.refl W2.heap.size W2).alloc (Nat.le_refl _) (.cells #[.int .i64 0, .int .i64 0, .int .u32 ((0 : Nat) : Int), .int .i64 0, .int .i64 0] 34)
    refine store_whole rfl 69 _ _ rfl w.heap.size #[.int .i64 0, .int .i64 0, .bool false] rfl rfl (hold F2.out.2) rfl (by kernel_rfl) (by simp [Value.oneCell']) ?_
    intro Wz hwz hsz
    have HZ := Lib.hid (And.intro hwz (Below.trans (bcall F2.out.1 (Nat.le_refl _) hal3) (hsz.below (Nat.le_refl _))))
    clear hwz hsz hal3
    go_wp2_with fail
    refine ret_cell2 rfl rfl rfl HZ.out.1 Try.underlying69 rfl (by kernel_rfl) ?_
    exact ⟨rfl, HZ.out.2⟩
  · have hI := iface_any HP.out F.out.2.2.2.1 x true hG (fun h => by cases h)
    have hcg : CGet D S id = some ((S id).getD ⟨id, x.cp, false⟩) := by unfold CGet; rw [hG]
    rw [hcg] at F
    obtain ⟨rfl, hry⟩ : is = true ∧ (S id).getD ⟨id, x.cp, false⟩ = r := by
      have := F.out.2.2.2.2.1
      cases is with
      | false => cases this
      | true => exact ⟨rfl, by injection this⟩
    refine hI.mono ?_
    rintro e W2 ⟨rfl, hb2⟩
    have hal3 := (Below.refl W2.heap.size W2).alloc (Nat.le_refl _) (.cells #[.int .i64 x.id, .int .i64 x.r, .int .u32 (x.ad : Nat), .int .i64 x.ln, .int .i64 x.cp] 34)
    have H3 := (F.out.2.1.keep hb2).keep hal3
    have hxs : IfS W2.heap.size x (W2.alloc (.cells #[.int .i64 x.id, .int .i64 x.r, .int .u32 (x.ad : Nat), .int .i64 x.ln, .int .i64 x.cp] 34)) := hnew _ _
    have h0 : (W2.alloc (.cells #[.int .i64 x.id, .int .i64 x.r, .int .u32 (x.ad : Nat), .int .i64 x.ln, .int .i64 x.cp] 34)).heap[w.heap.size]? = some (.cells #[.int .i64 0, .int .i64 0, .bool false] 69 (0, 0)) := hold ((hb2.block _ (lt_of_blk F.out.2.2.1)).trans F.out.2.2.1)
    have F2 := Lib.hid (And.intro (bcall (bcall F.out.1 (Nat.le_refl _) hb2) (Nat.le_refl _) hal3) (And.intro h0 hxs))
    obtain ⟨clk, es, cs, h1, h2, h3, h4, h5, h6⟩ := H3.out
    have c1 : (W2.alloc (.cells #[.int .i64 x.id, .int .i64 x.r, .int .u32 (x.ad : Nat), .int .i64 x.ln, .int .i64 x.cp] 34)).cell? ⟨c, 1, none⟩ = some (.map (some bm)) := cell_of h1 h3
    have hlk := MR.run_lookup IN h5 F.out.2.2.2.1 Try.underlying96 zero52 true
    rw [h6, if_pos rfl] at hlk
    obtain ⟨z0, z1, z2, z3, z4⟩ := hxs.cells
    clear hb2 hI HM HP F c0 h1 h2 h3 h4 h5 h6 h0 hxs hal3 H3 hcg
    unfold If.v
    generalize hS : S id = s at *
    cases s with
    | some y =>
      obtain rfl : y = r := hry
      have hlk' : (Instr.lookup 96 (.map (some bm)) (.int .i64 id) true).run Try.prog (W2.alloc (.cells #[.int .i64 x.id, .int .i64 x.r, .int .u32 (x.ad : Nat), .int .i64 x.ln, .int .i64 x.cp] 34)) = .ok (.tuple #[.agg #[.int .i64 y.id, .int .i64 y.cp, .bool y.dr], .bool true]) (W2.alloc (.cells #[.int .i64 x.id, .int .i64 x.r, .int .u32 (x.ad : Nat), .int .i64 x.ln, .int .i64 x.cp] 34)) := hlk
      clear hlk hS
      go_wp2_with (with_reducible refine halt_store 69 (x := .tmp 4) rfl ?_)
      refine Halted.go ?_
      generalize W2.alloc (.cells #[.int .i64 x.id, .int .i64 x.r, .int .u32 (x.ad : Nat), .int .i64 x.ln, .int .i64 x.cp] 34) = W3 at *
      have hal3 := (Below.refl W3.heap.size W3).alloc (Nat.le_refl _) (.cells #[.int .i64 y.id, .int .i64 y.cp, .bool y.dr] 69)
      refine store_whole rfl 69 _ _ rfl w.heap.size #[.int .i64 y.id, .int .i64 y.cp, .bool y.dr] rfl rfl (hold F2.out.2.1) rfl (by kernel_rfl) (by simp [Value.oneCell']) ?_
      intro Wz hwz hsz
      have HZ := Lib.hid (And.intro hwz (Below.trans (bcall F2.out.1 (Nat.le_refl _) hal3) (hsz.below (Nat.le_refl _))))
      clear hwz hsz hal3
      go_wp2_with fail
      refine ret_cell2 rfl rfl rfl HZ.out.1 Try.underlying69 rfl (by kernel_rfl) ?_
      exact ⟨rfl, HZ.out.2⟩
    | none =>
      obtain rfl : (⟨id, x.cp, false⟩ : Cy) = r := hry
      have hlk' : (Instr.lookup 96 (.map (some bm)) (.int .i64 id) true).run Try.prog (W2.alloc (.cells #[.int .i64 x.id, .int .i64 x.r, .int .u32 (x.ad : Nat), .int .i64 x.ln, .int .i64 x.cp] 34)) = .ok (.tuple #[.agg #[.int .i64 0, .int .i64 0, .bool false], .bool false]) (W2.alloc (.cells #[.int .i64 x.id, .int .i64 x.r, .int .u32 (x.ad : Nat), .int .i64 x.ln, .int .i64 x.cp] 34)) := hlk
      clear hlk hS
      go_wp2_with (with_reducible refine halt_store 69 (x := .tmp 4) rfl ?_)
      refine Halted.go ?_
      generalize W2.alloc (.cells #[.int .i64 x.id, .int .i64 x.r, .int .u32 (x.ad : Nat), .int .i64 x.ln, .int .i64 x.cp] 34) = W3 at *
      have hal3 := (Below.refl W3.heap.size W3).alloc (Nat.le_refl _) (.cells #[.int .i64 0, .int .i64 0, .bool false] 69)
      refine store_whole rfl 69 _ _ rfl w.heap.size #[.int .i64 id, .int .i64 x.cp, .bool false] rfl rfl (hold F2.out.2.1) rfl (by kernel_rfl) (by simp [Value.oneCell']) ?_
      intro Wz hwz hsz
      have HZ := Lib.hid (And.intro hwz (Below.trans (bcall F2.out.1 (Nat.le_refl _) hal3) (hsz.below (Nat.le_refl _))))
      clear hwz hsz hal3
      go_wp2_with fail
      refine ret_cell2 rfl rfl rfl HZ.out.1 Try.underlying69 rfl (by kernel_rfl) ?_
      exact ⟨rfl, HZ.out.2⟩
end Go.Proofs.Ytlkbaplfffbmkaa
/- num.Part of a thousandth, near what the reference's says. -/
namespace Go.Proofs.Ytlkbaplfffbmkaa
open Go.Shelf Go.RowKit

def mul_ren : Go.Shelf.Ren := ⟨fun | 264 => 81 | n => n, fun | 46 => 120 | 53 => 123 | n => n, fun n => n⟩
theorem mul_lays : Lays.n264 Try.prog mul_ren := {
  mixed := by kernel_rfl
  f264 := Try.func81.trans (congrArg some (by kernel_rfl))
  t46 := Try.underlying120
  a46 := Try.isAgg120
  z46 := Try.sizeOf120
  v46 := Try.zeroValue120
  t53 := Try.underlying123
  a53 := Try.isAgg123
  z53 := Try.sizeOf123
  v53 := Try.zeroValue123 }
theorem mul_any (x y : Nat) (hx : x < 18446744073709551616) (hy : y < 18446744073709551616) (w : World) : Calls Try.prog 81 #[.int .u64 x, .int .u64 y] w fun e w' => e = .returned (.tuple #[.int .u64 ((x * y / 18446744073709551616 : Nat) : Int), .int .u64 ((x * y % 18446744073709551616 : Nat) : Int)]) ∧ w' = w := Any.bits_Mul64 mul_lays x y hx hy w
theorem near_ok {x : Int} (h0 : 0 ≤ x) (h1 : x ≤ 9007199254740991) (w : World) : Calls Try.prog 66 #[.int .i64 x] w fun e w' => e = .returned (.int .i64 x) ∧ w' = w := by
  have hm : max x 0 = x := by omega
  have hn : min x 9007199254740991 = x := by omega
  go_enter Try.func66, Try.ntmps66
  go_wp2_with fail
  go_ret
  exact ⟨ret_int (by omega), rfl⟩
theorem wide_ok {x y : Nat} (h1 : x ≤ 9007199254740991) (h2 : y ≤ 1000) (w : World) : Calls Try.prog 65 #[.int .i64 (x : Int), .int .i64 (y : Int)] w fun e w' => e = .returned (.tuple #[.int .u64 0, .int .u64 ((x * y : Nat) : Int)]) ∧ w' = w := by
  have hn1 := Lib.hid (fun w => near_ok (x := (x : Int)) (by omega) (by omega) w)
  have hn2 := Lib.hid (fun w => near_ok (x := (y : Int)) (by omega) (by omega) w)
  have hm := mul_any x y (by omega) (by omega) w
  have hxy : x * y ≤ 9007199254740991 * 1000 := Nat.mul_le_mul h1 h2
  rw [show x * y / 18446744073709551616 = 0 from Nat.div_eq_of_lt (by omega), show x * y % 18446744073709551616 = x * y from Nat.mod_eq_of_lt (by omega)] at hm
  have hmm := Lib.hid hm
  have hw1 : IntKind.u64.wrap (x : Int) = (x : Int) := by rw [IntKind.wrap_u64]; omega
  have hw2 : IntKind.u64.wrap (y : Int) = (y : Int) := by rw [IntKind.wrap_u64]; omega
  have hx2 : ((x : Int) % 18446744073709551616) = (x : Int) := by omega
  have hy2 : ((y : Int) % 18446744073709551616) = (y : Int) := by omega
  clear hm h1 h2 hxy
  generalize x * y = z at *
  go_enter Try.func65, Try.ntmps65
  go_wp2_with fail
  refine (hn1.out _).mono ?_
  rintro e w1 ⟨rfl, hw⟩
  subst hw
  go_wp2_with fail
  refine (hn2.out _).mono ?_
  rintro e w1 ⟨rfl, hw⟩
  subst hw
  go_wp2_with fail
  refine hmm.out.mono ?_
  rintro e w1 ⟨rfl, hw⟩
  subst hw
  go_wp2_with fail
  go_ret2
  exact ⟨rfl, rfl⟩
set_option maxRecDepth 100000 in
theorem div_ok (z : Nat) (hz : z < 18446744073709551616) (w : World) : Calls Try.prog 67 #[.int .u64 0, .int .u64 (z : Int), .int .u64 1000] w fun e w' => e = .returned (.tuple #[.int .u64 ((z / 1000 : Nat) : Int), .int .u64 ((z % 1000 : Nat) : Int)]) ∧ Below w.heap.size w w' := by
  have hb := Lib.hid ((Below.refl w.heap.size w).drew)
  obtain ⟨q, hq⟩ : ∃ q, ((z / 1000 : Nat) : Int) = q := ⟨_, rfl⟩
  obtain ⟨r, hr⟩ : ∃ r, ((z % 1000 : Nat) : Int) = r := ⟨_, rfl⟩
  rw [hq, hr]
  have hd1 : (z : Int).tdiv 1000 = q := by rw [Int.tdiv_eq_ediv_of_nonneg (by omega)]; omega
  have hr1 : (z : Int).tmod 1000 = r := by rw [Int.tmod_eq_emod_of_nonneg (by omega)]; omega
  have hwq : IntKind.u64.wrap q = q := by rw [IntKind.wrap_u64]; omega
  have hz0 : ((z : Int) < 0) = False := by simp
  obtain ⟨y, hy⟩ : ∃ y : Int, (z : Int) = y := ⟨_, rfl⟩
  rw [hy] at hd1 hr1 hz0 ⊢
  have hy0 : (0 : Int) ≤ y ∧ y < 18446744073709551616 := by omega
  clear hq hr hy hz
  go_enter Try.func67, Try.ntmps67
  go_wp2_with fail
  refine wp_region_pieces (by kernel_rfl) ?_
  refine wpAny_pure [0, 1, 2, 3, 4, 5] (g := 2) rfl (by kernel_rfl) (fun _ _ d _ _ h => by cases d <;> exact h) ?_
  simp only [pick, List.getD_cons_zero, List.getD_cons_succ]
  iterate 6 ((with_reducible refine wpPure_step (fun K hK => ?_)); go_simp; with_reducible refine hK _ ?_; clear hK K)
  with_reducible refine wpPure_nil ?_
  refine wpAny_one 6 (by kernel_rfl) ?_
  simp only [pick, List.getD_cons_zero, List.getD_cons_succ]
  go_wp2_with fail
  refine wpAny_one 7 (by kernel_rfl) ?_
  simp only [pick, List.getD_cons_zero, List.getD_cons_succ]
  go_wp2_with fail
  refine wpAny_done (by kernel_rfl) ?_ _
  go_wp2_with fail
  go_ret2
  exact ⟨rfl, hb.out⟩
end Go.Proofs.Ytlkbaplfffbmkaa
/- num.Part of thousandths; the reference's. -/
namespace Go.Proofs.Ytlkbaplfffbmkaa
open Go.RowKit

theorem part_ok {x y : Nat} (h1 : x ≤ 9007199254740991) (h2 : y ≤ 1000) (w : World) : Calls Try.prog 53 #[.int .i64 (x : Int), .int .i64 (y : Int), .int .i64 1000] w fun e w' => e = .returned (.int .i64 ((x * y / 1000 : Nat) : Int)) ∧ Below w.heap.size w w' := by
  have hw1 := Lib.hid (fun w => wide_ok h1 h2 w)
  have hw2 := Lib.hid (fun w => near_ok (x := 1000) (by decide) (by decide) w)
  have hxy : x * y ≤ 9007199254740991 * 1000 := Nat.mul_le_mul h1 h2
  have hw3 := Lib.hid (fun w => div_ok (x * y) (by omega) w)
  have hq9 : x * y / 1000 ≤ 9007199254740991 := by omega
  generalize x * y / 1000 = q at *
  generalize x * y % 1000 = r at *
  generalize x * y = z at *
  have hq1 : (9007199254740991 < (q : Int)) = False := by simp; omega
  clear h1 h2 hxy
  go_enter Try.func53, Try.ntmps53
  go_wp2_with fail
  refine (hw1.out _).mono ?_
  rintro e w1 ⟨rfl, hw⟩
  subst hw
  go_wp2_with fail
  refine (hw2.out _).mono ?_
  rintro e w1 ⟨rfl, hw⟩
  subst hw
  go_wp2_with fail
  refine (hw3.out _).mono ?_
  rintro e w1 ⟨rfl, hw⟩
  have hb := Lib.hid hw
  clear hw
  go_wp2_with fail
  go_ret
  exact ⟨ret_int (by first | rfl | omega), hb.out⟩
end Go.Proofs.Ytlkbaplfffbmkaa
/- The reference's Part, of thousandths. -/
namespace Go.Proofs.Ytlkbaplfffbmkaa
open Go.RowKit

theorem rnear_ok {x : Int} (h0 : 0 ≤ x) (h1 : x ≤ 9007199254740991) (w : World) : Calls Try.prog 68 #[.int .i64 x] w fun e w' => e = .returned (.int .i64 x) ∧ w' = w := by
  have hm : (x < 0) = False := by simp; omega
  have hn : (9007199254740991 < x) = False := by simp; omega
  go_enter Try.func68, Try.ntmps68
  go_wp2_with fail
  go_ret
  exact ⟨rfl, rfl⟩
theorem and_one (X : Nat) (hX : X ≤ 9007199254740991) : bits .and .i64 (X : Int) 1 = ((X % 2 : Nat) : Int) := by
  show IntKind.i64.wrap ((BitVec.ofInt 64 (X : Int) &&& BitVec.ofInt 64 1).toNat : Nat) = _
  have e1 : BitVec.ofInt 64 (X : Int) = BitVec.ofNat 64 X := by simp
  have e2 : BitVec.ofInt 64 1 = BitVec.ofNat 64 1 := by decide
  rw [e1, e2, BitVec.toNat_and, BitVec.toNat_ofNat, BitVec.toNat_ofNat]
  rw [Nat.mod_eq_of_lt (a := X) (by omega), Nat.mod_eq_of_lt (a := 1) (by omega), Nat.and_one_is_mod, IntKind.wrap_i64]
  have h2 : X % 2 < 2 := Nat.mod_lt _ (by decide)
  generalize X % 2 = y at *
  omega
/-- a number's highest bits -/
def shr (x k : Nat) : Nat := x / 2 ^ k
theorem shr_0 (x : Nat) : shr x 0 = x := by simp [shr]
theorem shr_53 {x : Nat} (h : x ≤ 9007199254740991) : shr x 53 = 0 := Nat.div_eq_of_lt (by omega)
theorem shr_succ (x j : Nat) : shr x (j + 1) = shr x j / 2 := by unfold shr; rw [Nat.pow_succ, Nat.div_div_eq_div_mul]
theorem shr_le (x j : Nat) : shr x j ≤ x := Nat.div_le_self _ _
theorem shr_int (x j : Nat) : (x : Int) / (2 : Int) ^ j = ((shr x j : Nat) : Int) := by unfold shr; rw [Int.natCast_ediv, Int.natCast_pow]; rfl
theorem wrap_id {n : Int} (h0 : 0 ≤ n) (h1 : n ≤ 4611686018427387904) : wrap64 n = n := by unfold wrap64; omega
/-- one round's numbers, ahead and behind -/
structure PartS (x y k Q R : Nat) : Prop where
  eq : Q * 1000 + R = shr x k * y
  lt : R < 1000
theorem PartS.start {x : Nat} (h : x ≤ 9007199254740991) (y : Nat) : PartS x y 53 0 0 := ⟨by rw [shr_53 h]; simp, by decide⟩
theorem PartS.fin {x y Q R : Nat} (h : PartS x y 0 Q R) : x * y / 1000 = Q := by
  obtain ⟨h1, h2⟩ := h
  rw [shr_0] at h1
  rw [← h1]; omega
set_option maxRecDepth 100000 in
theorem PartS.next {x y j Q R X : Nat} (h : PartS x y (j + 1) Q R) (h1 : x ≤ 9007199254740991) (h2 : y ≤ 1000) (hX : shr x j = X) :
    Q ≤ 9007199254740991 ∧ R < 1000 ∧ (X % 2 = 0 → PartS x y j (2 * Q + 2 * R / 1000) (2 * R % 1000) ∧ 2 * Q + 2 * R / 1000 ≤ 9007199254740991) ∧ (X % 2 = 1 → PartS x y j (2 * Q + (2 * R + y) / 1000) ((2 * R + y) % 1000) ∧ 2 * Q + (2 * R + y) / 1000 ≤ 9007199254740991) := by
  obtain ⟨h3, h4⟩ := h
  have hle := shr_le x j
  rw [shr_succ, hX] at h3
  rw [hX] at hle
  have hXy : X * y ≤ x * 1000 := Nat.mul_le_mul hle h2
  have hX2 : X = 2 * (X / 2) + X % 2 := by omega
  have hXm : X * y = 2 * (X / 2 * y) + X % 2 * y := by
    conv => lhs; rw [hX2]
    rw [Nat.add_mul, Nat.mul_assoc]
  clear hX2
  refine ⟨by generalize X / 2 * y = U at *; generalize X % 2 * y = V at *; omega, h4, fun hm => ?_, fun hm => ?_⟩
  · rw [hm] at hXm
    rw [Nat.zero_mul, Nat.add_zero] at hXm
    generalize X / 2 * y = U at *
    exact ⟨⟨by rw [hX]; omega, by omega⟩, by omega⟩
  · rw [hm] at hXm
    rw [Nat.one_mul] at hXm
    generalize X / 2 * y = U at *
    exact ⟨⟨by rw [hX]; omega, by omega⟩, by omega⟩
set_option maxRecDepth 100000 in
set_option maxHeartbeats 1000000 in
theorem rpart_ok {x y : Nat} (h1 : x ≤ 9007199254740991) (h2 : y ≤ 1000) (w : World) : Calls Try.prog 54 #[.int .i64 (x : Int), .int .i64 (y : Int), .int .i64 1000] w fun e w' => e = .returned (.int .i64 ((x * y / 1000 : Nat) : Int)) ∧ w' = w := by
  have hw1 := Lib.hid (fun w => rnear_ok (x := (x : Int)) (by omega) (by omega) w)
  have hw2 := Lib.hid (fun w => rnear_ok (x := (y : Int)) (by omega) (by omega) w)
  have hw3 := Lib.hid (fun w => rnear_ok (x := 1000) (by decide) (by decide) w)
  have HS := Lib.hid (PartS.start h1 y)
  obtain ⟨A, hA⟩ : ∃ A, x * y / 1000 = A := ⟨_, rfl⟩
  rw [hA]
  have HA := Lib.hid hA
  have H1 := Lib.hid h1
  have H2 := Lib.hid h2
  clear hA h1
  go_enter Try.func54, Try.ntmps54
  go_wp2_with fail
  refine (hw1.out _).mono ?_
  rintro e w1 ⟨rfl, hw⟩
  subst hw
  go_wp2_with fail
  refine (hw2.out _).mono ?_
  rintro e w1 ⟨rfl, hw⟩
  subst hw
  go_wp2_with fail
  refine (hw3.out _).mono ?_
  rintro e w1 ⟨rfl, hw⟩
  subst hw
  clear hw1 hw2 hw3
  go_wp2_with fail
  go_loopw [7, 8, 9] (fun qv rv iv wr => ∃ k Q R : Nat, k ≤ 53 ∧ iv = .int .i64 ((k : Int) - 1) ∧ qv = .int .i64 (Q : Int) ∧ rv = .int .i64 (R : Int) ∧ PartS x y k Q R ∧ wr = w1) (fun _ _ iv _ => (intOf iv + 1).toNat)
  case atStart => exact ⟨53, 0, 0, Nat.le_refl _, rfl, rfl, rfl, HS.out, rfl⟩
  case round =>
    obtain ⟨k, Q, R, hk, rfl, rfl, rfl, hq, rfl⟩ := hrel
    have HQ := Lib.hid hq
    clear hq HS
    by_cases hk0 : k = 0
    · subst hk0
      have hQ : Q = A := by rw [← HA.out]; exact HQ.out.fin.symm
      subst hQ
      have hn : ((0 : Int) ≤ ((0 : Nat) : Int) - 1) = False := by simp
      go_wp2_with fail
      go_ret
      exact ⟨rfl, rfl⟩
    · obtain ⟨j, rfl⟩ : ∃ j, k = j + 1 := ⟨k - 1, by omega⟩
      rw [show ((j + 1 : Nat) : Int) - 1 = (j : Int) from by omega]
      obtain ⟨X, hX⟩ : ∃ X, shr x j = X := ⟨_, rfl⟩
      obtain ⟨hQb, hRb, he, ho⟩ := HQ.out.next H1.out H2.out hX
      have hXb : X ≤ 9007199254740991 := by have := shr_le x j; have := H1.out; omega
      have hn : ((0 : Int) ≤ (j : Int)) = True := by simp
      have hxi := shr_int x j
      have hb1 := and_one X hXb
      rw [hX] at hxi
      clear hk0 hX hXb
      rcases Nat.mod_two_eq_zero_or_one X with hb | hb
      · rw [hb] at hb1
        obtain ⟨hn1, hn2⟩ := he hb
        clear he ho hb
        have hh : ((9007199254740991 : Int) < (Q : Int) * 2 + (R : Int) * 2 / 1000) = False := by simp; omega
        have HN := Lib.hid hn1
        clear hn1
        go_wp2_with fail
        exact ⟨⟨j, 2 * Q + 2 * R / 1000, 2 * R % 1000, by omega, rfl, by congr 1; omega, by congr 1; omega, HN.out, trivial⟩, by show ((j : Int) - 1 + 1).toNat < ((j : Int) + 1).toNat; omega⟩
      · rw [hb] at hb1
        obtain ⟨hn1, hn2⟩ := ho hb
        clear he ho hb
        have hh : ((9007199254740991 : Int) < (Q : Int) * 2 + ((R : Int) * 2 + (y : Int)) / 1000) = False := by simp; omega
        have HN := Lib.hid hn1
        clear hn1
        go_wp2_with fail
        exact ⟨⟨j, 2 * Q + (2 * R + y) / 1000, (2 * R + y) % 1000, by omega, rfl, by congr 1; omega, by congr 1; omega, HN.out, trivial⟩, by show ((j : Int) - 1 + 1).toNat < ((j : Int) + 1).toNat; omega⟩
end Go.Proofs.Ytlkbaplfffbmkaa
/- append onto a slice that is full: what it gives lies in a new block. -/
namespace Go.Proofs.Ytlkbaplfffbmkaa
open Go Go.RowKit
namespace Rep
variable {α : Type} [Inhabited α] {R : Rep α} {P : Program} {ops : Array Oper} {rest : List Oper} {o : Oper} {a : Act} {Q : Exit → Act → World → Prop} {w : World}
theorem run_append_cut {t ty : TypeId} {bytes : Nat} (hT : Ty P t R bytes) {sa : Option Addr} {k : Nat} {L : List α} (hL : R.Sl w sa k k L) {sb : Option Addr} {m c : Nat} {M : List α} (hM : R.Sl w sb m c M) (h0 : 0 < m)
    (hmax : k + m ≤ maxLen) (hbytes : (k + m) * bytes ≤ 140737488355328) :
    ∃ v' w', (Builtin.append_ #[t, t] ty #[.slice sa k k, .slice sb m c]).run P w = .ok v' w' ∧ R.Own w' w.heap.size v' (L ++ M) ∧ Below w.heap.size w w' := by
  obtain ⟨b, off, rfl, hr⟩ := hM.row h0
  cases sa with
  | none =>
    have hk : k = 0 := by
      rcases Nat.eq_zero_or_pos k with h | h
      · exact h
      · obtain ⟨_, _, e, _⟩ := hL.row h; cases e
    subst hk
    obtain rfl : L = [] := List.length_eq_zero_iff.1 hL.len.symm
    obtain ⟨v', w', e1, e2, e3, _⟩ := run_append_list (ty := ty) hT (Own.nil (R := R) w w.heap.size) hM (fun h => by cases h) (by simpa using hmax) (by simpa using hbytes) (Nat.le_refl _)
    exact ⟨v', w', e1, e2, e3⟩
  | some ad =>
    obtain ⟨i, z, h1, h2, h3, h4, h5⟩ := hT.hi
    have holds : ∀ j u, (R.flat L)[j]? = some u → w.cell? (ad.add j) = some u := by
      rcases Nat.eq_zero_or_pos k with hk | hk
      · obtain rfl : L = [] := List.length_eq_zero_iff.1 (hL.len.symm.trans hk)
        intro j u hu; simp [flat] at hu
      · obtain ⟨b', o', e, hr'⟩ := hL.row hk
        cases e
        exact news_of_row hr'
    have hsmall : k + m ≤ 9223372036854775807 := by simp only [maxLen] at hmax; omega
    have hlo : (R.flat L).length = k * i.size := by rw [R.flat_length, ← hL.len, h3]
    have hln : (R.flat M).length = m * i.size := by rw [R.flat_length, ← hM.len, h3]
    have hrun := run_append_grow (P := P) w t ty R.T i z hT.ht h1 h2 ad k k (R.flat L) hlo holds ⟨b, off, none⟩ m c (R.flat M) hln (news_of_row hr) (by omega) (by omega) (growslice_fits (by omega) (by rw [h4]; exact hbytes))
    have hge := grownCap_ge w (k + m) k R.T
    have hcm : grownCap w (k + m) k R.T ≤ maxLen := grownCap_le_maxLen w (k + m) k R.T hmax
    refine ⟨_, _, hrun, ?_, ((Below.refl w.heap.size w).drew).alloc (Nat.le_refl _) _⟩
    show World.ownsRow _ _ R.T R.k _ (L ++ M).length (R.flat (L ++ M))
    rw [R.flat_append, List.length_append, ← hL.len, ← hM.len]
    refine ⟨by rw [List.length_append, hlo, hln, h3, Nat.add_mul], .inr ⟨w.heap.size, _, _, rfl, Nat.le_refl _, hnew w.drew _, hge, hcm, ?_, ?_⟩⟩
    · simp only [Array.size_append, List.size_toArray, size_zeroCells, h5, hlo, hln, h3, ← Nat.add_mul]
      congr 1
      omega
    · simp only [Array.toList_append, List.append_assoc]
      rw [← List.append_assoc]
      have e : (k + m) * R.k = (R.flat L ++ R.flat M).length := by rw [List.length_append, hlo, hln, h3, Nat.add_mul]
      rw [e]
      exact List.take_left
theorem sl_one {b c : Nat} {y : α} {T : TypeId} {fr : Nat × Nat} (h : w.heap[b]? = some (.cells (R.cells y).toArray T fr)) : R.Sl w (some ⟨b, 0, none⟩) 1 c [y] :=
  ⟨rfl, by unfold maxLen; omega, fun _ => ⟨b, 0, rfl, lt_of_blk h, fun i hi j hj => by
    obtain rfl : i = 0 := by simp at hi; exact hi
    rw [Nat.zero_mul, Nat.zero_add]
    have hs : j < (R.cells y).toArray.size := by simp [R.len, hj]
    rw [cell_of h (Array.getElem?_eq_getElem hs)]
    simp [List.getElem?_eq_getElem (show j < (R.cells y).length by rw [R.len]; exact hj)]⟩⟩
theorem sl_nil {a : Option Addr} {c : Nat} : R.Sl w a 0 c [] := ⟨rfl, by unfold maxLen; omega, fun h => absurd h (Nat.lt_irrefl _)⟩
theorem own_empty {b base : Nat} (h : w.heap[b]? = some (.cells #[] R.T (0, 0))) (hb : base ≤ b) : R.Own w base (.slice (some ⟨b, 0, none⟩) 0 0) [] :=
  ⟨by simp [flat], .inr ⟨b, 0, #[], rfl, hb, h, Nat.le_refl _, by unfold maxLen; omega, by simp, by simp [flat]⟩⟩
theorem Own.sl0 {base : Nat} {v : Value} {L : List α} (h : R.Own w base v L) : ∃ a c, v = .slice a L.length c ∧ R.Sl w a L.length c L ∧ (a = none → c = 0) := by
  rcases h.cases with ⟨rfl, rfl⟩ | ⟨g, cap, rfl, hg, hl, h1, h2, hr, -⟩
  · exact ⟨none, 0, rfl, sl_nil, fun _ => rfl⟩
  · exact ⟨some ⟨g, 0, none⟩, cap, rfl, ⟨rfl, by omega, fun _ => ⟨g, 0, rfl, hr⟩⟩, fun e => by cases e⟩
theorem append_cut {t : TypeId} {bytes : Nat} (hT : Ty P t R bytes) (hgd : o.guard = none) (s x : Operand) (ho : o.op = .call { callee := .builtin .append, args := #[s, x], argTypes := #[t, t] })
    {sa : Option Addr} {k : Nat} {L : List α} (hs : a.eval s = .slice sa k k) (hL : R.Sl w sa k k L) {sb : Option Addr} {m c : Nat} {M : List α} (hx : a.eval x = .slice sb m c) (hM : R.Sl w sb m c M) (h0 : 0 < m)
    (hmax : k + m ≤ maxLen) (hbytes : (k + m) * bytes ≤ 140737488355328)
    (h : ∀ v' w', R.Own w' w.heap.size v' (L ++ M) → Below w.heap.size w w' → wpList P ops Q rest (a.put o.dst v') w') : wpList P ops Q (o :: rest) a w :=
  wpList_plain hgd fun K hK => by
    obtain ⟨v', w', e1, e2, e3⟩ := run_append_cut hT hL hM h0 hmax hbytes (ty := o.type)
    have hk := hK _ _ (h v' w' e2 e3)
    unfold Oper.wp execOp
    simp only [ho, resolve, invoke, builtin, Sem.run_bind, Sem.run_pure, Result.andThen_ok, List.map_toArray, List.map_cons, List.map_nil, hs, hx, e1]
    exact hk
end Rep
end Go.Proofs.Ytlkbaplfffbmkaa
/- The reference's Sort of interfaces. -/
namespace Go.Proofs.Ytlkbaplfffbmkaa
open Go.RowKit

def insI (out : List If) (x : If) : List If := out.takeWhile (fun y => decide (y.id < x.id)) ++ x :: out.dropWhile (fun y => decide (y.id < x.id))
def sortI (l : List If) : List If := l.foldl insI []
theorem insI_length (out : List If) (x : If) : (insI out x).length = out.length + 1 := by
  have := congrArg List.length (List.takeWhile_append_dropWhile (p := fun y : If => decide (y.id < x.id)) (l := out))
  unfold insI
  rw [List.length_append] at this
  rw [List.length_append, List.length_cons]
  omega
theorem sortI_length (l : List If) : (sortI l).length = l.length := by
  have : ∀ (l out : List If), (l.foldl insI out).length = out.length + l.length := by
    intro l
    induction l with
    | nil => intro out; rfl
    | cons x r ih => intro out; rw [List.foldl_cons, ih, insI_length, List.length_cons]; omega
  have h := this l []
  rw [List.length_nil, Nat.zero_add] at h
  exact h
theorem sortI_succ {l : List If} {i : Nat} (hi : i < l.length) : sortI (l.take (i + 1)) = insI (sortI (l.take i)) (l.getD i default) := by
  unfold sortI
  rw [List.take_succ_eq_append_getElem hi, List.foldl_append]
  simp [List.getD_eq_getElem?_getD, hi]
theorem insI_mem {out : List If} {x y : If} : y ∈ insI out x ↔ y = x ∨ y ∈ out := by
  have : y ∈ out ↔ y ∈ out.takeWhile (fun y => decide (y.id < x.id)) ++ out.dropWhile (fun y => decide (y.id < x.id)) := by rw [List.takeWhile_append_dropWhile]
  rw [this]
  unfold insI
  simp only [List.mem_append, List.mem_cons]
  constructor
  · rintro (h | h | h)
    · exact .inr (.inl h)
    · exact .inl h
    · exact .inr (.inr h)
  · rintro (h | h | h)
    · exact .inr (.inl h)
    · exact .inl h
    · exact .inr (.inr h)
theorem sortI_mem {l : List If} {y : If} : y ∈ sortI l ↔ y ∈ l := by
  have : ∀ (l out : List If), y ∈ l.foldl insI out ↔ y ∈ out ∨ y ∈ l := by
    intro l
    induction l with
    | nil => intro out; simp
    | cons x r ih =>
      intro out
      rw [List.foldl_cons, ih, insI_mem, List.mem_cons]
      constructor
      · rintro ((h | h) | h)
        · exact .inr (.inl h)
        · exact .inl h
        · exact .inr (.inr h)
      · rintro (h | h | h)
        · exact .inl (.inr h)
        · exact .inl (.inl h)
        · exact .inr h
  have h := this l []
  unfold sortI
  simpa using h
theorem insI_cut {out : List If} {x : If} {k : Nat} (h1 : ∀ j, j < k → (out.getD j default).id < x.id) (h2 : k = out.length ∨ k < out.length ∧ ¬ (out.getD k default).id < x.id) : out.take k ++ [x] ++ out.drop k = insI out x := by
  induction out generalizing k with
  | nil =>
    obtain rfl : k = 0 := by
      rcases h2 with h | h
      · simpa using h
      · simp at h
    rfl
  | cons y r ih =>
    cases k with
    | zero =>
      have hy : ¬ y.id < x.id := by
        rcases h2 with h | h
        · simp at h
        · exact h.2
      unfold insI
      simp [hy]
    | succ k =>
      have hy : y.id < x.id := h1 0 (by omega)
      have := ih (k := k) (fun j hj => h1 (j + 1) (by omega)) (by
        rcases h2 with h | h
        · exact .inl (by simpa using h)
        · exact .inr ⟨by simpa using h.1, h.2⟩)
      unfold insI at *
      simp [hy] at this ⊢
      exact this
def IfAt (b o : Nat) (x : If) (w : World) : Prop := w.cell? ⟨b, o, none⟩ = some (.int .i64 x.id) ∧ w.cell? ⟨b, o + 1, none⟩ = some (.int .i64 x.r) ∧ w.cell? ⟨b, o + 2, none⟩ = some (.int .u32 (x.ad : Int)) ∧ w.cell? ⟨b, o + 3, none⟩ = some (.int .i64 x.ln) ∧ w.cell? ⟨b, o + 4, none⟩ = some (.int .i64 x.cp)
theorem T23 : Rep.Ty Try.prog 22 RIf 40 := Rep.Ty.mk' (z := .agg #[.int .i64 0, .int .i64 0, .int .u32 0, .int .i64 0, .int .i64 0]) Try.underlying22 (by kernel_rfl) rfl
set_option maxRecDepth 100000 in
set_option maxHeartbeats 2000000 in
theorem rsort_any {w : World} {oa : Option Addr} {n c : Nat} {l : List If} (h : Ifs w oa n c l) (hn : n ≤ 4294967296) : Calls Try.prog 20 #[.slice oa n c] w fun e w' => ∃ v, e = .returned v ∧ RIf.Own w' w.heap.size v (sortI l) ∧ Below w.heap.size w w' := by
  have HL := Lib.hid h.sl.len
  have F := Lib.hid h
  have hmax := h.sl.max
  clear h
  go_enter Try.func20, Try.ntmps20
  go_wp2_with fail
  go_loopw [3, 4] (fun ov iv wr => ∃ i : Nat, i ≤ n ∧ iv = .int .i64 i ∧ RIf.Own wr w.heap.size ov (sortI (l.take i)) ∧ Below w.heap.size w wr) (fun _ iv _ => n - (intOf iv).toNat)
  case atStart => exact ⟨0, Nat.zero_le _, rfl, Rep.Own.nil _ _, Below.refl _ _⟩
  case round =>
    obtain ⟨i, hi, rfl, hown, hb⟩ := hrel
    obtain ⟨w2, rfl⟩ : ∃ w2 : World, w2 = wr := ⟨_, rfl⟩
    by_cases hlt : i < n
    · have hil : ((i : Int) < (n : Int)) = True := by simp; omega
      have hw3 := wrapS hlt hmax
      have hlen : l.length = n := HL.out.symm
      have hsl : (sortI (l.take i)).length = i := by rw [sortI_length, List.length_take]; omega
      have t1 := sortI_succ (l := l) (i := i) (by omega)
      obtain ⟨x, hx⟩ : ∃ x, l.getD i default = x := ⟨_, rfl⟩
      obtain ⟨b0, o0, hoa⟩ : ∃ b0 o0, oa = some ⟨b0, o0, none⟩ := by obtain ⟨b0, o0, e, -⟩ := F.out.sl.at hlt; exact ⟨b0, o0, e⟩
      subst hoa
      have hxc : ∀ w', Below w.heap.size w w' → IfAt b0 (o0 + i * 5) x w' := fun w' hw' => by
        obtain ⟨b1, o1, e1, -, hat⟩ := (F.out.keep hw').sl.at hlt
        obtain ⟨rfl, rfl⟩ : b0 = b1 ∧ o0 = o1 := by simp only [Option.some.injEq, Addr.mk.injEq] at e1; exact ⟨e1.1, e1.2.1⟩
        rw [hx] at hat
        have c0 := hat 0 (by decide)
        have c1 := hat 1 (by decide)
        have c2 := hat 2 (by decide)
        have c3 := hat 3 (by decide)
        have c4 := hat 4 (by decide)
        simp only [RIf, Nat.add_zero, List.getElem?_cons_zero, List.getElem?_cons_succ] at c0 c1 c2 c3 c4
        exact ⟨c0, c1, c2, c3, c4⟩
      have HX := Lib.hid hxc
      rw [hx] at t1
      clear hxc hx
      generalize sortI (l.take i) = L at *
      rcases hown.cases with ⟨rfl, rfl⟩ | ⟨g, cap, hv, hg, hgl, h1, h2, hrow, hfr, hcur⟩
      · obtain rfl : i = 0 := by simpa using hsl.symm
        rw [show ((0 : Nat) : Int) = 0 from rfl]
        have hx0 := HX.out
        rw [Nat.zero_mul, Nat.add_zero] at hx0
        have HX := Lib.hid hx0
        clear hx0
        go_wp2_with fail
        go_loopw [5] (fun kv wr => kv = .int .i64 0 ∧ wr = w2) (fun _ _ => 0)
        case atStart => exact ⟨rfl, rfl⟩
        case round =>
          obtain ⟨rfl, rfl⟩ := hrel
          go_wp2_with fail
          refine wp_region_heldP (fun w' => w' = wr.drew) (by kernel_rfl) ?_
          refine held_reads [0, 1, 2, 3, 4, 5, 6, 7, 8, 9, 10, 11, 12, 13, 14, 15, 16] (g := 0) rfl (by kernel_rfl) rfl (fun _ _ d _ _ h => by cases d <;> exact h) ?_
          simp only [pick, List.getD_cons_zero, List.getD_cons_succ]
          iterate 17 ((with_reducible refine wpRead_step (fun K hK => ?_)); go_simp; first | (rw [if_neg (by decide)]; (with_reducible refine hK _ ?_); clear hK K) | ((with_reducible refine hK _ ?_); clear hK K) | (apply Exists.intro; (with_reducible refine ⟨fun w' hw' => ?_, hK _ ?_⟩); (subst hw'; go_simp; first | exact rfl | exact ⟨rfl, rfl⟩); clear hK K))
          with_reducible refine wpRead_nil ?_
          refine wpAnyH_done (by kernel_rfl) ?_ _
          go_wp2_with fail
          have HT := Lib.hid (And.intro (bcall hb (Nat.le_refl _) ((Below.refl wr.heap.size wr).alloc (Nat.le_refl _) (.cells #[] 34)).drew) (And.intro (Rep.sl_nil : RIf.Sl (wr.alloc (.cells #[] 34)).drew (some ⟨wr.heap.size, 0, none⟩) 0 0 ([] : List If)) (And.intro (show (some ⟨wr.heap.size, 0, none⟩ : Option Addr) = none → (0 : Nat) = 0 from fun _ => rfl) (Rep.sl_nil : RIf.Sl (wr.alloc (.cells #[] 34)).drew none 0 0 ([] : List If)))))
          clear hb hown
          generalize (wr.alloc (.cells #[] 34)).drew = Wt at *
          generalize wr.heap.size = q6 at *
          refine wp_region_heldP (Below w.heap.size w) (by kernel_rfl) ?_
          refine held_reads [0, 1, 2, 3, 4, 5, 6, 7, 10] (g := 4) rfl (by kernel_rfl) HT.out.1.drew (fun _ _ d _ _ h => by cases d <;> exact h) ?_
          simp only [pick, List.getD_cons_zero, List.getD_cons_succ]
          iterate 9 ((with_reducible refine wpRead_step (fun K hK => ?_)); go_simp; first | ((with_reducible refine hK _ ?_); clear hK K) | (apply Exists.intro; (with_reducible refine ⟨fun w' hw' => ?_, hK _ ?_⟩); (obtain ⟨f0, f1, f2, f3, f4⟩ := HX.out _ hw'; go_simp; first | exact rfl | exact ⟨rfl, rfl⟩); clear hK K))
          with_reducible refine wpRead_nil ?_
          have hd := (Below.refl Wt.heap.size Wt).drew
          have HT := Lib.hid (And.intro (bcall HT.out.1 (Nat.le_refl _) hd) (And.intro (HT.out.2.1.keep hd) (And.intro HT.out.2.2.1 (HT.out.2.2.2.keep hd))))
          clear hd
          generalize Wt.drew = W5 at *
          refine held_one 8 (by kernel_rfl) ?_
          simp only [pick, List.getD_cons_zero, List.getD_cons_succ]
          go_wp2_with fail
          have hal := (Below.refl W5.heap.size W5).alloc (Nat.le_refl _) (.cells #[.int .i64 x.id, .int .i64 x.r, .int .u32 (x.ad : Int), .int .i64 x.ln, .int .i64 x.cp] 34)
          have hone : RIf.Sl (W5.alloc (.cells #[.int .i64 x.id, .int .i64 x.r, .int .u32 (x.ad : Int), .int .i64 x.ln, .int .i64 x.cp] 34)) (some ⟨W5.heap.size, 0, none⟩) 1 1 [x] := Rep.sl_one (R := RIf) (y := x) (hnew _ _)
          have HT := Lib.hid (And.intro (bcall HT.out.1 (Nat.le_refl _) hal) (And.intro (HT.out.2.1.keep hal) (And.intro HT.out.2.2.1 (And.intro (HT.out.2.2.2.keep hal) hone))))
          clear hal hone
          generalize W5.alloc (.cells #[.int .i64 x.id, .int .i64 x.r, .int .u32 (x.ad : Int), .int .i64 x.ln, .int .i64 x.cp] 34) = W6 at *
          generalize W5.heap.size = q5 at *
          refine ⟨HT.out.1, ?_⟩
          refine held_one 9 (by kernel_rfl) ?_
          simp only [pick, List.getD_cons_zero, List.getD_cons_succ]
          go_wp2_with (at_builtin; refine halt ?_)
          refine Halted.go ?_
          refine Rep.append_cut T23 rfl _ _ rfl rfl HT.out.2.2.2.1 rfl HT.out.2.2.2.2 (by omega) (by unfold maxLen; omega) (by omega) ?_
          intro v7 W7 hown7 hb7
          have hbb := bcall HT.out.1 (Nat.le_refl _) hb7
          have HT := Lib.hid (And.intro hbb (And.intro (HT.out.2.1.keep hb7) (And.intro HT.out.2.2.1 (hown7.mono HT.out.1.size))))
          clear hbb hb7 hown7
          go_wp2_with fail
          refine ⟨HT.out.1, ?_⟩
          refine held_one 11 (by kernel_rfl) ?_
          simp only [pick, List.getD_cons_zero, List.getD_cons_succ]
          go_wp2_with (at_builtin; refine halt ?_)
          refine Halted.go ?_
          refine Rep.append_list T23 rfl _ _ rfl rfl HT.out.2.2.2 rfl HT.out.2.1 (fun _ => rfl) (by unfold maxLen; simp) (by simp) HT.out.1.size ?_
          intro v8 W8 hown8 hb8 _
          have hbb := HT.out.1.trans hb8
          rw [show ([] ++ [x] ++ [] : List If) = insI [] x from rfl, ← t1] at hown8
          have HT := Lib.hid (And.intro hbb hown8)
          clear hbb hb8 hown8
          go_wp2_with fail
          refine ⟨HT.out.1, ?_⟩
          refine held_one 12 (by kernel_rfl) ?_
          simp only [pick, List.getD_cons_zero, List.getD_cons_succ]
          go_wp2_with fail
          refine ⟨HT.out.1, ?_⟩
          refine wpAnyH_done (by kernel_rfl) ?_ _
          go_wp2_with fail
          exact ⟨⟨1, hlt, rfl, HT.out.2, HT.out.1⟩, by show n - 1 < n - 0; omega⟩
      · rw [hsl] at hv h1
        subst hv
        have HR := Lib.hid (And.intro hrow (And.intro hb hgl))
        clear hown hcur hfr hrow hb hgl hg
        go_wp2_with fail
        go_loopw [5] (fun kv wr => ∃ k : Nat, k ≤ i ∧ kv = .int .i64 k ∧ (∀ j, j < k → (L.getD j default).id < x.id) ∧ Below w2.heap.size w2 wr) (fun kv _ => i - (intOf kv).toNat)
        case atStart => exact ⟨0, Nat.zero_le _, rfl, fun j hj => by omega, Below.refl _ _⟩
        case round =>
          obtain ⟨k, hk, rfl, hless, hb3⟩ := hrel
          have hrow3 := HR.out.1.below hb3
          have hbw3 := bcall HR.out.2.1 (Nat.le_refl _) hb3
          have hg3 : g < wr.heap.size := by have := HR.out.2.2; have := hb3.size; omega
          have hkc : k ≤ cap := by omega
          have HK := Lib.hid (And.intro hrow3 (And.intro hbw3 (And.intro hless hg3)))
          have HB3 := Lib.hid hb3
          obtain ⟨z0, z1, z2, z3, z4⟩ := HX.out _ hbw3.drew
          have hd := (Below.refl wr.heap.size wr).drew
          by_cases hkt : k < i
          · have hki : ((k : Int) < (i : Int)) = True := by simp; omega
            have hwk := wrapS hkt (by omega)
            have y0 := (hrow3.below hd).get k (by rw [hsl]; exact hkt) 0 (by decide)
            simp only [RIf, Nat.add_zero, Nat.zero_add, List.getElem?_cons_zero] at y0
            obtain ⟨y, hy⟩ : ∃ y, L.getD k default = y := ⟨_, rfl⟩
            rw [hy] at y0
            clear hrow3 hbw3 hg3 hless hb3 hd
            by_cases hyx : y.id < x.id
            · have hyt : (y.id < x.id) = True := by simp [hyx]
              go_wp2_with fail
              refine wp_region_heldP (fun w' => w' = wr.drew) (by kernel_rfl) ?_
              refine held_reads [0, 1, 2, 3, 4, 5, 6, 7, 8, 9, 10, 11, 12, 13, 14, 15, 16] (g := 0) rfl (by kernel_rfl) rfl (fun _ _ d _ _ h => by cases d <;> exact h) ?_
              simp only [pick, List.getD_cons_zero, List.getD_cons_succ]
              iterate 17 ((with_reducible refine wpRead_step (fun K hK => ?_)); go_simp; first | (rw [if_neg (by decide)]; (with_reducible refine hK _ ?_); clear hK K) | ((with_reducible refine hK _ ?_); clear hK K) | (apply Exists.intro; (with_reducible refine ⟨fun w' hw' => ?_, hK _ ?_⟩); (subst hw'; go_simp; first | exact rfl | exact ⟨rfl, rfl⟩); clear hK K))
              with_reducible refine wpRead_nil ?_
              refine wpAnyH_done (by kernel_rfl) ?_ _
              go_wp2_with fail
              exact ⟨⟨k + 1, hkt, by first | rw [hwk] | rw [Int.natCast_succ], fun j hj => by
                rcases Nat.lt_succ_iff_lt_or_eq.1 hj with h | rfl
                · exact HK.out.2.2.1 j h
                · rw [hy]; exact hyx, HB3.out.drew⟩, by first | (rw [hwk]; exact mSucc hkt) | (rw [← Int.natCast_succ]; exact mSucc hkt)⟩
            · have hyt : (y.id < x.id) = False := by simp; omega
              go_wp2_with fail
              refine wp_region_heldP (fun w' => w' = wr.drew) (by kernel_rfl) ?_
              refine held_reads [0, 1, 2, 3, 4, 5, 6, 7, 8, 9, 10, 11, 12, 13, 14, 15, 16] (g := 0) rfl (by kernel_rfl) rfl (fun _ _ d _ _ h => by cases d <;> exact h) ?_
              simp only [pick, List.getD_cons_zero, List.getD_cons_succ]
              iterate 17 ((with_reducible refine wpRead_step (fun K hK => ?_)); go_simp; first | (rw [if_neg (by decide)]; (with_reducible refine hK _ ?_); clear hK K) | ((with_reducible refine hK _ ?_); clear hK K) | (apply Exists.intro; (with_reducible refine ⟨fun w' hw' => ?_, hK _ ?_⟩); (subst hw'; go_simp; first | exact rfl | exact ⟨rfl, rfl⟩); clear hK K))
              with_reducible refine wpRead_nil ?_
              refine wpAnyH_done (by kernel_rfl) ?_ _
              go_wp2_with (at_builtin; refine halt ?_)
              refine Halted.go ?_
              have hd := (Below.refl wr.heap.size wr).drew
              have hb0 := hd.alloc (Nat.le_refl _) (.cells #[] 34)
              generalize hsa : (some ⟨g, k * 5, none⟩ : Option Addr) = sa
              have hs1 : RIf.Sl (wr.drew.alloc (.cells #[] 34)) sa (i - k) (cap - k) (L.drop k) := ⟨by rw [List.length_drop, hsl], by unfold maxLen; omega, fun h0 => ⟨g, k * 5, hsa.symm, by have := (HK.out.1.below hb0).drop k; rw [Nat.zero_add] at this; exact this⟩⟩
              have hs2 : RIf.Sl (wr.drew.alloc (.cells #[] 34)) (some ⟨g, 0, none⟩) k k (L.take k) := ⟨by rw [List.length_take, hsl]; omega, by unfold maxLen; omega, fun _ => ⟨g, 0, rfl, (HK.out.1.below hb0).take k⟩⟩
              have hsn : sa = none → cap - k = 0 := fun e => by rw [e] at hsa; cases hsa
              have hbw := bcall HK.out.2.1 (Nat.le_refl _) hb0
              have hemp : RIf.Own (wr.drew.alloc (.cells #[] 34)) w.heap.size (.slice (some ⟨wr.heap.size, 0, none⟩) 0 0) ([] : List If) := Rep.own_empty (hnew wr.drew _) HK.out.2.1.size
              have HA := Lib.hid (And.intro hs1 (And.intro hs2 (And.intro hsn (And.intro hbw hemp))))
              clear hs1 hs2 hsn hbw hsa hd hb0 hemp
              refine Rep.append_list T23 rfl _ _ rfl (L := []) (M := L.drop k) rfl HA.out.2.2.2.2 rfl HA.out.1 HA.out.2.2.1 (by rw [List.length_nil]; unfold maxLen; omega) (by rw [List.length_nil]; omega) HA.out.2.2.2.1.size ?_
              intro v6 Wt hown6 hb6 hgr
              have hs2' : RIf.Sl Wt (some ⟨g, 0, none⟩) k k (L.take k) := ⟨HA.out.2.1.len, HA.out.2.1.max, fun h0 => by
                obtain ⟨b, o, e, hr⟩ := HA.out.2.1.row h0
                cases e
                exact ⟨g, 0, rfl, hr.keep (hgr.block g hr.lt (fun e => by injection e with e; have := HK.out.2.2.2; dsimp only at e; omega))⟩⟩
              obtain ⟨a6, c6, rfl, hsl6, hn6⟩ := hown6.sl0
              rw [List.nil_append] at hsl6 ⊢
              rw [List.length_drop, hsl] at hsl6 ⊢
              have HT := Lib.hid (And.intro (HA.out.2.2.2.1.trans hb6) (And.intro hsl6 (And.intro hn6 hs2')))
              have hcut := insI_cut (out := L) (x := x) (k := k) HK.out.2.2.1 (.inr ⟨by omega, by rw [hy]; exact Int.not_lt.2 hyx⟩)
              clear hown6 hb6 hgr hs2' hsl6 hn6 HA HK
              go_wp2_with fail
              refine wp_region_heldP (Below w.heap.size w) (by kernel_rfl) ?_
              refine held_reads [0, 1, 2, 3, 4, 5, 6, 7, 10] (g := 4) rfl (by kernel_rfl) HT.out.1.drew (fun _ _ d _ _ h => by cases d <;> exact h) ?_
              simp only [pick, List.getD_cons_zero, List.getD_cons_succ]
              iterate 9 ((with_reducible refine wpRead_step (fun K hK => ?_)); go_simp; first | ((with_reducible refine hK _ ?_); clear hK K) | (apply Exists.intro; (with_reducible refine ⟨fun w' hw' => ?_, hK _ ?_⟩); (obtain ⟨f0, f1, f2, f3, f4⟩ := HX.out _ hw'; go_simp; first | exact rfl | exact ⟨rfl, rfl⟩); clear hK K))
              with_reducible refine wpRead_nil ?_
              have hd := (Below.refl Wt.heap.size Wt).drew
              have HT := Lib.hid (And.intro (bcall HT.out.1 (Nat.le_refl _) hd) (And.intro (HT.out.2.1.keep hd) (And.intro HT.out.2.2.1 (HT.out.2.2.2.keep hd))))
              clear hd
              generalize Wt.drew = W5 at *
              refine held_one 8 (by kernel_rfl) ?_
              simp only [pick, List.getD_cons_zero, List.getD_cons_succ]
              go_wp2_with fail
              have hal := (Below.refl W5.heap.size W5).alloc (Nat.le_refl _) (.cells #[.int .i64 x.id, .int .i64 x.r, .int .u32 (x.ad : Int), .int .i64 x.ln, .int .i64 x.cp] 34)
              have hone : RIf.Sl (W5.alloc (.cells #[.int .i64 x.id, .int .i64 x.r, .int .u32 (x.ad : Int), .int .i64 x.ln, .int .i64 x.cp] 34)) (some ⟨W5.heap.size, 0, none⟩) 1 1 [x] := Rep.sl_one (R := RIf) (y := x) (hnew _ _)
              have HT := Lib.hid (And.intro (bcall HT.out.1 (Nat.le_refl _) hal) (And.intro (HT.out.2.1.keep hal) (And.intro HT.out.2.2.1 (And.intro (HT.out.2.2.2.keep hal) hone))))
              clear hal hone
              generalize W5.alloc (.cells #[.int .i64 x.id, .int .i64 x.r, .int .u32 (x.ad : Int), .int .i64 x.ln, .int .i64 x.cp] 34) = W6 at *
              generalize W5.heap.size = q5 at *
              refine ⟨HT.out.1, ?_⟩
              refine held_one 9 (by kernel_rfl) ?_
              simp only [pick, List.getD_cons_zero, List.getD_cons_succ]
              go_wp2_with (at_builtin; refine halt ?_)
              refine Halted.go ?_
              refine Rep.append_cut T23 rfl _ _ rfl rfl HT.out.2.2.2.1 rfl HT.out.2.2.2.2 (by omega) (by unfold maxLen; omega) (by omega) ?_
              intro v7 W7 hown7 hb7
              have hbb := bcall HT.out.1 (Nat.le_refl _) hb7
              have HT := Lib.hid (And.intro hbb (And.intro (HT.out.2.1.keep hb7) (And.intro HT.out.2.2.1 (hown7.mono HT.out.1.size))))
              clear hbb hb7 hown7
              go_wp2_with fail
              refine ⟨HT.out.1, ?_⟩
              refine held_one 11 (by kernel_rfl) ?_
              simp only [pick, List.getD_cons_zero, List.getD_cons_succ]
              go_wp2_with (at_builtin; refine halt ?_)
              refine Halted.go ?_
              refine Rep.append_list T23 rfl _ _ rfl rfl HT.out.2.2.2 rfl HT.out.2.1 HT.out.2.2.1 (by rw [List.length_append, List.length_take, List.length_singleton, hsl]; unfold maxLen; omega) (by rw [List.length_append, List.length_take, List.length_singleton, hsl]; omega) HT.out.1.size ?_
              intro v8 W8 hown8 hb8 _
              have hbb := HT.out.1.trans hb8
              rw [hcut, ← t1] at hown8
              have HT := Lib.hid (And.intro hbb hown8)
              clear hbb hb8 hown8
              go_wp2_with fail
              refine ⟨HT.out.1, ?_⟩
              refine held_one 12 (by kernel_rfl) ?_
              simp only [pick, List.getD_cons_zero, List.getD_cons_succ]
              go_wp2_with fail
              refine ⟨HT.out.1, ?_⟩
              refine wpAnyH_done (by kernel_rfl) ?_ _
              go_wp2_with fail
              exact ⟨⟨i + 1, hlt, by first | rw [hw3] | rw [Int.natCast_succ], HT.out.2, HT.out.1⟩, by first | (rw [hw3]; exact mSucc hlt) | (rw [← Int.natCast_succ]; exact mSucc hlt)⟩
          · obtain rfl : i = k := by omega
            have hki : ((i : Int) < (i : Int)) = False := by simp
            clear hrow3 hbw3 hg3 hless hb3 hd
            have hdn : L.drop i = [] := List.drop_eq_nil_of_le (by omega)
            by_cases hci : cap = i
            · subst hci
              go_wp2_with fail
              refine wp_region_heldP (fun w' => w' = wr.drew) (by kernel_rfl) ?_
              refine held_reads [0, 1, 2, 3, 4, 5, 6, 7, 8, 9, 10, 11, 12, 13, 14, 15, 16] (g := 0) rfl (by kernel_rfl) rfl (fun _ _ d _ _ h => by cases d <;> exact h) ?_
              simp only [pick, List.getD_cons_zero, List.getD_cons_succ]
              iterate 17 ((with_reducible refine wpRead_step (fun K hK => ?_)); go_simp; first | (rw [if_neg (by decide)]; (with_reducible refine hK _ ?_); clear hK K) | ((with_reducible refine hK _ ?_); clear hK K) | (apply Exists.intro; (with_reducible refine ⟨fun w' hw' => ?_, hK _ ?_⟩); (subst hw'; go_simp; first | exact rfl | exact ⟨rfl, rfl⟩); clear hK K))
              with_reducible refine wpRead_nil ?_
              refine wpAnyH_done (by kernel_rfl) ?_ _
              go_wp2_with (at_builtin; refine halt ?_)
              refine Halted.go ?_
              have hd := (Below.refl wr.heap.size wr).drew
              have hb0 := hd.alloc (Nat.le_refl _) (.cells #[] 34)
              have hs1 : RIf.Sl (wr.drew.alloc (.cells #[] 34)) (some ⟨g, 0, none⟩) 0 0 (L.drop cap) := by rw [hdn]; exact Rep.sl_nil
              have hs2 : RIf.Sl (wr.drew.alloc (.cells #[] 34)) (some ⟨g, 0, none⟩) cap cap (L.take cap) := ⟨by rw [List.length_take, hsl]; omega, by unfold maxLen; omega, fun _ => ⟨g, 0, rfl, (HK.out.1.below hb0).take cap⟩⟩
              have hsn : ((some ⟨g, 0, none⟩) : Option Addr) = none → 0 = 0 := fun e => by cases e
              have hbw := bcall HK.out.2.1 (Nat.le_refl _) hb0
              have hemp : RIf.Own (wr.drew.alloc (.cells #[] 34)) w.heap.size (.slice (some ⟨wr.heap.size, 0, none⟩) 0 0) ([] : List If) := Rep.own_empty (hnew wr.drew _) HK.out.2.1.size
              have HA := Lib.hid (And.intro hs1 (And.intro hs2 (And.intro hsn (And.intro hbw hemp))))
              clear hs1 hs2 hsn hbw hd hb0 hemp
              refine Rep.append_list T23 rfl _ _ rfl (L := []) (M := L.drop cap) rfl HA.out.2.2.2.2 rfl HA.out.1 HA.out.2.2.1 (by rw [List.length_nil]; unfold maxLen; omega) (by rw [List.length_nil]; omega) HA.out.2.2.2.1.size ?_
              intro v6 Wt hown6 hb6 hgr
              have hs2' : RIf.Sl Wt (some ⟨g, 0, none⟩) cap cap (L.take cap) := ⟨HA.out.2.1.len, HA.out.2.1.max, fun h0 => by
                obtain ⟨b, o, e, hr⟩ := HA.out.2.1.row h0
                cases e
                exact ⟨g, 0, rfl, hr.keep (hgr.block g hr.lt (fun e => by injection e with e; have := HK.out.2.2.2; dsimp only at e; omega))⟩⟩
              obtain ⟨a6, c6, rfl, hsl6, hn6⟩ := hown6.sl0
              rw [List.nil_append] at hsl6 ⊢
              rw [List.length_drop, hsl, Nat.sub_self] at hsl6 ⊢
              have HT := Lib.hid (And.intro (HA.out.2.2.2.1.trans hb6) (And.intro hsl6 (And.intro hn6 hs2')))
              have hcut := insI_cut (out := L) (x := x) (k := cap) HK.out.2.2.1 (.inl hsl.symm)
              clear hown6 hb6 hgr hs2' hsl6 hn6 HA HK
              go_wp2_with fail
              refine wp_region_heldP (Below w.heap.size w) (by kernel_rfl) ?_
              refine held_reads [0, 1, 2, 3, 4, 5, 6, 7, 10] (g := 4) rfl (by kernel_rfl) HT.out.1.drew (fun _ _ d _ _ h => by cases d <;> exact h) ?_
              simp only [pick, List.getD_cons_zero, List.getD_cons_succ]
              iterate 9 ((with_reducible refine wpRead_step (fun K hK => ?_)); go_simp; first | ((with_reducible refine hK _ ?_); clear hK K) | (apply Exists.intro; (with_reducible refine ⟨fun w' hw' => ?_, hK _ ?_⟩); (obtain ⟨f0, f1, f2, f3, f4⟩ := HX.out _ hw'; go_simp; first | exact rfl | exact ⟨rfl, rfl⟩); clear hK K))
              with_reducible refine wpRead_nil ?_
              have hd := (Below.refl Wt.heap.size Wt).drew
              have HT := Lib.hid (And.intro (bcall HT.out.1 (Nat.le_refl _) hd) (And.intro (HT.out.2.1.keep hd) (And.intro HT.out.2.2.1 (HT.out.2.2.2.keep hd))))
              clear hd
              generalize Wt.drew = W5 at *
              refine held_one 8 (by kernel_rfl) ?_
              simp only [pick, List.getD_cons_zero, List.getD_cons_succ]
              go_wp2_with fail
              have hal := (Below.refl W5.heap.size W5).alloc (Nat.le_refl _) (.cells #[.int .i64 x.id, .int .i64 x.r, .int .u32 (x.ad : Int), .int .i64 x.ln, .int .i64 x.cp] 34)
              have hone : RIf.Sl (W5.alloc (.cells #[.int .i64 x.id, .int .i64 x.r, .int .u32 (x.ad : Int), .int .i64 x.ln, .int .i64 x.cp] 34)) (some ⟨W5.heap.size, 0, none⟩) 1 1 [x] := Rep.sl_one (R := RIf) (y := x) (hnew _ _)
              have HT := Lib.hid (And.intro (bcall HT.out.1 (Nat.le_refl _) hal) (And.intro (HT.out.2.1.keep hal) (And.intro HT.out.2.2.1 (And.intro (HT.out.2.2.2.keep hal) hone))))
              clear hal hone
              generalize W5.alloc (.cells #[.int .i64 x.id, .int .i64 x.r, .int .u32 (x.ad : Int), .int .i64 x.ln, .int .i64 x.cp] 34) = W6 at *
              generalize W5.heap.size = q5 at *
              refine ⟨HT.out.1, ?_⟩
              refine held_one 9 (by kernel_rfl) ?_
              simp only [pick, List.getD_cons_zero, List.getD_cons_succ]
              go_wp2_with (at_builtin; refine halt ?_)
              refine Halted.go ?_
              refine Rep.append_cut T23 rfl _ _ rfl rfl HT.out.2.2.2.1 rfl HT.out.2.2.2.2 (by omega) (by unfold maxLen; omega) (by omega) ?_
              intro v7 W7 hown7 hb7
              have hbb := bcall HT.out.1 (Nat.le_refl _) hb7
              have HT := Lib.hid (And.intro hbb (And.intro (HT.out.2.1.keep hb7) (And.intro HT.out.2.2.1 (hown7.mono HT.out.1.size))))
              clear hbb hb7 hown7
              go_wp2_with fail
              refine ⟨HT.out.1, ?_⟩
              refine held_one 11 (by kernel_rfl) ?_
              simp only [pick, List.getD_cons_zero, List.getD_cons_succ]
              go_wp2_with (at_builtin; refine halt ?_)
              refine Halted.go ?_
              refine Rep.append_list T23 rfl _ _ rfl rfl HT.out.2.2.2 rfl HT.out.2.1 HT.out.2.2.1 (by rw [List.length_append, List.length_take, List.length_singleton, hsl]; unfold maxLen; omega) (by rw [List.length_append, List.length_take, List.length_singleton, hsl]; omega) HT.out.1.size ?_
              intro v8 W8 hown8 hb8 _
              have hbb := HT.out.1.trans hb8
              rw [hcut, ← t1] at hown8
              have HT := Lib.hid (And.intro hbb hown8)
              clear hbb hb8 hown8
              go_wp2_with fail
              refine ⟨HT.out.1, ?_⟩
              refine held_one 12 (by kernel_rfl) ?_
              simp only [pick, List.getD_cons_zero, List.getD_cons_succ]
              go_wp2_with fail
              refine ⟨HT.out.1, ?_⟩
              refine wpAnyH_done (by kernel_rfl) ?_ _
              go_wp2_with fail
              exact ⟨⟨cap + 1, hlt, by first | rw [hw3] | rw [Int.natCast_succ], HT.out.2, HT.out.1⟩, by first | (rw [hw3]; exact mSucc hlt) | (rw [← Int.natCast_succ]; exact mSucc hlt)⟩
            · have hci2 : i < cap := by omega
              go_wp2_with fail
              refine wp_region_heldP (fun w' => w' = wr.drew) (by kernel_rfl) ?_
              refine held_reads [0, 1, 2, 3, 4, 5, 6, 7, 8, 9, 10, 11, 12, 13, 14, 15, 16] (g := 0) rfl (by kernel_rfl) rfl (fun _ _ d _ _ h => by cases d <;> exact h) ?_
              simp only [pick, List.getD_cons_zero, List.getD_cons_succ]
              iterate 17 ((with_reducible refine wpRead_step (fun K hK => ?_)); go_simp; first | (rw [if_neg (by decide)]; (with_reducible refine hK _ ?_); clear hK K) | ((with_reducible refine hK _ ?_); clear hK K) | (apply Exists.intro; (with_reducible refine ⟨fun w' hw' => ?_, hK _ ?_⟩); (subst hw'; go_simp; first | exact rfl | exact ⟨rfl, rfl⟩); clear hK K))
              with_reducible refine wpRead_nil ?_
              refine wpAnyH_done (by kernel_rfl) ?_ _
              go_wp2_with (at_builtin; refine halt ?_)
              refine Halted.go ?_
              have hd := (Below.refl wr.heap.size wr).drew
              have hb0 := hd.alloc (Nat.le_refl _) (.cells #[] 34)
              have hs1 : RIf.Sl (wr.drew.alloc (.cells #[] 34)) (some ⟨g, i * 5, none⟩) 0 (cap - i) (L.drop i) := by rw [hdn]; exact Rep.sl_nil
              have hs2 : RIf.Sl (wr.drew.alloc (.cells #[] 34)) (some ⟨g, 0, none⟩) i i (L.take i) := ⟨by rw [List.length_take, hsl]; omega, by unfold maxLen; omega, fun _ => ⟨g, 0, rfl, (HK.out.1.below hb0).take i⟩⟩
              have hsn : ((some ⟨g, i * 5, none⟩) : Option Addr) = none → (cap - i) = 0 := fun e => by cases e
              have hbw := bcall HK.out.2.1 (Nat.le_refl _) hb0
              have hemp : RIf.Own (wr.drew.alloc (.cells #[] 34)) w.heap.size (.slice (some ⟨wr.heap.size, 0, none⟩) 0 0) ([] : List If) := Rep.own_empty (hnew wr.drew _) HK.out.2.1.size
              have HA := Lib.hid (And.intro hs1 (And.intro hs2 (And.intro hsn (And.intro hbw hemp))))
              clear hs1 hs2 hsn hbw hd hb0 hemp
              refine Rep.append_list T23 rfl _ _ rfl (L := []) (M := L.drop i) rfl HA.out.2.2.2.2 rfl HA.out.1 HA.out.2.2.1 (by rw [List.length_nil]; unfold maxLen; omega) (by rw [List.length_nil]; omega) HA.out.2.2.2.1.size ?_
              intro v6 Wt hown6 hb6 hgr
              have hs2' : RIf.Sl Wt (some ⟨g, 0, none⟩) i i (L.take i) := ⟨HA.out.2.1.len, HA.out.2.1.max, fun h0 => by
                obtain ⟨b, o, e, hr⟩ := HA.out.2.1.row h0
                cases e
                exact ⟨g, 0, rfl, hr.keep (hgr.block g hr.lt (fun e => by injection e with e; have := HK.out.2.2.2; dsimp only at e; omega))⟩⟩
              obtain ⟨a6, c6, rfl, hsl6, hn6⟩ := hown6.sl0
              rw [List.nil_append] at hsl6 ⊢
              rw [List.length_drop, hsl, Nat.sub_self] at hsl6 ⊢
              have HT := Lib.hid (And.intro (HA.out.2.2.2.1.trans hb6) (And.intro hsl6 (And.intro hn6 hs2')))
              have hcut := insI_cut (out := L) (x := x) (k := i) HK.out.2.2.1 (.inl hsl.symm)
              clear hown6 hb6 hgr hs2' hsl6 hn6 HA HK
              go_wp2_with fail
              refine wp_region_heldP (Below w.heap.size w) (by kernel_rfl) ?_
              refine held_reads [0, 1, 2, 3, 4, 5, 6, 7, 10] (g := 4) rfl (by kernel_rfl) HT.out.1.drew (fun _ _ d _ _ h => by cases d <;> exact h) ?_
              simp only [pick, List.getD_cons_zero, List.getD_cons_succ]
              iterate 9 ((with_reducible refine wpRead_step (fun K hK => ?_)); go_simp; first | ((with_reducible refine hK _ ?_); clear hK K) | (apply Exists.intro; (with_reducible refine ⟨fun w' hw' => ?_, hK _ ?_⟩); (obtain ⟨f0, f1, f2, f3, f4⟩ := HX.out _ hw'; go_simp; first | exact rfl | exact ⟨rfl, rfl⟩); clear hK K))
              with_reducible refine wpRead_nil ?_
              have hd := (Below.refl Wt.heap.size Wt).drew
              have HT := Lib.hid (And.intro (bcall HT.out.1 (Nat.le_refl _) hd) (And.intro (HT.out.2.1.keep hd) (And.intro HT.out.2.2.1 (HT.out.2.2.2.keep hd))))
              clear hd
              generalize Wt.drew = W5 at *
              refine held_one 8 (by kernel_rfl) ?_
              simp only [pick, List.getD_cons_zero, List.getD_cons_succ]
              go_wp2_with fail
              have hal := (Below.refl W5.heap.size W5).alloc (Nat.le_refl _) (.cells #[.int .i64 x.id, .int .i64 x.r, .int .u32 (x.ad : Int), .int .i64 x.ln, .int .i64 x.cp] 34)
              have hone : RIf.Sl (W5.alloc (.cells #[.int .i64 x.id, .int .i64 x.r, .int .u32 (x.ad : Int), .int .i64 x.ln, .int .i64 x.cp] 34)) (some ⟨W5.heap.size, 0, none⟩) 1 1 [x] := Rep.sl_one (R := RIf) (y := x) (hnew _ _)
              have HT := Lib.hid (And.intro (bcall HT.out.1 (Nat.le_refl _) hal) (And.intro (HT.out.2.1.keep hal) (And.intro HT.out.2.2.1 (And.intro (HT.out.2.2.2.keep hal) hone))))
              clear hal hone
              generalize W5.alloc (.cells #[.int .i64 x.id, .int .i64 x.r, .int .u32 (x.ad : Int), .int .i64 x.ln, .int .i64 x.cp] 34) = W6 at *
              generalize W5.heap.size = q5 at *
              refine ⟨HT.out.1, ?_⟩
              refine held_one 9 (by kernel_rfl) ?_
              simp only [pick, List.getD_cons_zero, List.getD_cons_succ]
              go_wp2_with (at_builtin; refine halt ?_)
              refine Halted.go ?_
              refine Rep.append_cut T23 rfl _ _ rfl rfl HT.out.2.2.2.1 rfl HT.out.2.2.2.2 (by omega) (by unfold maxLen; omega) (by omega) ?_
              intro v7 W7 hown7 hb7
              have hbb := bcall HT.out.1 (Nat.le_refl _) hb7
              have HT := Lib.hid (And.intro hbb (And.intro (HT.out.2.1.keep hb7) (And.intro HT.out.2.2.1 (hown7.mono HT.out.1.size))))
              clear hbb hb7 hown7
              go_wp2_with fail
              refine ⟨HT.out.1, ?_⟩
              refine held_one 11 (by kernel_rfl) ?_
              simp only [pick, List.getD_cons_zero, List.getD_cons_succ]
              go_wp2_with (at_builtin; refine halt ?_)
              refine Halted.go ?_
              refine Rep.append_list T23 rfl _ _ rfl rfl HT.out.2.2.2 rfl HT.out.2.1 HT.out.2.2.1 (by rw [List.length_append, List.length_take, List.length_singleton, hsl]; unfold maxLen; omega) (by rw [List.length_append, List.length_take, List.length_singleton, hsl]; omega) HT.out.1.size ?_
              intro v8 W8 hown8 hb8 _
              have hbb := HT.out.1.trans hb8
              rw [hcut, ← t1] at hown8
              have HT := Lib.hid (And.intro hbb hown8)
              clear hbb hb8 hown8
              go_wp2_with fail
              refine ⟨HT.out.1, ?_⟩
              refine held_one 12 (by kernel_rfl) ?_
              simp only [pick, List.getD_cons_zero, List.getD_cons_succ]
              go_wp2_with fail
              refine ⟨HT.out.1, ?_⟩
              refine wpAnyH_done (by kernel_rfl) ?_ _
              go_wp2_with fail
              exact ⟨⟨i + 1, hlt, by first | rw [hw3] | rw [Int.natCast_succ], HT.out.2, HT.out.1⟩, by first | (rw [hw3]; exact mSucc hlt) | (rw [← Int.natCast_succ]; exact mSucc hlt)⟩
    · obtain rfl : n = i := by omega
      have hil : ((n : Int) < (n : Int)) = False := by simp
      rw [List.take_of_length_le (by rw [HL.out]; exact Nat.le_refl _)] at hown
      have HB := Lib.hid (And.intro hown hb)
      clear hb hown
      go_wp2_with fail
      go_ret
      exact ⟨_, rfl, HB.out⟩
end Go.Proofs.Ytlkbaplfffbmkaa
