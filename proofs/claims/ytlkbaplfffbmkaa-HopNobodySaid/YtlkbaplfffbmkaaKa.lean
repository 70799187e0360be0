/- Capa in memory; capa.New, made, Get. -/
import Derived.Test.YtlkbaplfffbmkaaHh
namespace Go.Proofs.Ytlkbaplfffbmkaa
open Go.RowKit

/-- what an interface carries -/
structure Cy where
  id : Int
  cp : Int
  dr : Bool
deriving Inhabited
def Cy.v (x : Cy) : Value := .agg #[.int .i64 x.id, .int .i64 x.cp, .bool x.dr]
def CGet (D : HD) (S : Int → Option Cy) (id : Int) : Option Cy := match D.get id with
  | none => none
  | some x => some ((S id).getD ⟨id, x.cp, false⟩)
structure CapAt (w0 w : World) (c bm h : Nat) (D : HD) (S : Int → Option Cy) : Prop where
  hop : HopsAt w0 h D
  bel : Below w0.heap.size w0 w
  hc : w0.heap.size ≤ c
  hm : w0.heap.size ≤ bm
  ne : c ≠ bm
  out : ∃ (clk : Nat) (es : List (MR.Ent Int)) (cs : Array Value), w.heap[c]? = some (.cells cs 101) ∧ cs[0]? = some (.pointer (some ⟨h, 0, none⟩)) ∧ cs[1]? = some (.map (some bm)) ∧ (∀ i, i < 16 → ∃ s a b, cs[2 + 3 * i]? = some (.int .i64 s) ∧ cs[2 + 3 * i + 1]? = some (.int .i64 a) ∧ cs[2 + 3 * i + 2]? = some (.bool b)) ∧ MR.MapAt IN w bm es clk ∧ ∀ id, MR.get? es id = (S id).map Cy.v
theorem CapAt.keep {w0 w w' : World} {c bm h : Nat} {D : HD} {S : Int → Option Cy} (H : CapAt w0 w c bm h D S) (hb : Below w.heap.size w w') : CapAt w0 w' c bm h D S := by
  obtain ⟨clk, es, cs, h1, h2, h3, h4, h5, h6⟩ := H.out
  exact ⟨H.hop, bcall H.bel (Nat.le_refl _) hb, H.hc, H.hm, H.ne, clk, es, cs, (hb.block _ (lt_of_blk h1)).trans h1, h2, h3, h4, h5.blk_iff IN (hb.block _ (lt_of_blk h5.blk)), h6⟩
theorem CapAt.hops {w0 w : World} {c bm h : Nat} {D : HD} {S : Int → Option Cy} (H : CapAt w0 w c bm h D S) : HopsAt w h D := H.hop.keep H.bel
theorem zero52 (w : World) : (zeroValue 69).run Try.prog w = .ok (.agg #[.int .i64 0, .int .i64 0, .bool false]) w := by kernel_rfl
set_option maxRecDepth 100000 in
theorem cnew_ok {w : World} {h : Nat} {D : HD} (H : HopsAt w h D) : Calls Try.prog 23 #[.pointer (some ⟨h, 0, none⟩)] w fun e w' => ∃ c bm, e = .returned (.tuple #[.pointer (some ⟨c, 0, none⟩), .int .i64 0]) ∧ CapAt w w' c bm h D (fun _ => none) := by
  have G := Lib.hid H
  clear H
  have hmm := @run_makeMap Try.prog
  go_enter Try.func23, Try.ntmps23
  go_wp2_with fail
  go_ret2
  refine ⟨w.heap.size + 1, w.heap.size, rfl, G.out, ((Below.refl _ _).alloc (Nat.le_refl _) _).alloc (by simp) _, by omega, Nat.le_refl _, by omega, 0, [], _, hnewAt (by simp), rfl, rfl, fun i hi => ?_, MR.mapAt_made IN (hold (hnew _ _)), fun _ => rfl⟩
  have : i = 0 ∨ i = 1 ∨ i = 2 ∨ i = 3 ∨ i = 4 ∨ i = 5 ∨ i = 6 ∨ i = 7 ∨ i = 8 ∨ i = 9 ∨ i = 10 ∨ i = 11 ∨ i = 12 ∨ i = 13 ∨ i = 14 ∨ i = 15 := by omega
  rcases this with rfl | rfl | rfl | rfl | rfl | rfl | rfl | rfl | rfl | rfl | rfl | rfl | rfl | rfl | rfl | rfl <;> exact ⟨_, _, _, rfl, rfl, rfl⟩
set_option maxRecDepth 100000 in
theorem cnew_nil (w : World) : Calls Try.prog 23 #[.pointer none] w fun e w' => e = .returned (.tuple #[.pointer none, .int .i64 1]) ∧ w' = w := by
  go_enter Try.func23, Try.ntmps23
  go_wp2_with fail
  go_ret2
  exact ⟨rfl, rfl⟩
set_option maxRecDepth 100000 in
theorem made_nil (w : World) : Calls Try.prog 51 #[.pointer none] w fun e w' => e = .returned (.bool false) ∧ w' = w := by
  go_enter Try.func51, Try.ntmps51
  go_wp2_with fail
  go_ret
  exact ⟨rfl, rfl⟩
set_option maxRecDepth 100000 in
theorem made_any {w0 w : World} {c bm h : Nat} {D : HD} {S : Int → Option Cy} (H : CapAt w0 w c bm h D S) : Calls Try.prog 51 #[.pointer (some ⟨c, 0, none⟩)] w fun e w' => e = .returned (.bool true) ∧ w' = w := by
  obtain ⟨clk, es, cs, h1, h2, h3, h4, h5, h6⟩ := H.out
  have c1 : w.cell? ⟨c, 1, none⟩ = some (.map (some bm)) := cell_of h1 h3
  clear h1 h2 h3 h4 h5 h6 H
  have hne : (binOp BinOp.neq 96 (.map (some bm)) (.map none)).run Try.prog w = .ok (.bool true) w := by kernel_rfl
  go_enter Try.func51, Try.ntmps51
  go_wp2_with fail
  go_ret
  exact ⟨rfl, rfl⟩
set_option maxRecDepth 100000 in
theorem get_nil (id : Int) (w : World) : Calls Try.prog 33 #[.pointer none, .int .i64 id] w fun e w' => e = .returned (.tuple #[.agg #[.int .i64 0, .int .i64 0, .bool false], .bool false]) ∧ Below w.heap.size w w' := by
  go_enter Try.func33, Try.ntmps33
  go_wp2_with fail
  refine (made_nil _).mono ?_
  rintro e W ⟨rfl, hW⟩
  subst W
  go_wp2_with (with_reducible refine halt_store 69 (x := .tmp 4) rfl ?_)
  refine Halted.go ?_
  refine store_whole rfl 69 _ _ rfl w.heap.size #[.int .i64 0, .int .i64 0, .bool false] rfl rfl (hnew _ _) rfl (by kernel_rfl) (by simp [Value.oneCell']) ?_
  intro Wz hwz hsz
  have HZ := Lib.hid (And.intro hwz (Below.trans ((Below.refl w.heap.size w).alloc (Nat.le_refl _) _) (hsz.below (Nat.le_refl _))))
  clear hwz hsz
  go_wp2_with fail
  refine ret_cell2 rfl rfl rfl HZ.out.1 Try.underlying69 rfl (by kernel_rfl) ?_
  exact ⟨rfl, HZ.out.2⟩
set_option maxRecDepth 100000 in
set_option maxHeartbeats 1000000 in
theorem get_any {w0 w : World} {c bm h : Nat} {D : HD} {S : Int → Option Cy} (H : CapAt w0 w c bm h D S) {id : Int} (hid : IN.ok id) (r : Cy) (is : Bool) (hr : CGet D S id = if is then some r else none) (hz : is = false → r = ⟨0, 0, false⟩) : Calls Try.prog 33 #[.pointer (some ⟨c, 0, none⟩), .int .i64 id] w fun e w' => e = .returned (.tuple #[r.v, .bool is]) ∧ Below w.heap.size w w' := by
  have hal := (Below.refl w.heap.size w).alloc (Nat.le_refl _) (.cells #[.int .i64 0, .int .i64 0, .bool false] 69)
  have H1 := H.keep hal
  have hzero : (w.alloc (.cells #[.int .i64 0, .int .i64 0, .bool false] 69)).heap[w.heap.size]? = some (.cells #[.int .i64 0, .int .i64 0, .bool false] 69 (0, 0)) := hnew _ _
  obtain ⟨clk, es, cs, h1, h2, h3, h4, h5, h6⟩ := H1.out
  have c0 : (w.alloc (.cells #[.int .i64 0, .int .i64 0, .bool false] 69)).cell? ⟨c, 0, none⟩ = some (.pointer (some ⟨h, 0, none⟩)) := cell_of h1 h2
  have HM := Lib.hid (made_any H1)
  have F := Lib.hid (And.intro hal (And.intro H1 (And.intro hzero (And.intro hid (And.intro hr hz)))))
  have HP := Lib.hid H1.hops
  clear h1 h2 h3 h4 h5 h6 H hal H1 hzero hr hz hid
  go_enter Try.func33, Try.ntmps33
  go_wp2_with fail
  refine (HM.out).mono ?_
  rintro e W ⟨rfl, hW⟩
  generalize w.alloc (.cells #[.int .i64 0, .int .i64 0, .bool false] 69) = W1 at *
  subst W
  go_wp2_with fail
  rcases hG : D.get id with _ | x
  · have hI := iface_any HP.out F.out.2.2.2.1 ⟨0, 0, 0, 0, 0⟩ false (by rw [hG]; rfl) (fun _ => rfl)
    obtain rfl : is = false := by
      have := F.out.2.2.2.2.1
      unfold CGet at this; rw [hG] at this
      cases is with
      | false => rfl
      | true => cases this
    have hr0 := F.out.2.2.2.2.2 rfl
    subst hr0
    refine hI.mono ?_
    rintro e W2 ⟨rfl, hb2⟩
    have F2 := Lib.hid (And.intro (bcall F.out.1 (Nat.le_refl _) hb2) ((hb2.block _ (lt_of_blk F.out.2.2.1)).trans F.out.2.2.1))
    clear hb2 hI HM HP F c0
    unfold If.v
    go_wp2_with (with_reducible refine halt_store 69 (x := .tmp 4) rfl ?_)
    refine Halted.go ?_
    have hal3 := (Below.refl W2.heap.size W2).alloc (Nat.le_refl _) (.cells #[.int .i64 0, .int .i64 0, .int .u32 ((0 : Nat) : Int), .int .i64 0, .int .i64 0] 34)
    refine store_whole rfl 69 _ _ rfl w.heap.size #[.int .i64 0, .int .i64 0, .bool false] rfl rfl (hold F2.out.2) rfl (by kernel_rfl) (by simp [Value.oneCell']) ?_
    intro Wz hwz hsz
    have HZ := Lib.hid (And.intro hwz (Below.trans (bcall F2.out.1 (Nat.le_refl _) hal3) (hsz.below (Nat.le_refl _))))
    clear hwz hsz hal3
    go_wp2_with fail
    refine ret_cell2 rfl rfl rfl HZ.out.1 Try.underlying69 rfl (by kernel_rfl) ?_
    exact ⟨rfl, HZ.out.2⟩
  · have hI := iface_any HP.out F.out.2.2.2.1 x true hG (fun h => by cases h)
    have hcg : CGet D S id = some ((S id).getD ⟨id, x.cp, false⟩) := by unfold CGet; rw [hG]
    rw [hcg] at F
    obtain ⟨rfl, hry⟩ : is = true ∧ (S id).getD ⟨id, x.cp, false⟩ = r := by
      have := F.out.2.2.2.2.1
      cases is with
      | false => cases this
      | true => exact ⟨rfl, by injection this⟩
    refine hI.mono ?_
    rintro e W2 ⟨rfl, hb2⟩
    have hal3 := (Below.refl W2.heap.size W2).alloc (Nat.le_refl _) (.cells #[.int .i64 x.id, .int .i64 x.r, .int .u32 (x.ad : Nat), .int .i64 x.ln, .int .i64 x.cp] 34)
    have H3 := (F.out.2.1.keep hb2).keep hal3
    have hxs : IfS W2.heap.size x (W2.alloc (.cells #[.int .i64 x.id, .int .i64 x.r, .int .u32 (x.ad : Nat), .int .i64 x.ln, .int .i64 x.cp] 34)) := hnew _ _
    have h0 : (W2.alloc (.cells #[.int .i64 x.id, .int .i64 x.r, .int .u32 (x.ad : Nat), .int .i64 x.ln, .int .i64 x.cp] 34)).heap[w.heap.size]? = some (.cells #[.int .i64 0, .int .i64 0, .bool false] 69 (0, 0)) := hold ((hb2.block _ (lt_of_blk F.out.2.2.1)).trans F.out.2.2.1)
    have F2 := Lib.hid (And.intro (bcall (bcall F.out.1 (Nat.le_refl _) hb2) (Nat.le_refl _) hal3) (And.intro h0 hxs))
    obtain ⟨clk, es, cs, h1, h2, h3, h4, h5, h6⟩ := H3.out
    have c1 : (W2.alloc (.cells #[.int .i64 x.id, .int .i64 x.r, .int .u32 (x.ad : Nat), .int .i64 x.ln, .int .i64 x.cp] 34)).cell? ⟨c, 1, none⟩ = some (.map (some bm)) := cell_of h1 h3
    have hlk := MR.run_lookup IN h5 F.out.2.2.2.1 Try.underlying96 zero52 true
    rw [h6, if_pos rfl] at hlk
    obtain ⟨z0, z1, z2, z3, z4⟩ := hxs.cells
    clear hb2 hI HM HP F c0 h1 h2 h3 h4 h5 h6 h0 hxs hal3 H3 hcg
    unfold If.v
    generalize hS : S id = s at *
    cases s with
    | some y =>
      obtain rfl : y = r := hry
      have hlk' : (Instr.lookup 96 (.map (some bm)) (.int .i64 id) true).run Try.prog (W2.alloc (.cells #[.int .i64 x.id, .int .i64 x.r, .int .u32 (x.ad : Nat), .int .i64 x.ln, .int .i64 x.cp] 34)) = .ok (.tuple #[.agg #[.int .i64 y.id, .int .i64 y.cp, .bool y.dr], .bool true]) (W2.alloc (.cells #[.int .i64 x.id, .int .i64 x.r, .int .u32 (x.ad : Nat), .int .i64 x.ln, .int .i64 x.cp] 34)) := hlk
      clear hlk hS
      go_wp2_with (with_reducible refine halt_store 69 (x := .tmp 4) rfl ?_)
      refine Halted.go ?_
      generalize W2.alloc (.cells #[.int .i64 x.id, .int .i64 x.r, .int .u32 (x.ad : Nat), .int .i64 x.ln, .int .i64 x.cp] 34) = W3 at *
      have hal3 := (Below.refl W3.heap.size W3).alloc (Nat.le_refl _) (.cells #[.int .i64 y.id, .int .i64 y.cp, .bool y.dr] 69)
      refine store_whole rfl 69 _ _ rfl w.heap.size #[.int .i64 y.id, .int .i64 y.cp, .bool y.dr] rfl rfl (hold F2.out.2.1) rfl (by kernel_rfl) (by simp [Value.oneCell']) ?_
      intro Wz hwz hsz
      have HZ := Lib.hid (And.intro hwz (Below.trans (bcall F2.out.1 (Nat.le_refl _) hal3) (hsz.below (Nat.le_refl _))))
      clear hwz hsz hal3
      go_wp2_with fail
      refine ret_cell2 rfl rfl rfl HZ.out.1 Try.underlying69 rfl (by kernel_rfl) ?_
      exact ⟨rfl, HZ.out.2⟩
    | none =>
      obtain rfl : (⟨id, x.cp, false⟩ : Cy) = r := hry
      have hlk' : (Instr.lookup 96 (.map (some bm)) (.int .i64 id) true).run Try.prog (W2.alloc (.cells #[.int .i64 x.id, .int .i64 x.r, .int .u32 (x.ad : Nat), .int .i64 x.ln, .int .i64 x.cp] 34)) = .ok (.tuple #[.agg #[.int .i64 0, .int .i64 0, .bool false], .bool false]) (W2.alloc (.cells #[.int .i64 x.id, .int .i64 x.r, .int .u32 (x.ad : Nat), .int .i64 x.ln, .int .i64 x.cp] 34)) := hlk
      clear hlk hS
      go_wp2_with (with_reducible refine halt_store 69 (x := .tmp 4) rfl ?_)
      refine Halted.go ?_
      generalize W2.alloc (.cells #[.int .i64 x.id, .int .i64 x.r, .int .u32 (x.ad : Nat), .int .i64 x.ln, .int .i64 x.cp] 34) = W3 at *
      have hal3 := (Below.refl W3.heap.size W3).alloc (Nat.le_refl _) (.cells #[.int .i64 0, .int .i64 0, .bool false] 69)
      refine store_whole rfl 69 _ _ rfl w.heap.size #[.int .i64 id, .int .i64 x.cp, .bool false] rfl rfl (hold F2.out.2.1) rfl (by kernel_rfl) (by simp [Value.oneCell']) ?_
      intro Wz hwz hsz
      have HZ := Lib.hid (And.intro hwz (Below.trans (bcall F2.out.1 (Nat.le_refl _) hal3) (hsz.below (Nat.le_refl _))))
      clear hwz hsz hal3
      go_wp2_with fail
      refine ret_cell2 rfl rfl rfl HZ.out.1 Try.underlying69 rfl (by kernel_rfl) ?_
      exact ⟨rfl, HZ.out.2⟩
end Go.Proofs.Ytlkbaplfffbmkaa
