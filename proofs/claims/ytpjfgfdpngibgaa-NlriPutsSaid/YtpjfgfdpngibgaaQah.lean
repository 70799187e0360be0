/- The one with which bytes begin. -/
import Derived.Test.YtpjfgfdpngibgaaQag
import Derived.Test.YtpjfgfdpngibgaaQaf
namespace Go.Proofs.Ytpjfgfdpngibgaa
open Go.RowKit

/-- a slice that reads as bytes, wherever it lies -/
structure BT (w : World) (oa : Option Addr) (n c : Nat) (l : List Nat) : Prop where
  sl : RB.Sl w oa n c l
  nil : oa = none → c = 0
  le : n ≤ c
theorem BT.keep {w w' : World} {oa : Option Addr} {n c : Nat} {l : List Nat} (h : BT w oa n c l) (hb : Below w.heap.size w w') : BT w' oa n c l := ⟨h.sl.keep hb, h.nil, h.le⟩
theorem BT.set {w w' : World} {oa : Option Addr} {n c : Nat} {l : List Nat} (h : BT w oa n c l) {q : Nat} {o : Obj} (hs : SetB w w' q o) (hne : 0 < n → ∀ b o, oa = some ⟨b, o, none⟩ → b ≠ q) : BT w' oa n c l :=
  ⟨⟨h.sl.len, h.sl.max, fun h0 => by
    obtain ⟨b, o, e, hr⟩ := h.sl.row h0
    exact ⟨b, o, e, hr.keep (hs.other (hne h0 b o e))⟩⟩, h.nil, h.le⟩
theorem BT.cut {w : World} {oa : Option Addr} {n c : Nat} {l : List Nat} (h : BT w oa n c l) {i : Nat} (hi : i ≤ n) : ∃ sa, (∀ W, (Instr.sliceAt 24 (.slice oa n c) (some (.int .i64 (i : Int))) none none).run Try.prog W = .ok (.slice sa (n - i) (c - i)) W) ∧ (∀ W, (Instr.slice 24 (.slice oa n c) (some (.int .i64 (i : Int))) none none).run Try.prog W = .ok (.slice sa (n - i) (c - i)) W) ∧ BT w sa (n - i) (c - i) (l.drop i) ∧ (0 < n - i → ∀ b o, sa = some ⟨b, o, none⟩ → ∃ o', oa = some ⟨b, o', none⟩) := by
  obtain ⟨sa, h1, h2, h3, h4, h5⟩ := Rep.cut_from T27 h.sl h.le h.nil hi
  refine ⟨sa, h1, h2, ⟨h3, h4, by have := h.le; omega⟩, fun h0 b o e => ?_⟩
  obtain ⟨b', o', e', -⟩ := h.sl.row (by omega)
  obtain ⟨o'', e''⟩ := h5 b' o' e'
  rw [e''] at e
  injection e with e
  injection e with e1 e2
  rw [← e1]
  exact ⟨o', e'⟩
theorem getP_len {l : List Nat} {a m k : Nat} (h : getP l = some (a, m, k)) : 1 ≤ k ∧ k ≤ l.length ∧ k ≤ 5 ∧ m ≤ 32 := by
  cases l with
  | nil => cases h
  | cons x r =>
    unfold getP at h
    dsimp only at h
    split at h
    · cases h
    · rename_i hx
      split at h
      · cases h
      · rename_i hr
        injection h with h
        injection h with h1 h
        injection h with h2 h3
        have := szB_le (m := x) (by omega)
        rw [List.length_cons]
        omega
theorem getP_lt {l : List Nat} (hb : Bytes l) {a m k : Nat} (h : getP l = some (a, m, k)) : a < 4294967296 := by
  cases l with
  | nil => cases h
  | cons x r =>
    unfold getP at h
    dsimp only at h
    split at h
    · cases h
    · split at h
      · cases h
      · injection h with h
        injection h with h1 h
        rw [← h1]
        exact cut_lt (pad4_lt (fun y hy => hb y (List.mem_cons_of_mem _ (List.mem_of_mem_take hy)))) _
/-- the one with which bytes begin, and what is behind it -/
def getF (paths : Bool) (b : List Nat) : Option (Nl × List Nat) :=
  if paths = true ∧ b.length < 4 then none
  else match getP (if paths then b.drop 4 else b) with
    | none => none
    | some (a, m, k) => some (⟨if paths then (getN (b.take 4) : Nat) else 0, a, m⟩, (if paths then b.drop 4 else b).drop k)
/-- a slice's block is a new one, or that of another slice -/
def FromB (B : Nat) (oa oa' : Option Addr) (k : Nat) : Prop := 0 < k → ∀ b o, oa' = some ⟨b, o, none⟩ → B ≤ b ∨ ∃ o2, oa = some ⟨b, o2, none⟩
/-- first's results -/
def RetF (B : Nat) (ob : Option Addr) (w' : World) (o : Option (Nl × List Nat)) (v : Value) : Prop := match o with
  | none => ∃ n : Nl, v = .tuple #[n.v, .slice none 0 0, .bool false]
  | some (n, rest) => ∃ oa k c, v = .tuple #[n.v, .slice oa k c, .bool true] ∧ BT w' oa k c rest ∧ FromB B ob oa k
def BxV (q : Nat) (x y z : Value) (W : World) : Prop := W.heap[q]? = some (.cells #[x, y, z] 41)
theorem BxV.cells {q : Nat} {x y z : Value} {W : World} (h : BxV q x y z W) : W.cell? ⟨q, 0, none⟩ = some x ∧ W.cell? ⟨q, 1, none⟩ = some y ∧ W.cell? ⟨q, 2, none⟩ = some z := ⟨cell_of h rfl, cell_of h rfl, cell_of h rfl⟩
theorem BxV.keep {q : Nat} {x y z : Value} {W W' : World} (h : BxV q x y z W) (hb : Below W.heap.size W W') : BxV q x y z W' := (hb.block _ (lt_of_blk h)).trans h
theorem cur3 {x y z u v : Value} {cur' : Array Value} (_hs : cur'.size = (#[x, y, z] : Array Value).size) (h : ∀ q, cur'[q]? = if 1 ≤ q ∧ q < 1 + (Value.agg #[u, v]).cells.size then (Value.agg #[u, v]).cells[q - 1]? else (#[x, y, z] : Array Value)[q]?) : cur' = #[x, u, v] := by
  apply Array.ext_getElem?
  intro q
  rw [h q]
  match q with
  | 0 => rfl
  | 1 => rfl
  | 2 => rfl
  | q + 3 =>
    rw [if_neg (by simp [Value.cells])]
    simp
set_option maxRecDepth 100000 in
set_option maxHeartbeats 8000000 in
theorem first_plain {w : World} {oa : Option Addr} {n c : Nat} {l : List Nat} (h : BT w oa n c l) (hby : Bytes l) (hn : n ≤ 100000) : Calls Try.prog 39 #[.slice oa n c, .bool false] w fun e w' => (∃ v, e = .returned v ∧ RetF w.heap.size oa w' (getF false l) v) ∧ Below w.heap.size w w' := by
  have hal := ((Below.refl w.heap.size w).alloc (Nat.le_refl _) (.cells #[.int .i64 0, .int .u32 0, .int .i64 0] 41)).alloc (by simp) (.cells #[.int .i64 0, .int .u32 0, .int .i64 0] 41)
  have hx4 : BxV w.heap.size (.int .i64 0) (.int .u32 0) (.int .i64 0) ((w.alloc (.cells #[.int .i64 0, .int .u32 0, .int .i64 0] 41)).alloc (.cells #[.int .i64 0, .int .u32 0, .int .i64 0] 41)) := hold (hnew _ _)
  have hx7 : BxV (w.heap.size + 1) (.int .i64 0) (.int .u32 0) (.int .i64 0) ((w.alloc (.cells #[.int .i64 0, .int .u32 0, .int .i64 0] 41)).alloc (.cells #[.int .i64 0, .int .u32 0, .int .i64 0] 41)) := hnewAt (by simp)
  have HRES := Lib.hid (show getF false l = match getP l with | none => none | some (a, m, k) => some (⟨0, a, m⟩, l.drop k) from rfl)
  generalize getF false l = res at *
  have hlen := h.sl.len
  have HLN := Lib.hid hlen
  have HNE := Lib.hid (show 0 < n → ∀ b o, oa = some ⟨b, o, none⟩ → b ≠ w.heap.size ∧ b ≠ w.heap.size + 1 from fun h0 b o e => by
    obtain ⟨b', o', e', hr⟩ := h.sl.row h0
    rw [e] at e'
    injection e' with e'
    injection e' with e1 e2
    have := hr.lt
    omega)
  obtain ⟨V, hV⟩ : ∃ V, (w.alloc (.cells #[.int .i64 0, .int .u32 0, .int .i64 0] 41)).alloc (.cells #[.int .i64 0, .int .u32 0, .int .i64 0] 41) = V := ⟨_, rfl⟩
  have hby2 := hby
  rw [hV] at hal hx4 hx7
  have F := Lib.hid (And.intro hal (And.intro hx4 (And.intro hx7 (h.keep hal))))
  clear h hal hx4 hx7 hby hlen
  go_enter Try.func39, Try.ntmps39
  go_wp2_with fail
  clear hV
  refine (aget_any F.out.2.2.2.sl F.out.2.2.2.nil hby2 hn).mono ?_
  rintro e U2 ⟨rfl, hb⟩
  have G := Lib.hid (And.intro (bcall F.out.1 (Nat.le_refl _) hb) (And.intro (F.out.2.1.keep hb) (And.intro (F.out.2.2.1.keep hb) (F.out.2.2.2.keep hb))))
  have HGL := Lib.hid (fun a m k (h : getP l = some (a, m, k)) => getP_len h)
  clear hb F
  obtain ⟨pr, hpr⟩ : ∃ pr, getP l = pr := ⟨_, rfl⟩
  rw [hpr] at HRES HGL ⊢
  clear hpr
  cases pr with
  | none =>
    unfold retP
    dsimp only
    go_wp2_with (with_reducible refine halt_store 39 rfl ?_)
    refine Halted.go ?_
    have hal := (Below.refl U2.heap.size U2).alloc (Nat.le_refl _) (.cells #[.int .u32 0, .int .i64 0] 39)
    refine store_whole rfl 39 _ _ rfl U2.heap.size #[.int .u32 0, .int .i64 0] rfl rfl (hnew _ _) rfl (by kernel_rfl) (by simp [Value.oneCell']) ?_
    intro wz hwz hsz
    have hzb := Below.trans hal (hsz.below (Nat.le_refl _))
    have G2 := Lib.hid (And.intro (bcall G.out.1 (Nat.le_refl _) hzb) (And.intro (G.out.2.1.keep hzb) (And.intro (G.out.2.2.1.keep hzb) (And.intro (G.out.2.2.2.keep hzb) (And.intro (show BxP U2.heap.size ((0, 0) : PK) wz from hwz) G.out.1.size)))))
    clear hwz hsz hal hzb G
    generalize U2.heap.size = q9 at *
    obtain ⟨z0, z1, z2⟩ := G2.out.2.2.1.cells
    go_wp2_with (with_reducible refine halt_store 41 rfl ?_)
    refine Halted.go ?_
    refine store_whole rfl 41 _ _ rfl w.heap.size #[.int .i64 0, .int .u32 0, .int .i64 0] rfl rfl G2.out.2.1 rfl (by kernel_rfl) (by simp [Value.oneCell']) ?_
    intro wy hwy hsy
    have HZ := Lib.hid (And.intro hwy (G2.out.1.trans (hsy.below (Nat.le_refl _))))
    clear hwy hsy z0 z1 z2
    go_wp2_with fail
    refine ret_cell3 rfl rfl rfl HZ.out.1 Try.underlying41 rfl (by kernel_rfl) ⟨⟨_, rfl, ?_⟩, HZ.out.2⟩
    rw [HRES.out]
    exact ⟨⟨0, 0, 0⟩, rfl⟩
  | some p =>
    obtain ⟨a, m, k⟩ := p
    unfold retP
    dsimp only
    go_wp2_with (with_reducible refine halt_store 39 rfl ?_)
    refine Halted.go ?_
    have hal := (Below.refl U2.heap.size U2).alloc (Nat.le_refl _) (.cells #[.int .u32 0, .int .i64 0] 39)
    refine store_whole rfl 39 _ _ rfl U2.heap.size #[.int .u32 (a : Int), .int .i64 (m : Int)] rfl rfl (hnew _ _) rfl (by kernel_rfl) (by simp [Value.oneCell']) ?_
    intro wz hwz hsz
    have hzb := Below.trans hal (hsz.below (Nat.le_refl _))
    have G2 := Lib.hid (And.intro (bcall G.out.1 (Nat.le_refl _) hzb) (And.intro (G.out.2.1.keep hzb) (And.intro (G.out.2.2.1.keep hzb) (And.intro (G.out.2.2.2.keep hzb) (And.intro (show BxP U2.heap.size ((a, (m : Int)) : PK) wz from hwz) G.out.1.size)))))
    clear hwz hsz hal hzb G
    generalize U2.heap.size = q9 at *
    obtain ⟨z0, z1⟩ := G2.out.2.2.2.2.1.cells
    dsimp only at z0 z1
    go_wp2_with (with_reducible refine halt_store 39 rfl ?_)
    refine Halted.go ?_
    refine store_mid rfl 39 _ _ rfl (w.heap.size + 1) 1 (.agg #[.int .u32 (a : Int), .int .i64 (m : Int)]) rfl rfl G2.out.2.2.1 (by simp [Value.cells]) (by kernel_rfl) (by simp [Value.cells, Value.oneCell']) ?_
    intro wm cur' hm hcs hcq hsm
    have hcur : cur' = #[.int .i64 0, .int .u32 (a : Int), .int .i64 (m : Int)] := cur3 hcs hcq
    subst hcur
    have hne4 : w.heap.size ≠ w.heap.size + 1 := by omega
    have hbm : Below (w.heap.size + 1) wz wm := hsm.below (Nat.le_refl _)
    have G3 := Lib.hid (And.intro (G2.out.1.trans (hbm.mono (Nat.le_succ _))) (And.intro ((hsm.other hne4).trans G2.out.2.1) (And.intro (show BxV (w.heap.size + 1) (.int .i64 0) (.int .u32 (a : Int)) (.int .i64 (m : Int)) wm from hm) (G2.out.2.2.2.1.set hsm (fun h0 b o e => (HNE.out h0 b o e).2)))))
    clear hm hcs hcq hsm hne4 hbm z0 z1 G2
    go_wp2_with fail
    refine wp_region_heldP (BxV (w.heap.size + 1) (.int .i64 0) (.int .u32 (a : Int)) (.int .i64 (m : Int))) (by kernel_rfl) ?_
    have hd := (Below.refl wm.heap.size wm).drew
    have G4 := Lib.hid (And.intro (bcall G3.out.1 (Nat.le_refl _) hd) (And.intro (show BxV w.heap.size (.int .i64 0) (.int .u32 0) (.int .i64 0) wm.drew from G3.out.2.1) (And.intro (G3.out.2.2.1.keep hd) (G3.out.2.2.2.keep hd))))
    clear hd G3
    obtain ⟨sa, hr1, hr2, hbt, hqq⟩ := BT.cut G4.out.2.2.2 (i := k) (by have := (HGL.out a m k rfl).2.1; have := HLN.out; omega)
    have HBT := Lib.hid (And.intro hbt hqq)
    clear hbt hqq
    generalize wm.drew = W5 at *
    refine held_reads [0, 1, 2, 3] (g := 3) rfl (by kernel_rfl) G4.out.2.2.1 (fun _ _ d _ _ h => by cases d <;> exact h) ?_
    simp only [pick, List.getD_cons_zero, List.getD_cons_succ]
    ((with_reducible refine wpRead_step (fun K hK => ?_)); go_simp; first | ((with_reducible refine hK _ ?_); clear hK K) | (apply Exists.intro; (with_reducible refine ⟨fun w' hw' => ?_, hK _ ?_⟩); (obtain ⟨f0, f1, f2⟩ := BxV.cells hw'; go_simp; first | exact rfl | exact ⟨rfl, rfl⟩); clear hK K))
    ((with_reducible refine wpRead_step (fun K hK => ?_)); go_simp; first | ((with_reducible refine hK _ ?_); clear hK K) | (apply Exists.intro; (with_reducible refine ⟨fun w' hw' => ?_, hK _ ?_⟩); (first | exact rfl | exact ⟨rfl, rfl⟩); clear hK K))
    ((with_reducible refine wpRead_step (fun K hK => ?_)); go_simp; first | ((with_reducible refine hK _ ?_); clear hK K) | (apply Exists.intro; (with_reducible refine ⟨fun w' hw' => ?_, hK _ ?_⟩); (first | exact rfl | exact ⟨rfl, rfl⟩); clear hK K))
    ((with_reducible refine wpRead_step (fun K hK => ?_)); go_simp; first | ((with_reducible refine hK _ ?_); clear hK K) | (apply Exists.intro; (with_reducible refine ⟨fun w' hw' => ?_, hK _ ?_⟩); (first | exact rfl | exact ⟨rfl, rfl⟩); clear hK K))
    with_reducible refine wpRead_nil ?_
    clear hr1 hr2
    refine held_one 4 (by kernel_rfl) ?_
    simp only [pick, List.getD_cons_zero, List.getD_cons_succ]
    refine store_whole rfl 41 _ _ rfl w.heap.size #[.int .i64 0, .int .u32 (a : Int), .int .i64 (m : Int)] rfl rfl G4.out.2.1 rfl (by kernel_rfl) (by simp [Value.oneCell']) ?_
    intro wy hwy hsy
    have hne4 : w.heap.size + 1 ≠ w.heap.size := by omega
    have HZ := Lib.hid (And.intro hwy (And.intro (G4.out.1.trans (hsy.below (Nat.le_refl _))) (And.intro (show (BxV (w.heap.size + 1) (.int .i64 0) (.int .u32 (a : Int)) (.int .i64 (m : Int))) wy from (hsy.other hne4).trans G4.out.2.2.1) (HBT.out.1.set hsy (fun h0 b o e => let ⟨o2, e2⟩ := HBT.out.2 h0 b o e; (HNE.out (Nat.lt_of_lt_of_le h0 (Nat.sub_le _ _)) b o2 e2).1)))))
    clear hwy hsy hne4
    go_wp2_with fail
    refine ⟨HZ.out.2.2.1, ?_⟩
    refine held_one 5 (by kernel_rfl) ?_
    simp only [pick, List.getD_cons_zero, List.getD_cons_succ]
    go_wp2_with fail
    refine ⟨HZ.out.2.2.1, ?_⟩
    refine held_one 6 (by kernel_rfl) ?_
    simp only [pick, List.getD_cons_zero, List.getD_cons_succ]
    go_wp2_with fail
    refine ⟨HZ.out.2.2.1, ?_⟩
    refine wpAnyH_done (by kernel_rfl) ?_ _
    go_wp2_with fail
    refine ret_cell3 rfl rfl rfl HZ.out.1 Try.underlying41 rfl (by kernel_rfl) ⟨⟨_, rfl, ?_⟩, HZ.out.2.1⟩
    rw [HRES.out]
    exact ⟨_, _, _, rfl, HZ.out.2.2.2, fun h0 b o e => let ⟨o2, e2⟩ := HBT.out.2 h0 b o e; .inr ⟨o2, e2⟩⟩
end Go.Proofs.Ytpjfgfdpngibgaa
/- The one with which bytes begin, where paths have numbers. -/
namespace Go.Proofs.Ytpjfgfdpngibgaa
open Go.RowKit

theorem rd_four (l : List Nat) : rdB ((4 : Nat) : Int) l false = if l.length < 4 then ([], l, true) else (l.take 4, l.drop 4, false) := by
  unfold rdB
  by_cases h : l.length < 4
  · rw [if_pos h, if_pos (by omega)]
  · rw [if_neg h, if_neg (by simp; omega)]
    rfl
theorem rd_all (l : List Nat) : rdB ((l.length : Nat) : Int) l false = (l, [], false) := by
  unfold rdB
  rw [if_neg (by simp)]
  simp
set_option maxRecDepth 100000 in
set_option maxHeartbeats 8000000 in
theorem first_paths {w : World} {oa0 : Option Addr} {n0 c0 : Nat} {l0 : List Nat} (h : BT w oa0 n0 c0 l0) (hby : Bytes l0) (hn0 : n0 ≤ 100000) : Calls Try.prog 39 #[.slice oa0 n0 c0, .bool true] w fun e w' => (∃ v, e = .returned v ∧ RetF w.heap.size oa0 w' (getF true l0) v) ∧ Below w.heap.size w w' := by
  have hal := ((Below.refl w.heap.size w).alloc (Nat.le_refl _) (.cells #[.int .i64 0, .int .u32 0, .int .i64 0] 41)).alloc (by simp) (.cells #[.int .i64 0, .int .u32 0, .int .i64 0] 41)
  have hx4 : BxV w.heap.size (.int .i64 0) (.int .u32 0) (.int .i64 0) ((w.alloc (.cells #[.int .i64 0, .int .u32 0, .int .i64 0] 41)).alloc (.cells #[.int .i64 0, .int .u32 0, .int .i64 0] 41)) := hold (hnew _ _)
  have hx7 : BxV (w.heap.size + 1) (.int .i64 0) (.int .u32 0) (.int .i64 0) ((w.alloc (.cells #[.int .i64 0, .int .u32 0, .int .i64 0] 41)).alloc (.cells #[.int .i64 0, .int .u32 0, .int .i64 0] 41)) := hnewAt (by simp)
  have hsz : w.heap.size + 2 ≤ ((w.alloc (.cells #[.int .i64 0, .int .u32 0, .int .i64 0] 41)).alloc (.cells #[.int .i64 0, .int .u32 0, .int .i64 0] 41)).heap.size := by simp
  have hfr := from_any (h.sl.keep hal) h.nil hby hn0
  have hl0 := h.sl.len
  obtain ⟨V, hV⟩ : ∃ V, (w.alloc (.cells #[.int .i64 0, .int .u32 0, .int .i64 0] 41)).alloc (.cells #[.int .i64 0, .int .u32 0, .int .i64 0] 41) = V := ⟨_, rfl⟩
  rw [hV] at hal hx4 hx7 hsz hfr
  have F0 := Lib.hid (And.intro hal (And.intro hx4 (And.intro hx7 (And.intro hsz hfr))))
  have HL0 := Lib.hid hl0
  have HBY := Lib.hid hby
  clear h hal hx4 hx7 hsz hfr hl0 hby
  go_enter Try.func39, Try.ntmps39
  go_wp2_with fail
  clear hV
  refine (F0.out.2.2.2.2).mono ?_
  rintro e U1 ⟨⟨g, rfl, hg, hrd⟩, hb⟩
  have hg2 : w.heap.size + 1 < g := by have := F0.out.2.2.2.1; omega
  have hN := num_any (k := 4) (.inr (.inr rfl)) hrd
  rw [rd_four] at hN
  have F1 := Lib.hid (And.intro (bcall F0.out.1 (Nat.le_refl _) hb) (And.intro (F0.out.2.1.keep hb) (And.intro (F0.out.2.2.1.keep hb) hN)))
  clear hg hrd hb hN F0
  go_wp2_with fail
  refine (F1.out.2.2.2).mono ?_
  rintro e U2 ⟨rfl, hrd, hbt⟩
  have hb2 : Below w.heap.size w U2 := Below.step F1.out.1 F1.out.1.size hbt (by intro b hb; simp at hb; omega)
  have hx4 : BxV w.heap.size (.int .i64 0) (.int .u32 0) (.int .i64 0) U2 := (hbt.block _ (lt_of_blk F1.out.2.1) (by simp; omega)).trans F1.out.2.1
  have hx7 : BxV (w.heap.size + 1) (.int .i64 0) (.int .u32 0) (.int .i64 0) U2 := (hbt.block _ (lt_of_blk F1.out.2.2.1) (by simp; omega)).trans F1.out.2.2.1
  obtain ⟨X, hX⟩ : ∃ X, getN (if l0.length < 4 then (([], l0, true) : List Nat × List Nat × Bool) else (l0.take 4, l0.drop 4, false)).1 = X := ⟨_, rfl⟩
  rw [hX]
  have hbs : But U2 (U2.setCell ⟨w.heap.size + 1, 0, none⟩ (.int .i64 (X : Int))) [w.heap.size + 1] := (But.refl U2 [w.heap.size + 1]).setCell (.inr (by simp)) _
  have hk5 : Keep5 U2 (U2.setCell ⟨w.heap.size + 1, 0, none⟩ (.int .i64 (X : Int))) := .of_but hbs hx7 (by decide)
  have hrd3 := hrd.keep hk5 (hbs.block _ hrd.lt (by simp; omega))
  have hx43 : BxV w.heap.size (.int .i64 0) (.int .u32 0) (.int .i64 0) (U2.setCell ⟨w.heap.size + 1, 0, none⟩ (.int .i64 (X : Int))) := (hbs.block _ (lt_of_blk hx4) (by simp)).trans hx4
  have hx73 : BxV (w.heap.size + 1) (.int .i64 X) (.int .u32 0) (.int .i64 0) (U2.setCell ⟨w.heap.size + 1, 0, none⟩ (.int .i64 (X : Int))) := by
    have := setCell_blk hx7 0 (.int .i64 (X : Int))
    exact this
  have hb3 : Below w.heap.size w (U2.setCell ⟨w.heap.size + 1, 0, none⟩ (.int .i64 (X : Int))) := Below.step hb2 hb2.size hbs (by intro b hb; simp at hb; omega)
  obtain ⟨z0, -, -⟩ := hx7.cells
  have f0 : U2.frozen? ⟨w.heap.size + 1, 0, none⟩ = false := free_of hx7
  have F3 := Lib.hid (And.intro hb3 (And.intro hx43 (And.intro hx73 hrd3)))
  have HX := Lib.hid hX
  clear hrd hbt hb2 hx4 hx7 hbs hk5 hrd3 hx43 hx73 hb3 F1 hX
  go_wp2_with fail
  clear z0 f0
  generalize U2.setCell ⟨w.heap.size + 1, 0, none⟩ (.int .i64 (X : Int)) = U3 at *
  by_cases hlt : l0.length < 4
  · have HRES := Lib.hid (show getF true l0 = none from if_pos ⟨rfl, hlt⟩)
    rw [if_pos hlt] at F3
    have HB := Lib.hid (bad_any F3.out.2.2.2)
    clear hlt
    refine HB.out.mono ?_
    rintro e W9 ⟨rfl, hw⟩
    have hw := hw.symm
    subst hw
    obtain ⟨z0, z1, z2⟩ := F3.out.2.2.1.cells
    go_wp2_with (with_reducible refine halt_store 41 rfl ?_)
    refine Halted.go ?_
    refine store_whole rfl 41 _ _ rfl w.heap.size #[.int .i64 X, .int .u32 0, .int .i64 0] rfl rfl F3.out.2.1 rfl (by kernel_rfl) (by simp [Value.oneCell']) ?_
    intro wy hwy hsy
    have HZ := Lib.hid (And.intro hwy (F3.out.1.trans (hsy.below (Nat.le_refl _))))
    clear hwy hsy z0 z1 z2
    go_wp2_with fail
    refine ret_cell3 rfl rfl rfl HZ.out.1 Try.underlying41 rfl (by kernel_rfl) ⟨⟨_, rfl, ?_⟩, HZ.out.2⟩
    rw [HRES.out]
    exact ⟨⟨(X : Int), 0, 0⟩, rfl⟩
  · have HRES := Lib.hid (show getF true l0 = match getP (l0.drop 4) with | none => none | some (a, m, k) => some (⟨(getN (l0.take 4) : Nat), a, m⟩, (l0.drop 4).drop k) from if_neg (fun h => hlt h.2))
    rw [if_neg hlt] at F3 HX
    rw [show getN (l0.take 4) = X from HX.out] at HRES
    have hby2 : Bytes (l0.drop 4) := fun x hx => HBY.out x (List.mem_of_mem_drop hx)
    have hn' : (l0.drop 4).length ≤ 100000 := by rw [List.length_drop]; have := HL0.out; omega
    generalize l0.drop 4 = L at *
    dsimp only at F3
    have HB := Lib.hid (bad_any F3.out.2.2.2)
    have hlf := left_any F3.out.2.2.2
    simp only [Bool.false_eq_true, if_false] at hlf
    have HLf := Lib.hid hlf
    have hrb := rbytes_any F3.out.2.2.2 (L.length : Nat)
    rw [rd_all] at hrb
    dsimp only at hrb
    have HRb := Lib.hid hrb
    clear hlt hlf hrb HX HBY HL0
    refine HB.out.mono ?_
    rintro e W9 ⟨rfl, hw⟩
    have hw := hw.symm
    subst hw
    go_wp2_with fail
    refine HLf.out.mono ?_
    rintro e W9 ⟨rfl, hw⟩
    have hw := hw.symm
    subst hw
    go_wp2_with fail
    refine HRb.out.mono ?_
    rintro e U4 ⟨⟨v4, rfl, hown⟩, -, hbt⟩
    have hb4 : Below w.heap.size w U4 := Below.step F3.out.1 F3.out.1.size hbt (by intro b hb; simp at hb; omega)
    have hx4 : BxV w.heap.size (.int .i64 0) (.int .u32 0) (.int .i64 0) U4 := (hbt.block _ (lt_of_blk F3.out.2.1) (by simp; omega)).trans F3.out.2.1
    have hx7 : BxV (w.heap.size + 1) (.int .i64 X) (.int .u32 0) (.int .i64 0) U4 := (hbt.block _ (lt_of_blk F3.out.2.2.1) (by simp; omega)).trans F3.out.2.2.1
    obtain ⟨oa, c, rfl, hbs⟩ := bs_own hown
    have HNE := Lib.hid (show 0 < L.length → ∀ b o, oa = some ⟨b, o, none⟩ → (b ≠ w.heap.size ∧ b ≠ w.heap.size + 1) ∧ w.heap.size ≤ b from fun h0 b o e => by
      subst e
      have h1 := (World.ownsRow.lt hown b rfl).1
      have h2 := lt_of_blk F3.out.2.2.1
      omega)
    have F := Lib.hid (And.intro hb4 (And.intro hx4 (And.intro hx7 (show BT U4 oa L.length c L from ⟨hbs.sl, hbs.nil, hbs.le⟩))))
    obtain ⟨n, hnn⟩ : ∃ n, L.length = n := ⟨_, rfl⟩
    have HNB := Lib.hid (fun h0 b o e => (HNE.out h0 b o e).2)
    have HNE := Lib.hid (fun h0 b o e => (HNE.out h0 b o e).1)
    rw [hnn] at F HNE HNB hn'
    rw [hnn]
    have HLN := Lib.hid hnn.symm
    have hn := hn'
    clear hown hbt hb4 hx4 hx7 hbs hnn HB HLf HRb F3 hn'
    go_wp2_with fail
    refine (aget_any F.out.2.2.2.sl F.out.2.2.2.nil hby2 hn).mono ?_
    rintro e U2 ⟨rfl, hb⟩
    have G := Lib.hid (And.intro (bcall F.out.1 (Nat.le_refl _) hb) (And.intro (F.out.2.1.keep hb) (And.intro (F.out.2.2.1.keep hb) (F.out.2.2.2.keep hb))))
    have HGL := Lib.hid (fun a m k (h : getP L = some (a, m, k)) => getP_len h)
    clear hb F
    obtain ⟨pr, hpr⟩ : ∃ pr, getP L = pr := ⟨_, rfl⟩
    rw [hpr] at HRES HGL ⊢
    clear hpr
    cases pr with
    | none =>
      unfold retP
      dsimp only
      go_wp2_with (with_reducible refine halt_store 39 rfl ?_)
      refine Halted.go ?_
      have hal := (Below.refl U2.heap.size U2).alloc (Nat.le_refl _) (.cells #[.int .u32 0, .int .i64 0] 39)
      refine store_whole rfl 39 _ _ rfl U2.heap.size #[.int .u32 0, .int .i64 0] rfl rfl (hnew _ _) rfl (by kernel_rfl) (by simp [Value.oneCell']) ?_
      intro wz hwz hsz
      have hzb := Below.trans hal (hsz.below (Nat.le_refl _))
      have G2 := Lib.hid (And.intro (bcall G.out.1 (Nat.le_refl _) hzb) (And.intro (G.out.2.1.keep hzb) (And.intro (G.out.2.2.1.keep hzb) (And.intro (G.out.2.2.2.keep hzb) (And.intro (show BxP U2.heap.size ((0, 0) : PK) wz from hwz) G.out.1.size)))))
      clear hwz hsz hal hzb G
      generalize U2.heap.size = q9 at *
      obtain ⟨z0, z1, z2⟩ := G2.out.2.2.1.cells
      go_wp2_with (with_reducible refine halt_store 41 rfl ?_)
      refine Halted.go ?_
      refine store_whole rfl 41 _ _ rfl w.heap.size #[.int .i64 X, .int .u32 0, .int .i64 0] rfl rfl G2.out.2.1 rfl (by kernel_rfl) (by simp [Value.oneCell']) ?_
      intro wy hwy hsy
      have HZ := Lib.hid (And.intro hwy (G2.out.1.trans (hsy.below (Nat.le_refl _))))
      clear hwy hsy z0 z1 z2
      go_wp2_with fail
      refine ret_cell3 rfl rfl rfl HZ.out.1 Try.underlying41 rfl (by kernel_rfl) ⟨⟨_, rfl, ?_⟩, HZ.out.2⟩
      rw [HRES.out]
      exact ⟨⟨X, 0, 0⟩, rfl⟩
    | some p =>
      obtain ⟨a, m, k⟩ := p
      unfold retP
      dsimp only
      go_wp2_with (with_reducible refine halt_store 39 rfl ?_)
      refine Halted.go ?_
      have hal := (Below.refl U2.heap.size U2).alloc (Nat.le_refl _) (.cells #[.int .u32 0, .int .i64 0] 39)
      refine store_whole rfl 39 _ _ rfl U2.heap.size #[.int .u32 (a : Int), .int .i64 (m : Int)] rfl rfl (hnew _ _) rfl (by kernel_rfl) (by simp [Value.oneCell']) ?_
      intro wz hwz hsz
      have hzb := Below.trans hal (hsz.below (Nat.le_refl _))
      have G2 := Lib.hid (And.intro (bcall G.out.1 (Nat.le_refl _) hzb) (And.intro (G.out.2.1.keep hzb) (And.intro (G.out.2.2.1.keep hzb) (And.intro (G.out.2.2.2.keep hzb) (And.intro (show BxP U2.heap.size ((a, (m : Int)) : PK) wz from hwz) G.out.1.size)))))
      clear hwz hsz hal hzb G
      generalize U2.heap.size = q9 at *
      obtain ⟨z0, z1⟩ := G2.out.2.2.2.2.1.cells
      dsimp only at z0 z1
      go_wp2_with (with_reducible refine halt_store 39 rfl ?_)
      refine Halted.go ?_
      refine store_mid rfl 39 _ _ rfl (w.heap.size + 1) 1 (.agg #[.int .u32 (a : Int), .int .i64 (m : Int)]) rfl rfl G2.out.2.2.1 (by simp [Value.cells]) (by kernel_rfl) (by simp [Value.cells, Value.oneCell']) ?_
      intro wm cur' hm hcs hcq hsm
      have hcur : cur' = #[.int .i64 X, .int .u32 (a : Int), .int .i64 (m : Int)] := cur3 hcs hcq
      subst hcur
      have hne4 : w.heap.size ≠ w.heap.size + 1 := by omega
      have hbm : Below (w.heap.size + 1) wz wm := hsm.below (Nat.le_refl _)
      have G3 := Lib.hid (And.intro (G2.out.1.trans (hbm.mono (Nat.le_succ _))) (And.intro ((hsm.other hne4).trans G2.out.2.1) (And.intro (show BxV (w.heap.size + 1) (.int .i64 X) (.int .u32 (a : Int)) (.int .i64 (m : Int)) wm from hm) (G2.out.2.2.2.1.set hsm (fun h0 b o e => (HNE.out h0 b o e).2)))))
      clear hm hcs hcq hsm hne4 hbm z0 z1 G2
      go_wp2_with fail
      refine wp_region_heldP (BxV (w.heap.size + 1) (.int .i64 X) (.int .u32 (a : Int)) (.int .i64 (m : Int))) (by kernel_rfl) ?_
      have hd := (Below.refl wm.heap.size wm).drew
      have G4 := Lib.hid (And.intro (bcall G3.out.1 (Nat.le_refl _) hd) (And.intro (show BxV w.heap.size (.int .i64 0) (.int .u32 0) (.int .i64 0) wm.drew from G3.out.2.1) (And.intro (G3.out.2.2.1.keep hd) (G3.out.2.2.2.keep hd))))
      clear hd G3
      obtain ⟨sa, hr1, hr2, hbt, hqq⟩ := BT.cut G4.out.2.2.2 (i := k) (by have := (HGL.out a m k rfl).2.1; have := HLN.out; omega)
      have HBT := Lib.hid (And.intro hbt hqq)
      clear hbt hqq
      generalize wm.drew = W5 at *
      refine held_reads [0, 1, 2, 3] (g := 3) rfl (by kernel_rfl) G4.out.2.2.1 (fun _ _ d _ _ h => by cases d <;> exact h) ?_
      simp only [pick, List.getD_cons_zero, List.getD_cons_succ]
      ((with_reducible refine wpRead_step (fun K hK => ?_)); go_simp; first | ((with_reducible refine hK _ ?_); clear hK K) | (apply Exists.intro; (with_reducible refine ⟨fun w' hw' => ?_, hK _ ?_⟩); (obtain ⟨f0, f1, f2⟩ := BxV.cells hw'; go_simp; first | exact rfl | exact ⟨rfl, rfl⟩); clear hK K))
      ((with_reducible refine wpRead_step (fun K hK => ?_)); go_simp; first | ((with_reducible refine hK _ ?_); clear hK K) | (apply Exists.intro; (with_reducible refine ⟨fun w' hw' => ?_, hK _ ?_⟩); (first | exact rfl | exact ⟨rfl, rfl⟩); clear hK K))
      ((with_reducible refine wpRead_step (fun K hK => ?_)); go_simp; first | ((with_reducible refine hK _ ?_); clear hK K) | (apply Exists.intro; (with_reducible refine ⟨fun w' hw' => ?_, hK _ ?_⟩); (first | exact rfl | exact ⟨rfl, rfl⟩); clear hK K))
      ((with_reducible refine wpRead_step (fun K hK => ?_)); go_simp; first | ((with_reducible refine hK _ ?_); clear hK K) | (apply Exists.intro; (with_reducible refine ⟨fun w' hw' => ?_, hK _ ?_⟩); (first | exact rfl | exact ⟨rfl, rfl⟩); clear hK K))
      with_reducible refine wpRead_nil ?_
      clear hr1 hr2
      refine held_one 4 (by kernel_rfl) ?_
      simp only [pick, List.getD_cons_zero, List.getD_cons_succ]
      refine store_whole rfl 41 _ _ rfl w.heap.size #[.int .i64 X, .int .u32 (a : Int), .int .i64 (m : Int)] rfl rfl G4.out.2.1 rfl (by kernel_rfl) (by simp [Value.oneCell']) ?_
      intro wy hwy hsy
      have hne4 : w.heap.size + 1 ≠ w.heap.size := by omega
      have HZ := Lib.hid (And.intro hwy (And.intro (G4.out.1.trans (hsy.below (Nat.le_refl _))) (And.intro (show (BxV (w.heap.size + 1) (.int .i64 X) (.int .u32 (a : Int)) (.int .i64 (m : Int))) wy from (hsy.other hne4).trans G4.out.2.2.1) (HBT.out.1.set hsy (fun h0 b o e => let ⟨o2, e2⟩ := HBT.out.2 h0 b o e; (HNE.out (Nat.lt_of_lt_of_le h0 (Nat.sub_le _ _)) b o2 e2).1)))))
      clear hwy hsy hne4
      go_wp2_with fail
      refine ⟨HZ.out.2.2.1, ?_⟩
      refine held_one 5 (by kernel_rfl) ?_
      simp only [pick, List.getD_cons_zero, List.getD_cons_succ]
      go_wp2_with fail
      refine ⟨HZ.out.2.2.1, ?_⟩
      refine held_one 6 (by kernel_rfl) ?_
      simp only [pick, List.getD_cons_zero, List.getD_cons_succ]
      go_wp2_with fail
      refine ⟨HZ.out.2.2.1, ?_⟩
      refine wpAnyH_done (by kernel_rfl) ?_ _
      go_wp2_with fail
      refine ret_cell3 rfl rfl rfl HZ.out.1 Try.underlying41 rfl (by kernel_rfl) ⟨⟨_, rfl, ?_⟩, HZ.out.2.1⟩
      rw [HRES.out]
      exact ⟨_, _, _, rfl, HZ.out.2.2.2, fun h0 b o e => let ⟨o2, e2⟩ := HBT.out.2 h0 b o e; .inl (HNB.out (Nat.lt_of_lt_of_le h0 (Nat.sub_le _ _)) b o2 e2)⟩
theorem first_any (paths : Bool) {w : World} {oa : Option Addr} {n c : Nat} {l : List Nat} (h : BT w oa n c l) (hby : Bytes l) (hn : n ≤ 100000) : Calls Try.prog 39 #[.slice oa n c, .bool paths] w fun e w' => (∃ v, e = .returned v ∧ RetF w.heap.size oa w' (getF paths l) v) ∧ Below w.heap.size w w' := by
  cases paths with
  | false => exact first_plain h hby hn
  | true => exact first_paths h hby hn
end Go.Proofs.Ytpjfgfdpngibgaa
/- The prefixes of bytes. -/
namespace Go.Proofs.Ytpjfgfdpngibgaa
open Go.RowKit

theorem getF_spec {paths : Bool} {b : List Nat} {n : Nl} {r : List Nat} (h : getF paths b = some (n, r)) : r.length < b.length ∧ ∃ k, r = b.drop k := by
  unfold getF at h
  split at h
  · cases h
  · rename_i hp
    split at h
    · cases h
    · rename_i a m k hg
      injection h with h
      injection h with h1 h2
      have hl := getP_len hg
      rw [← h2]
      cases paths with
      | false =>
        simp only [Bool.false_eq_true, if_false] at hl ⊢
        rw [List.length_drop]
        exact ⟨by omega, _, rfl⟩
      | true =>
        simp only [if_true] at hl ⊢
        rw [List.length_drop] at hl
        rw [List.drop_drop, List.length_drop]
        exact ⟨by omega, _, rfl⟩
theorem getF_lt {paths : Bool} {b : List Nat} (hb : Bytes b) {n : Nl} {r : List Nat} (h : getF paths b = some (n, r)) : n.a < 4294967296 := by
  unfold getF at h
  split at h
  · cases h
  · split at h
    · cases h
    · rename_i a m k hg
      injection h with h
      injection h with h1 h2
      rw [← h1]
      refine getP_lt ?_ hg
      cases paths with
      | false => exact hb
      | true => exact fun x hx => hb x (List.mem_of_mem_drop hx)
def getL (paths : Bool) : Nat → List Nat → Nat → Option (List Nl)
  | 0, b, _ => if b = [] then some [] else none
  | f + 1, b, k => if b = [] then some [] else match getF paths b with
    | none => none
    | some (n, r) => if 1024 ≤ k then none else (getL paths f r (k + 1)).map (n :: ·)
theorem getL_nil (paths : Bool) (f k : Nat) : getL paths f [] k = some [] := by cases f <;> rfl
theorem getL_fuel {paths : Bool} : ∀ (f f' : Nat) (b : List Nat) (k : Nat), b.length ≤ f → b.length ≤ f' → getL paths f b k = getL paths f' b k
  | 0, f', b, k, h, _ => by
    obtain rfl : b = [] := List.length_eq_zero_iff.1 (by omega)
    rw [getL_nil, getL_nil]
  | f + 1, 0, b, k, _, h => by
    obtain rfl : b = [] := List.length_eq_zero_iff.1 (by omega)
    rw [getL_nil, getL_nil]
  | f + 1, f' + 1, b, k, h, h' => by
    unfold getL
    by_cases hb : b = []
    · rw [if_pos hb, if_pos hb]
    · rw [if_neg hb, if_neg hb]
      cases hg : getF paths b with
      | none => rfl
      | some p =>
        obtain ⟨n, r⟩ := p
        have := (getF_spec hg).1
        show (if 1024 ≤ k then none else (getL paths f r (k + 1)).map (n :: ·)) = if 1024 ≤ k then none else (getL paths f' r (k + 1)).map (n :: ·)
        rw [getL_fuel f f' r (k + 1) (by omega) (by omega)]
/-- the prefixes of bytes, where k have come -/
def getA (paths : Bool) (b : List Nat) (k : Nat) : Option (List Nl) := getL paths b.length b k
theorem getA_nil (paths : Bool) (k : Nat) : getA paths [] k = some [] := rfl
theorem getA_none {paths : Bool} {b : List Nat} {k : Nat} (hb : b ≠ []) (h : getF paths b = none) : getA paths b k = none := by
  unfold getA
  cases b with
  | nil => exact absurd rfl hb
  | cons x r =>
    show getL paths (r.length + 1) (x :: r) k = none
    unfold getL
    rw [if_neg (by simp), h]
theorem getA_some {paths : Bool} {b : List Nat} {k : Nat} (hb : b ≠ []) {n : Nl} {r : List Nat} (h : getF paths b = some (n, r)) : getA paths b k = if 1024 ≤ k then none else (getA paths r (k + 1)).map (n :: ·) := by
  unfold getA
  cases b with
  | nil => exact absurd rfl hb
  | cons x q =>
    have hl := (getF_spec h).1
    rw [List.length_cons] at hl
    show getL paths (q.length + 1) (x :: q) k = _
    rw [getL, if_neg (by simp), h]
    show (if 1024 ≤ k then none else (getL paths q.length r (k + 1)).map (n :: ·)) = _
    rw [getL_fuel q.length r.length r (k + 1) (by omega) (Nat.le_refl _)]
theorem map_snoc {o : Option (List Nl)} {out : List Nl} {x : Nl} : (o.map (x :: ·)).map (out ++ ·) = o.map ((out ++ [x]) ++ ·) := by
  cases o with
  | none => rfl
  | some l => simp
def RetL (w : World) (base : Nat) (o : Option (List Nl)) (e : Value) : Prop := match o with
  | none => e = .tuple #[.slice none 0 0, .int .i64 60]
  | some L => ∃ v, e = .tuple #[v, .int .i64 0] ∧ RNl.Own w base v L ∧ (∀ x ∈ L, x.a < 4294967296) ∧ L.length ≤ 1024
set_option maxRecDepth 100000 in
set_option maxHeartbeats 8000000 in
theorem nget_any (paths : Bool) {w : World} {oa : Option Addr} {n c : Nat} {l : List Nat} (h : BT w oa n c l) (hby : Bytes l) (hn : n ≤ 100000) : Calls Try.prog 14 #[.slice oa n c, .bool paths] w fun e w' => (∃ v, e = .returned v ∧ RetL w' w.heap.size (getA paths l 0) v) ∧ Below w.heap.size w w' := by
  have F := Lib.hid (And.intro h hby)
  have HA := Lib.hid (show getA paths l 0 = (getA paths l ([] : List Nl).length).map ([] ++ ·) from by simp)
  obtain ⟨res, hres⟩ : ∃ res, getA paths l 0 = res := ⟨_, rfl⟩
  rw [hres] at HA ⊢
  clear h hby hres
  go_enter Try.func14, Try.ntmps14
  go_wp2_with fail
  go_loopw [0, 6] (fun bv ov wr => ∃ (oa : Option Addr) (n c : Nat) (b : List Nat) (out : List Nl), bv = .slice oa n c ∧ BT wr oa n c b ∧ Bytes b ∧ n ≤ 100000 ∧ RNl.Own wr w.heap.size ov out ∧ out.length ≤ 1024 ∧ (∀ x ∈ out, x.a < 4294967296) ∧ (0 < n → ∀ b o, oa = some ⟨b, o, none⟩ → ov.ownBlock ≠ some b) ∧ res = (getA paths b out.length).map (out ++ ·) ∧ Below w.heap.size w wr) (fun bv _ _ => lenV bv)
  case atStart => exact ⟨oa, n, c, l, [], rfl, F.out.1, F.out.2, hn, Rep.Own.nil _ _, by simp, by simp, fun _ b o _ h => (by cases h), HA.out, Below.refl _ _⟩
  case round =>
    obtain ⟨oa, n, c, b, out, rfl, hbt, hby, hn, hown, hol, had, hne, hra, hb⟩ := hrel
    obtain ⟨w2, rfl⟩ : ∃ w2 : World, w2 = wr := ⟨_, rfl⟩
    have hbl := hbt.sl.len
    by_cases h0 : n = 0
    · have h0t : (0 < n) = False := by simp; omega
      have hbn : b = [] := List.length_eq_zero_iff.1 (by omega)
      rw [hbn, getA_nil] at hra
      obtain ⟨oo, cc, rfl, -, -⟩ := hown.sl0
      have G := Lib.hid (And.intro hown (And.intro had (And.intro hb (show res = some out by rw [hra]; simp))))
      clear hbt hby hown had hne hra hb hbl hbn h0 F HA
      go_wp2_with fail
      go_ret2
      refine ⟨⟨_, rfl, ?_⟩, G.out.2.2.1⟩
      rw [G.out.2.2.2]
      exact ⟨_, rfl, G.out.1, G.out.2.1, hol⟩
    · have h0t : (0 < n) = True := by simp; omega
      have hbn : b ≠ [] := by rintro rfl; exact h0 hbl
      have HN := Lib.hid (And.intro hbn (And.intro hbl h0))
      have HC := Lib.hid (first_any paths hbt hby hn)
      obtain ⟨oo, cc, rfl, -, -⟩ := hown.sl0
      have G := Lib.hid (And.intro hown (And.intro had (And.intro hb (And.intro hra (And.intro hby hne)))))
      clear hbt hby hown had hne hra hb hbl hbn h0 F HA
      obtain ⟨m, hm⟩ : ∃ m, out.length = m := ⟨_, rfl⟩
      rw [hm] at G hol ⊢
      have HM := Lib.hid hm
      clear hm
      go_wp2_with fail
      refine HC.out.mono ?_
      rintro e w3 ⟨⟨v3, rfl, hret⟩, hb3⟩
      have G3 := Lib.hid (And.intro (G.out.1.below hb3) (bcall G.out.2.2.1 (Nat.le_refl _) hb3))
      cases hf : getF paths b with
      | none =>
        rw [hf] at hret
        obtain ⟨x, rfl⟩ := hret
        have HR := Lib.hid (show res = none by rw [G.out.2.2.2.1, getA_none HN.out.1 hf]; rfl)
        unfold Nl.v
        clear hb3 hf HC
        go_wp2_with (with_reducible refine halt_store 41 rfl ?_)
        refine Halted.go ?_
        have hal := (Below.refl w3.heap.size w3).alloc (Nat.le_refl _) (.cells #[.int .i64 0, .int .u32 0, .int .i64 0] 41)
        refine store_whole rfl 41 _ _ rfl w3.heap.size #[.int .i64 x.id, .int .u32 (x.a : Int), .int .i64 x.ln] rfl rfl (hnew _ _) rfl (by kernel_rfl) (by simp [Value.oneCell']) ?_
        intro wz hwz hsz
        have HZ := Lib.hid (bcall G3.out.2 (Nat.le_refl _) (Below.trans hal (hsz.below (Nat.le_refl _))))
        clear hwz hsz hal
        go_wp2_with fail
        go_ret2
        refine ⟨⟨_, rfl, ?_⟩, HZ.out⟩
        rw [HR.out]
        rfl
      | some p =>
        obtain ⟨x, r⟩ := p
        rw [hf] at hret
        obtain ⟨oa3, k3, c3, rfl, hbt3, hfb⟩ := hret
        have HNE3 := Lib.hid (show 0 < k3 → ∀ b o, oa3 = some ⟨b, o, none⟩ → (Value.slice oo m cc).ownBlock ≠ some b from fun h0 b o e he => by
          rcases hfb h0 b o e with h1 | ⟨o2, h1⟩
          · have := (World.ownsRow.lt G.out.1 b he).2
            omega
          · exact G.out.2.2.2.2.2 (Nat.pos_of_ne_zero HN.out.2.2) b o2 h1 he)
        have hsp := getF_spec hf
        have HR := Lib.hid (show res = (if 1024 ≤ m then none else (getA paths r (m + 1)).map (x :: ·)).map (out ++ ·) by rw [G.out.2.2.2.1, getA_some HN.out.1 hf])
        have hk3 : k3 < n := by have := hbt3.sl.len; have := HN.out.2.1; omega
        have HXA := Lib.hid (And.intro (getF_lt G.out.2.2.2.2.1 hf) (show Bytes r from by
          obtain ⟨q, hq⟩ := hsp.2
          rw [hq]
          exact fun y hy => G.out.2.2.2.2.1 y (List.mem_of_mem_drop hy)))
        unfold Nl.v
        clear hb3 hf HC hsp hfb
        go_wp2_with (with_reducible refine halt_store 41 rfl ?_)
        refine Halted.go ?_
        have hal := (Below.refl w3.heap.size w3).alloc (Nat.le_refl _) (.cells #[.int .i64 0, .int .u32 0, .int .i64 0] 41)
        refine store_whole rfl 41 _ _ rfl w3.heap.size #[.int .i64 x.id, .int .u32 (x.a : Int), .int .i64 x.ln] rfl rfl (hnew _ _) rfl (by kernel_rfl) (by simp [Value.oneCell']) ?_
        intro wz hwz hsz
        have hzb := Below.trans hal (hsz.below (Nat.le_refl _))
        have G4 := Lib.hid (And.intro (G3.out.1.below hzb) (And.intro (bcall G3.out.2 (Nat.le_refl _) hzb) (And.intro (show BxN w3.heap.size x wz from hwz) (hbt3.keep hzb))))
        clear hwz hsz hal hzb hbt3 G3
        generalize w3.heap.size = q3 at *
        by_cases hmx : 1024 ≤ m
        · have hmt : ((1024 : Int) ≤ (m : Int)) = True := by simp; omega
          have HR2 := Lib.hid (show res = none by rw [HR.out, if_pos hmx]; rfl)
          clear hmx
          go_wp2_with fail
          go_ret2
          refine ⟨⟨_, rfl, ?_⟩, G4.out.2.1⟩
          rw [HR2.out]
          rfl
        · have hmt : ((1024 : Int) ≤ (m : Int)) = False := by simp; omega
          have HR2 := Lib.hid (show res = (getA paths r (m + 1)).map ((out ++ [x]) ++ ·) by rw [HR.out, if_neg hmx, map_snoc])
          obtain ⟨z0, z1, z2⟩ := G4.out.2.2.1.cells
          have hm2 : m + 1 ≤ 1024 := by omega
          clear hmx HR
          go_wp2_with (at_builtin; refine halt ?_)
          refine Halted.go ?_
          have hal := (Below.refl wz.heap.size wz).alloc (Nat.le_refl _) (.cells #[.int .i64 x.id, .int .u32 (x.a : Int), .int .i64 x.ln] 41)
          have hone : RNl.Sl (wz.alloc (.cells #[.int .i64 x.id, .int .u32 (x.a : Int), .int .i64 x.ln] 41)) (some ⟨wz.heap.size, 0, none⟩) 1 1 [x] := Rep.sl_one (R := RNl) (y := x) (hnew _ _)
          have G5 := Lib.hid (And.intro (G4.out.1.below hal) (And.intro (bcall G4.out.2.1 (Nat.le_refl _) hal) (And.intro hone (G4.out.2.2.2.keep hal))))
          clear hal hone z0 z1 z2 G4
          have hol' := HM.out
          refine Rep.append_list2 TNl rfl _ _ rfl rfl G5.out.1 (M := [x]) rfl G5.out.2.2.1 (by decide) (by rw [hol']; unfold maxLen; omega) (by rw [hol']; omega) G5.out.2.1.size ?_
          intro v6 w6 hown6 hb6 hgr
          have hbt6 : BT w6 oa3 k3 c3 r := ⟨⟨G5.out.2.2.2.sl.len, G5.out.2.2.2.sl.max, fun h0 => by
            obtain ⟨b, o, e, hr⟩ := G5.out.2.2.2.sl.row h0
            exact ⟨b, o, e, hr.keep (hgr b (HNE3.out h0 b o e) hr.lt).2⟩⟩, G5.out.2.2.2.nil, G5.out.2.2.2.le⟩
          have hne6 : 0 < k3 → ∀ b o, oa3 = some ⟨b, o, none⟩ → v6.ownBlock ≠ some b := fun h0 b o e => by
            obtain ⟨b', o', e', hr⟩ := G5.out.2.2.2.sl.row h0
            have he := e
            rw [e'] at e
            injection e with e
            injection e with e1 e2
            subst e1
            exact (hgr b' (HNE3.out h0 b' o he) hr.lt).1
          have G6 := Lib.hid (And.intro hown6 (And.intro (G5.out.2.1.trans hb6) (And.intro hbt6 hne6)))
          clear hown6 hb6 hgr hbt6 hne6 G5 hol'
          go_wp2_with fail
          refine ⟨⟨_, _, _, r, out ++ [x], rfl, G6.out.2.2.1, HXA.out.2, by omega, G6.out.1, by rw [List.length_append, HM.out]; exact hm2, ?_, G6.out.2.2.2, by rw [List.length_append, HM.out]; exact HR2.out, G6.out.2.1⟩, hk3⟩
          intro y hy
          rcases List.mem_append.1 hy with hy | hy
          · exact G.out.2.1 y hy
          · rw [List.mem_singleton.1 hy]; exact HXA.out.1
end Go.Proofs.Ytpjfgfdpngibgaa
/- The bytes of prefixes, got, are the prefixes: the plain law. -/
namespace Go.Proofs.Ytpjfgfdpngibgaa
open Go.RowKit

theorem be4 (a : Nat) : be 4 a = [a / 16777216 % 256, a / 65536 % 256, a / 256 % 256, a % 256] := by
  simp [be, Nat.div_div_eq_div_mul]
theorem cut_dvd {a m k : Nat} (h : cut a m = a) (hk : k ≤ 32 - m) : a % 2 ^ k = 0 := by
  unfold cut at h
  have h1 : 2 ^ k ∣ 2 ^ (32 - m) := Nat.pow_dvd_pow 2 hk
  have h2 : 2 ^ (32 - m) ∣ a := ⟨a / 2 ^ (32 - m), by rw [Nat.mul_comm]; exact h.symm⟩
  exact Nat.mod_eq_zero_of_dvd (Nat.dvd_trans h1 h2)
theorem pad4_be {a m : Nat} (hm : m ≤ 32) (h : cut a m = a) : pad4 ((be 4 a).take (szB m)) = be 4 a := by
  rw [be4]
  have hk := szB_le hm
  have hs : szB m = (m + 7) / 8 := rfl
  have hc : szB m = 0 ∨ szB m = 1 ∨ szB m = 2 ∨ szB m = 3 ∨ szB m = 4 := by omega
  rcases hc with e | e | e | e | e
  · have h1 := cut_dvd (k := 32) h (by omega)
    have h2 : a % 4294967296 = 0 := h1
    rw [e]; simp only [pad4, List.take_zero, List.nil_append, List.take_succ_cons, List.take_zero]
    simp only [List.cons.injEq, and_true]
    omega
  · have h1 := cut_dvd (k := 24) h (by omega)
    have h2 : a % 16777216 = 0 := h1
    rw [e]; simp only [pad4, List.take_succ_cons, List.take_zero, List.cons_append, List.nil_append]
    simp only [List.cons.injEq, and_true, true_and]
    omega
  · have h1 := cut_dvd (k := 16) h (by omega)
    have h2 : a % 65536 = 0 := h1
    rw [e]; simp only [pad4, List.take_succ_cons, List.take_zero, List.cons_append, List.nil_append]
    simp only [List.cons.injEq, and_true, true_and]
    omega
  · have h1 := cut_dvd (k := 8) h (by omega)
    have h2 : a % 256 = 0 := h1
    rw [e]; simp only [pad4, List.take_succ_cons, List.take_zero, List.cons_append, List.nil_append]
    simp only [List.cons.injEq, and_true, true_and]
    omega
  · rw [e]; rfl
theorem getP_pb {a m : Nat} (ha : a < 4294967296) (hok : okP a m = true) (r : List Nat) : getP (pb a m ++ r) = some (a, m, 1 + szB m) := by
  obtain ⟨-, h2, h3⟩ := okP_iff.1 hok
  have hm : m ≤ 32 := by omega
  have h4 : cut a m = a := by simpa using h3
  have hk := szB_le hm
  have hl : ((be 4 a).take (szB m)).length = szB m := by rw [List.length_take, be_length]; omega
  show (if 32 < m then none else if ((be 4 a).take (szB m) ++ r).length < szB m then none else some (cut (getN (pad4 (((be 4 a).take (szB m) ++ r).take (szB m)))) m, m, 1 + szB m)) = _
  rw [if_neg (by omega), if_neg (by rw [List.length_append, hl]; omega), List.take_left' hl, pad4_be hm h4, getN_be 4 a ha, h4]
theorem getF_nb {paths : Bool} {n : Nl} (ha : n.a < 4294967296) (hok : okN paths n = true) (r : List Nat) : getF paths (nb paths n ++ r) = some (n, r) := by
  obtain ⟨i, m, h1, h2, h3, h4, h5⟩ := okN_nat hok
  have hid := (okN_iff.1 hok).1.2.2
  obtain ⟨id, a, ln⟩ := n
  dsimp only at h1 h2 h5 ha hid
  subst h1 h2
  have hp := getP_pb ha h5 r
  have hl : (pb a m).length = 1 + szB m := by rw [pb_len h4]; omega
  unfold getF nb
  dsimp only
  rw [Int.toNat_natCast, Int.toNat_natCast]
  cases paths with
  | false =>
    simp only [Bool.false_eq_true, if_false, false_and, List.nil_append, false_or] at hid ⊢
    rw [hp]
    show some ((⟨0, a, m⟩ : Nl), (pb a m ++ r).drop (1 + szB m)) = _
    rw [List.drop_left' hl, ← hid]
  | true =>
    simp only [if_true, true_and]
    have h6 : (be 4 i ++ pb a m ++ r).drop 4 = pb a m ++ r := by rw [List.append_assoc]; exact List.drop_left' (be_length 4 i)
    have h7 : (be 4 i ++ pb a m ++ r).take 4 = be 4 i := by rw [List.append_assoc]; exact List.take_left' (be_length 4 i)
    rw [if_neg (by simp [be_length]), h6, h7, hp, getN_be 4 i h3]
    show some ((⟨(i : Nat), a, m⟩ : Nl), (pb a m ++ r).drop (1 + szB m)) = _
    rw [List.drop_left' hl]
theorem nb_ne {paths : Bool} {n : Nl} (r : List Nat) : nb paths n ++ r ≠ [] := by
  unfold nb pb
  simp
theorem getA_nbs {paths : Bool} : ∀ {L : List Nl} (R : List Nat) (k : Nat), (∀ x ∈ L, x.a < 4294967296) → L.all (okN paths) = true → getA paths (nbs paths L ++ R) k = if k + L.length ≤ 1024 then (getA paths R (k + L.length)).map (L ++ ·) else if L = [] then getA paths R k else none
  | [], R, k, _, _ => by
    show getA paths R k = _
    by_cases h : k + ([] : List Nl).length ≤ 1024
    · rw [if_pos h]; simp
    · rw [if_neg h, if_pos rfl]
  | x :: r, R, k, ha, hok => by
    rw [List.all_cons, Bool.and_eq_true] at hok
    have e : nbs paths (x :: r) ++ R = nb paths x ++ (nbs paths r ++ R) := by unfold nbs; rw [List.flatMap_cons, List.append_assoc]
    rw [e, getA_some (nb_ne _) (getF_nb (ha x (by simp)) hok.1 _), getA_nbs R (k + 1) (fun y hy => ha y (by simp [hy])) hok.2, List.length_cons]
    by_cases h : k + (r.length + 1) ≤ 1024
    · rw [if_pos h, if_neg (by omega), if_pos (by omega), show k + 1 + r.length = k + (r.length + 1) by omega]
      cases getA paths R (k + (r.length + 1)) <;> rfl
    · rw [if_neg h, if_neg (show ¬ (x :: r = []) by simp)]
      by_cases h2 : 1024 ≤ k
      · rw [if_pos h2]
      · rw [if_neg h2, if_neg (by omega), if_neg (by rintro rfl; simp at h; omega)]
        rfl
theorem getA_put {paths : Bool} {L : List Nl} (ha : ∀ x ∈ L, x.a < 4294967296) (hok : okL paths L = true) : getA paths (nbs paths L) 0 = some L := by
  have h := getA_nbs [] 0 ha (okL_iff.1 hok).2
  rw [List.append_nil, if_pos (by have := (okL_iff.1 hok).1; omega), getA_nil] at h
  simpa using h
theorem nbs_append {paths : Bool} (L M : List Nl) : nbs paths (L ++ M) = nbs paths L ++ nbs paths M := by unfold nbs; rw [List.flatMap_append]
theorem getA_join {paths : Bool} {L M : List Nl} (ha : ∀ x ∈ L, x.a < 4294967296) (hb : ∀ x ∈ M, x.a < 4294967296) (hl : L.all (okN paths) = true) (hm : M.all (okN paths) = true) : getA paths (nbs paths L ++ nbs paths M) 0 = if L.length + M.length ≤ 1024 then some (L ++ M) else none := by
  have h := getA_nbs (L := L ++ M) [] 0 (fun x hx => (List.mem_append.1 hx).elim (ha x) (hb x)) (by rw [List.all_append, hl, hm]; rfl)
  rw [List.append_nil, nbs_append, List.length_append, Nat.zero_add, getA_nil] at h
  rw [h]
  by_cases hc : L.length + M.length ≤ 1024
  · rw [if_pos hc, if_pos hc]; simp
  · rw [if_neg hc, if_neg hc]
    split
    · rename_i he
      have := congrArg List.length he
      rw [List.length_append, List.length_nil] at this
      omega
    · rfl
theorem nb_bytes {paths : Bool} {n : Nl} (hok : okN paths n = true) : Bytes (nb paths n) := by
  obtain ⟨i, m, h1, h2, h3, h4, h5⟩ := okN_nat hok
  unfold nb pb
  rw [h2, Int.toNat_natCast]
  intro x hx
  rcases List.mem_append.1 hx with hx | hx
  · cases paths with
    | false => cases hx
    | true => exact be_bytes 4 _ x hx
  · rcases List.mem_cons.1 hx with rfl | hx
    · omega
    · exact be_bytes 4 _ x (List.mem_of_mem_take hx)
theorem nbs_bytes {paths : Bool} {L : List Nl} (h : L.all (okN paths) = true) : Bytes (nbs paths L) := by
  intro x hx
  unfold nbs at hx
  obtain ⟨n, hn, hx⟩ := List.mem_flatMap.1 hx
  exact nb_bytes (List.all_eq_true.1 h n hn) x hx
end Go.Proofs.Ytpjfgfdpngibgaa
