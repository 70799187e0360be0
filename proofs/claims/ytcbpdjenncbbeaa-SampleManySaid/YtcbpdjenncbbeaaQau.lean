/- The packets of lives. -/
import Derived.Test.YtcbpdjenncbbeaaQat
import Derived.Test.YtcbpdjenncbbeaaQaj
import Derived.Test.YtcbpdjenncbbeaaQak
namespace Go.Proofs.Ytcbpdjenncbbeaa.Ip
open Go.RowKit

theorem usual2 (w : World) : Calls Try.prog 38 #[] w fun e w' => (∃ a c, e = .returned (.agg #[.int .i64 300, .slice a 2 c]) ∧ FdsOk w' ⟨a, 2, c, [(12, 4), (1, 4)]⟩) ∧ Below w.heap.size w w' :=
  (usual_any w).mono fun e w' ⟨⟨t, h1, h2, h3, h4, h5⟩, hb⟩ => by
    obtain ⟨id, ⟨a, n, c, l⟩⟩ := t
    dsimp only at *
    subst h2 h3 h4
    exact ⟨⟨a, c, h1, h5⟩, hb⟩
theorem tms1 {W : World} {a : Option Addr} {c : Nat} (hf : FdsOk W ⟨a, 2, c, [(12, 4), (1, 4)]⟩) : TmsOk (W.alloc (.cells #[.int .i64 300, .slice a 2 c] 93)) ⟨some ⟨W.heap.size, 0, none⟩, 1, 1, [((300 : Int), (⟨a, 2, c, [(12, 4), (1, 4)]⟩ : SlV (Int × Int)))]⟩ ∧ Below W.heap.size W (W.alloc (.cells #[.int .i64 300, .slice a 2 c] 93)) := by
  have hb := (Below.refl W.heap.size W).alloc (Nat.le_refl _) (.cells #[.int .i64 300, .slice a 2 c] 93)
  have ho : RTm.Own (W.alloc (.cells #[.int .i64 300, .slice a 2 c] 93)) W.heap.size (.slice (some ⟨W.heap.size, 0, none⟩) 1 1) [((300 : Int), (⟨a, 2, c, [(12, 4), (1, 4)]⟩ : SlV (Int × Int)))] := ⟨rfl, .inr ⟨W.heap.size, 1, #[.int .i64 300, .slice a 2 c], rfl, Nat.le_refl _, hnew _ _, Nat.le_refl _, by unfold maxLen; omega, rfl, rfl⟩⟩
  obtain ⟨oa, c', hv, -, -, hs, -⟩ := ho.sl
  simp only [Value.slice.injEq] at hv
  obtain ⟨rfl, -, rfl⟩ := hv
  exact ⟨⟨hs, (fun h => by cases h), Nat.le_refl _, by show 1 ≤ maxLen; unfold maxLen; omega, fun x hx => by simp only [List.mem_singleton] at hx; subst hx; exact FdsOk.keep hf hb⟩, hb⟩

theorem sl_flat {α : Type} [Inhabited α] {R : Rep α} {w : World} {b : Nat} {M : List α} {T : TypeId} {fr : Nat × Nat} (h : w.heap[b]? = some (.cells (R.flat M).toArray T fr)) (hm : M.length ≤ maxLen) : R.Sl w (some ⟨b, 0, none⟩) M.length M.length M :=
  ⟨rfl, hm, fun _ => ⟨b, 0, rfl, lt_of_blk h, fun i hi j hj => by
    rw [Nat.zero_add]
    have e := R.flat_get M i j hi hj
    rw [← e]
    simp [World.cell?, h]⟩⟩
def fs3 : List Fl := [⟨3, 167837701, 70⟩, ⟨3, 167772165, 8⟩, ⟨3, 184549376, 1⟩]
def pk1 (sa : Option Addr) (sc : Nat) (a1 : Option Addr) (c1 : Nat) (a2 : Option Addr) (c2 : Nat) : Pk := ⟨0, 0, 3, ⟨sa, 2, sc, [((2 : Int), (⟨a1, 12, c1, usB⟩ : SlV Nat)), ((300 : Int), (⟨a2, 24, c2, dB⟩ : SlV Nat))]⟩⟩
def pk2 (sa : Option Addr) (sc : Nat) (a1 : Option Addr) (c1 : Nat) : Pk := ⟨0, 5, 3, ⟨sa, 1, sc, [((2 : Int), (⟨a1, 12, c1, usB⟩ : SlV Nat))]⟩⟩
theorem okP1 (sa : Option Addr) (sc : Nat) (a1 : Option Addr) (c1 : Nat) (a2 : Option Addr) (c2 : Nat) : okP (pk1 sa sc a1 c1 a2 c2) = true := by rfl
theorem okP2 (sa : Option Addr) (sc : Nat) (a1 : Option Addr) (c1 : Nat) : okP (pk2 sa sc a1 c1) = true := by rfl
theorem pkB1 (sa : Option Addr) (sc : Nat) (a1 : Option Addr) (c1 : Nat) (a2 : Option Addr) (c2 : Nat) : pkB (pk1 sa sc a1 c1 a2 c2) = P1 := by kernel_rfl
theorem pkB2 (sa : Option Addr) (sc : Nat) (a1 : Option Addr) (c1 : Nat) : pkB (pk2 sa sc a1 c1) = P2 := by kernel_rfl
theorem dok_own {w : World} {base : Nat} {v : Value} {l : List Nat} (h : RB.Own w base v l) (hb : Bytes l) : ∃ oa c, v = .slice oa l.length c ∧ DOk w ⟨oa, l.length, c, l⟩ := by
  rcases h.cases with ⟨rfl, rfl⟩ | ⟨g, cap, rfl, hg, hl, h1, h2, hr, -⟩
  · exact ⟨none, 0, rfl, Rep.sl_nil, (fun _ => rfl), Nat.le_refl _, Nat.zero_le _, fun x hx => hb x hx⟩
  · exact ⟨some ⟨g, 0, none⟩, cap, rfl, ⟨rfl, by show l.length ≤ maxLen; omega, fun _ => ⟨g, 0, rfl, hr⟩⟩, (fun e => by cases e), h1, h2, fun x hx => hb x hx⟩
set_option maxRecDepth 100000 in
set_option maxHeartbeats 16000000 in
theorem flows2 (w : World) : Calls Try.prog 19 #[.int .i64 3, .int .i64 5, .slice none 0 0] w fun e w' => ∃ v, e = .returned v ∧ RB.Own w' w.heap.size v P2 ∧ Below w.heap.size w w' := by
  go_enter Try.func19, Try.ntmps19
  go_wp2_with fail
  refine (usual2 _).mono ?_
  rintro e W1 ⟨⟨a, c, rfl, hf⟩, hb1⟩
  obtain ⟨htm, hbt⟩ := tms1 hf
  have F1 := Lib.hid (And.intro (bcall hb1 (Nat.le_refl _) hbt) htm)
  clear hf hb1 htm hbt
  go_wp2_with fail
  generalize W1.alloc (.cells #[.int .i64 300, .slice a 2 c] 93) = W2 at *
  generalize W1.heap.size = q1 at *
  refine (putu_us F1.out.2).mono ?_
  rintro e W3 ⟨v3, rfl, ho3, hb3⟩
  obtain ⟨a2, c2, rfl, hd3⟩ : ∃ oa c, v3 = .slice oa 12 c ∧ DOk W3 ⟨oa, 12, c, usB⟩ := dok_own ho3 usB_by
  have hal := (Below.refl W3.heap.size W3).alloc (Nat.le_refl _) (.cells #[.int .i64 2, .slice a2 12 c2] 83)
  have hal2 := hal.alloc hal.size (.cells #[.int .i64 0, .int .i64 0, .int .i64 0, .slice none 0 0] 76)
  have hs4 : ((W3.alloc (.cells #[.int .i64 2, .slice a2 12 c2] 83)).alloc (.cells #[.int .i64 0, .int .i64 0, .int .i64 0, .slice none 0 0] 76)).heap[W3.heap.size]? = some (.cells #[.int .i64 2, .slice a2 12 c2] 83) := hold (hnew _ _)
  have hp4 : ((W3.alloc (.cells #[.int .i64 2, .slice a2 12 c2] 83)).alloc (.cells #[.int .i64 0, .int .i64 0, .int .i64 0, .slice none 0 0] 76)).heap[W3.heap.size + 1]? = some (.cells #[.int .i64 0, .int .i64 0, .int .i64 0, .slice none 0 0] 76) := hnewAt (by simp)
  have F3 := Lib.hid (And.intro (bcall (bcall F1.out.1 (Nat.le_refl _) hb3) (Nat.le_refl _) hal2) (And.intro (hd3.keep hal2) (And.intro hs4 (And.intro hp4 (show w.heap.size ≤ W3.heap.size from (bcall F1.out.1 (Nat.le_refl _) hb3).size)))))
  clear ho3 hb3 hd3 hal hal2 hs4 hp4
  go_wp2_with (with_reducible refine halt_store 76 rfl ?_)
  refine Halted.go ?_
  generalize (W3.alloc (.cells #[.int .i64 2, .slice a2 12 c2] 83)).alloc (.cells #[.int .i64 0, .int .i64 0, .int .i64 0, .slice none 0 0] 76) = W4 at *
  obtain ⟨qs, hqs⟩ : ∃ q, W3.heap.size = q := ⟨_, rfl⟩
  obtain ⟨q7, hq7⟩ : ∃ q, qs + 1 = q := ⟨_, rfl⟩
  rw [hqs] at F3
  rw [hq7] at F3
  try rw [hqs]
  try rw [hq7]
  have HQ := Lib.hid hq7
  clear hqs hq7
  refine store_whole rfl 76 _ _ rfl q7 #[.int .i64 0, .int .i64 5, .int .i64 3, .slice (some ⟨qs, 0, none⟩) 1 1] rfl rfl F3.out.2.2.2.1 rfl (by kernel_rfl) (by simp [Value.oneCell']) ?_
  intro W5 hz hsz
  have hbd : DOk W5 ⟨a2, 12, c2, usB⟩ := by
    have hd := F3.out.2.1
    refine ⟨⟨hd.sl.len, hd.sl.max, fun h0 => ?_⟩, hd.nil, hd.nc, hd.cm, hd.all⟩
    obtain ⟨b, o, e, hr⟩ := hd.sl.row h0
    have hne : b ≠ q7 := fun e2 => by
      have h1 := hr.get 0 (show 0 < usB.length by decide) 0 (by decide)
      have h2 := hr.get 3 (show 3 < usB.length by decide) 0 (by decide)
      have h3 := hr.get 1 (show 1 < usB.length by decide) 0 (by decide)
      rw [e2, cell_blk F3.out.2.2.2.1] at h1 h2 h3
      rcases o with _ | _ | _ | _ | o <;> simp [RB] at h1 h2 h3
    exact ⟨b, o, e, hr.keep (hsz.other hne)⟩
  have hst : W5.heap[qs]? = some (.cells #[.int .i64 2, .slice a2 12 c2] 83) := (hsz.other (by have := HQ.out; omega)).trans F3.out.2.2.1
  have hsts : SlOk RSt StOk W5 ⟨some ⟨qs, 0, none⟩, 1, 1, [((2 : Int), (⟨a2, 12, c2, usB⟩ : SlV Nat))]⟩ := ⟨Rep.sl_one (R := RSt) (y := ((2 : Int), (⟨a2, 12, c2, usB⟩ : SlV Nat))) hst, (fun e => by cases e), Nat.le_refl _, (show 1 ≤ maxLen by decide), fun x hx => by rw [List.mem_singleton] at hx; subst hx; exact ⟨⟨show (-9223372036854775808 : Int) ≤ 2 by decide, show (2 : Int) ≤ 9223372036854775807 by decide⟩, hbd⟩⟩
  have F5 := Lib.hid (And.intro (F3.out.1.trans (hsz.below (by have := HQ.out; have := F3.out.2.2.2.2; omega))) (And.intro hz (And.intro (show StsOk W5 ⟨some ⟨qs, 0, none⟩, 1, 1, [((2 : Int), (⟨a2, 12, c2, usB⟩ : SlV Nat))]⟩ from hsts) (show q7 < W5.heap.size from lt_of_blk hz))))
  clear hz hsz hbd hst hsts
  go_wp2_with fail
  go_loopw [8, 9] (fun ov iv wr => iv = .int .i64 0 ∧ ov = .slice none 0 0 ∧ wr = W5) (fun _ iv _ => 0)
  case atStart => exact ⟨rfl, rfl, rfl⟩
  case round =>
    obtain ⟨rfl, rfl, hwr⟩ := hrel
    have hwr := hwr.symm
    subst hwr
    have z0 := cell_of (o := 0) F5.out.2.1 rfl
    have z1 := cell_of (o := 1) F5.out.2.1 rfl
    have z2 := cell_of (o := 2) F5.out.2.1 rfl
    have z3 := cell_of (o := 3) F5.out.2.1 rfl
    go_wp2_with fail
    clear z0 z1 z2 z3
    refine (show Calls Try.prog 39 #[(pk2 (some ⟨qs, 0, none⟩) 1 a2 c2).v] W5 _ from rput_ok (pk2 (some ⟨qs, 0, none⟩) 1 a2 c2) W5 F5.out.2.2.1 (okP2 _ _ _ _) (by simp [pk2])).mono ?_
    rw [pkB2]
    rintro e W9 ⟨⟨v9, rfl, ho9⟩, hb9⟩
    have HZ := Lib.hid (And.intro (ho9.mono F5.out.1.size) (bcall F5.out.1 (Nat.le_refl _) hb9))
    clear ho9 hb9
    go_wp2_with fail
    go_ret
    exact ⟨_, rfl, HZ.out⟩
set_option maxRecDepth 100000 in
set_option maxHeartbeats 16000000 in
theorem flows1 {w : World} {oa : Option Addr} {cf : Nat} (h : RFl.Sl w oa 3 cf fs3) : Calls Try.prog 19 #[.int .i64 3, .int .i64 0, .slice oa 3 cf] w fun e w' => ∃ v, e = .returned v ∧ RB.Own w' w.heap.size v P1 ∧ Below w.heap.size w w' := by
  obtain ⟨fb, fo, rfl, hrw⟩ := h.row (by decide)
  have hfb := hrw.lt
  have d0 := hrw.get 0 (by decide)
  have d1 := hrw.get 1 (by decide)
  have d2 := hrw.get 2 (by decide)
  have HC := Lib.hid (show ∀ W, ExB w W → (W.cell? ⟨fb, fo + 1, none⟩ = some (.int .u32 167837701) ∧ W.cell? ⟨fb, fo + 2, none⟩ = some (.int .i64 70)) ∧ (W.cell? ⟨fb, fo + 3 + 1, none⟩ = some (.int .u32 167772165) ∧ W.cell? ⟨fb, fo + 3 + 2, none⟩ = some (.int .i64 8)) ∧ W.cell? ⟨fb, fo + 6 + 1, none⟩ = some (.int .u32 184549376) ∧ W.cell? ⟨fb, fo + 6 + 2, none⟩ = some (.int .i64 1) from fun W hW => by
    have k1 : W.heap[fb]? = w.heap[fb]? := Below.block hW _ hfb
    exact ⟨⟨(cell_same k1).trans (d0 1 (by decide)), (cell_same k1).trans (d0 2 (by decide))⟩, ⟨(cell_same k1).trans (d1 1 (by decide)), (cell_same k1).trans (d1 2 (by decide))⟩, (cell_same k1).trans (d2 1 (by decide)), (cell_same k1).trans (d2 2 (by decide))⟩)
  clear h hrw hfb d0 d1 d2
  go_enter Try.func19, Try.ntmps19
  go_wp2_with fail
  refine (usual2 _).mono ?_
  rintro e W1 ⟨⟨a, c, rfl, hf⟩, hb1⟩
  obtain ⟨htm, hbt⟩ := tms1 hf
  have F1 := Lib.hid (And.intro (bcall hb1 (Nat.le_refl _) hbt) htm)
  clear hf hb1 htm hbt
  go_wp2_with fail
  generalize W1.alloc (.cells #[.int .i64 300, .slice a 2 c] 93) = W2 at *
  generalize W1.heap.size = q1 at *
  refine (putu_us F1.out.2).mono ?_
  rintro e W3 ⟨v3, rfl, ho3, hb3⟩
  obtain ⟨a2, c2, rfl, hd3⟩ : ∃ oa c, v3 = .slice oa 12 c ∧ DOk W3 ⟨oa, 12, c, usB⟩ := dok_own ho3 usB_by
  have hal := (Below.refl W3.heap.size W3).alloc (Nat.le_refl _) (.cells #[.int .i64 2, .slice a2 12 c2] 83)
  have hal2 := hal.alloc hal.size (.cells #[.int .i64 0, .int .i64 0, .int .i64 0, .slice none 0 0] 76)
  have hs4 : ((W3.alloc (.cells #[.int .i64 2, .slice a2 12 c2] 83)).alloc (.cells #[.int .i64 0, .int .i64 0, .int .i64 0, .slice none 0 0] 76)).heap[W3.heap.size]? = some (.cells #[.int .i64 2, .slice a2 12 c2] 83) := hold (hnew _ _)
  have hp4 : ((W3.alloc (.cells #[.int .i64 2, .slice a2 12 c2] 83)).alloc (.cells #[.int .i64 0, .int .i64 0, .int .i64 0, .slice none 0 0] 76)).heap[W3.heap.size + 1]? = some (.cells #[.int .i64 0, .int .i64 0, .int .i64 0, .slice none 0 0] 76) := hnewAt (by simp)
  have F3 := Lib.hid (And.intro (bcall (bcall F1.out.1 (Nat.le_refl _) hb3) (Nat.le_refl _) hal2) (And.intro (hd3.keep hal2) (And.intro hs4 (And.intro hp4 (show w.heap.size ≤ W3.heap.size from (bcall F1.out.1 (Nat.le_refl _) hb3).size)))))
  clear ho3 hb3 hd3 hal hal2 hs4 hp4
  go_wp2_with (with_reducible refine halt_store 76 rfl ?_)
  refine Halted.go ?_
  generalize (W3.alloc (.cells #[.int .i64 2, .slice a2 12 c2] 83)).alloc (.cells #[.int .i64 0, .int .i64 0, .int .i64 0, .slice none 0 0] 76) = W4 at *
  obtain ⟨qs, hqs⟩ : ∃ q, W3.heap.size = q := ⟨_, rfl⟩
  obtain ⟨q7, hq7⟩ : ∃ q, qs + 1 = q := ⟨_, rfl⟩
  rw [hqs] at F3
  rw [hq7] at F3
  try rw [hqs]
  try rw [hq7]
  have HQ := Lib.hid hq7
  clear hqs hq7
  refine store_whole rfl 76 _ _ rfl q7 #[.int .i64 0, .int .i64 0, .int .i64 3, .slice (some ⟨qs, 0, none⟩) 1 1] rfl rfl F3.out.2.2.2.1 rfl (by kernel_rfl) (by simp [Value.oneCell']) ?_
  intro W5 hz hsz
  have hbd : DOk W5 ⟨a2, 12, c2, usB⟩ := by
    have hd := F3.out.2.1
    refine ⟨⟨hd.sl.len, hd.sl.max, fun h0 => ?_⟩, hd.nil, hd.nc, hd.cm, hd.all⟩
    obtain ⟨b, o, e, hr⟩ := hd.sl.row h0
    have hne : b ≠ q7 := fun e2 => by
      have h1 := hr.get 0 (show 0 < usB.length by decide) 0 (by decide)
      have h2 := hr.get 3 (show 3 < usB.length by decide) 0 (by decide)
      have h3 := hr.get 1 (show 1 < usB.length by decide) 0 (by decide)
      rw [e2, cell_blk F3.out.2.2.2.1] at h1 h2 h3
      rcases o with _ | _ | _ | _ | o <;> simp [RB] at h1 h2 h3
    exact ⟨b, o, e, hr.keep (hsz.other hne)⟩
  have hst : W5.heap[qs]? = some (.cells #[.int .i64 2, .slice a2 12 c2] 83) := (hsz.other (by have := HQ.out; omega)).trans F3.out.2.2.1
  have hsts : SlOk RSt StOk W5 ⟨some ⟨qs, 0, none⟩, 1, 1, [((2 : Int), (⟨a2, 12, c2, usB⟩ : SlV Nat))]⟩ := ⟨Rep.sl_one (R := RSt) (y := ((2 : Int), (⟨a2, 12, c2, usB⟩ : SlV Nat))) hst, (fun e => by cases e), Nat.le_refl _, (show 1 ≤ maxLen by decide), fun x hx => by rw [List.mem_singleton] at hx; subst hx; exact ⟨⟨show (-9223372036854775808 : Int) ≤ 2 by decide, show (2 : Int) ≤ 9223372036854775807 by decide⟩, hbd⟩⟩
  have F5 := Lib.hid (And.intro (F3.out.1.trans (hsz.below (by have := HQ.out; have := F3.out.2.2.2.2; omega))) (And.intro hz (And.intro (show StsOk W5 ⟨some ⟨qs, 0, none⟩, 1, 1, [((2 : Int), (⟨a2, 12, c2, usB⟩ : SlV Nat))]⟩ from hsts) (show q7 < W5.heap.size from lt_of_blk hz))))
  clear hz hsz hbd hst hsts
  go_wp2_with fail
  go_loopw [8, 9] (fun ov iv wr => ∃ j : Nat, j ≤ 3 ∧ iv = .int .i64 j ∧ RB.Own wr W5.heap.size ov (dB.take (8 * j)) ∧ Below W5.heap.size W5 wr) (fun _ iv _ => 3 - (intOf iv).toNat)
  case atStart => exact ⟨0, by decide, rfl, Rep.Own.nil _ _, Below.refl _ _⟩
  case round =>
    obtain ⟨j, hj, rfl, hown, hb⟩ := hrel
    obtain ⟨w2, rfl⟩ : ∃ w2 : World, w2 = wr := ⟨_, rfl⟩
    have hjc : j = 0 ∨ j = 1 ∨ j = 2 ∨ j = 3 := by omega
    clear hj
    rcases hjc with rfl | rfl | rfl | rfl
    · have G := Lib.hid (And.intro hown (And.intro hb (bcall F5.out.1 (Nat.le_refl _) hb)))
      obtain ⟨oe, ce, rfl, -, -⟩ := hown.sl0
      clear hown hb
      go_wp2_with fail
      refine wp_region_heldP (ExB w) (by kernel_rfl) ?_
      have hdr := (Below.refl w2.heap.size w2).drew
      have GX := Lib.hid (And.intro (bcall G.out.2.1 (Nat.le_refl _) hdr) (bcall G.out.2.2 (Nat.le_refl _) hdr))
      have GO := Lib.hid (G.out.1.below hdr)
      clear hdr
      generalize w2.drew = V at *
      refine held_reads [0, 1, 2, 3, 4, 5, 6, 7, 8, 9] (g := 2) rfl (by kernel_rfl) GX.out.2 (fun _ _ d _ _ h => by cases d <;> exact h) ?_
      simp only [pick, List.getD_cons_zero, List.getD_cons_succ]
      ((with_reducible refine wpRead_step (fun K hK => ?_)); go_simp; first | ((with_reducible refine hK _ ?_); clear hK K) | (apply Exists.intro; (with_reducible refine ⟨fun w' hw' => ?_, hK _ ?_⟩); ((obtain ⟨⟨f1, f2⟩, ⟨f3, f4⟩, f5, f6⟩ := HC.out w' hw'; go_simp; first | exact rfl | exact ⟨rfl, rfl⟩)); clear hK K))
      ((with_reducible refine wpRead_step (fun K hK => ?_)); go_simp; first | ((with_reducible refine hK _ ?_); clear hK K) | (apply Exists.intro; (with_reducible refine ⟨fun w' hw' => ?_, hK _ ?_⟩); ((obtain ⟨⟨f1, f2⟩, ⟨f3, f4⟩, f5, f6⟩ := HC.out w' hw'; go_simp; first | exact rfl | exact ⟨rfl, rfl⟩)); clear hK K))
      ((with_reducible refine wpRead_step (fun K hK => ?_)); go_simp; first | ((with_reducible refine hK _ ?_); clear hK K) | (apply Exists.intro; (with_reducible refine ⟨fun w' hw' => ?_, hK _ ?_⟩); ((obtain ⟨⟨f1, f2⟩, ⟨f3, f4⟩, f5, f6⟩ := HC.out w' hw'; go_simp; first | exact rfl | exact ⟨rfl, rfl⟩)); clear hK K))
      ((with_reducible refine wpRead_step (fun K hK => ?_)); go_simp; first | ((with_reducible refine hK _ ?_); clear hK K) | (apply Exists.intro; (with_reducible refine ⟨fun w' hw' => ?_, hK _ ?_⟩); ((obtain ⟨⟨f1, f2⟩, ⟨f3, f4⟩, f5, f6⟩ := HC.out w' hw'; go_simp; first | exact rfl | exact ⟨rfl, rfl⟩)); clear hK K))
      ((with_reducible refine wpRead_step (fun K hK => ?_)); go_simp; first | ((with_reducible refine hK _ ?_); clear hK K) | (apply Exists.intro; (with_reducible refine ⟨fun w' hw' => ?_, hK _ ?_⟩); ((obtain ⟨⟨f1, f2⟩, ⟨f3, f4⟩, f5, f6⟩ := HC.out w' hw'; go_simp; first | exact rfl | exact ⟨rfl, rfl⟩)); clear hK K))
      ((with_reducible refine wpRead_step (fun K hK => ?_)); go_simp; first | ((with_reducible refine hK _ ?_); clear hK K) | (apply Exists.intro; (with_reducible refine ⟨fun w' hw' => ?_, hK _ ?_⟩); ((obtain ⟨⟨f1, f2⟩, ⟨f3, f4⟩, f5, f6⟩ := HC.out w' hw'; go_simp; first | exact rfl | exact ⟨rfl, rfl⟩)); clear hK K))
      ((with_reducible refine wpRead_step (fun K hK => ?_)); go_simp; first | ((with_reducible refine hK _ ?_); clear hK K) | (apply Exists.intro; (with_reducible refine ⟨fun w' hw' => ?_, hK _ ?_⟩); ((obtain ⟨⟨f1, f2⟩, ⟨f3, f4⟩, f5, f6⟩ := HC.out w' hw'; go_simp; first | exact rfl | exact ⟨rfl, rfl⟩)); clear hK K))
      ((with_reducible refine wpRead_step (fun K hK => ?_)); go_simp; first | ((with_reducible refine hK _ ?_); clear hK K) | (apply Exists.intro; (with_reducible refine ⟨fun w' hw' => ?_, hK _ ?_⟩); ((obtain ⟨⟨f1, f2⟩, ⟨f3, f4⟩, f5, f6⟩ := HC.out w' hw'; go_simp; first | exact rfl | exact ⟨rfl, rfl⟩)); clear hK K))
      ((with_reducible refine wpRead_step (fun K hK => ?_)); go_simp; first | ((with_reducible refine hK _ ?_); clear hK K) | (apply Exists.intro; (with_reducible refine ⟨fun w' hw' => ?_, hK _ ?_⟩); ((obtain ⟨⟨f1, f2⟩, ⟨f3, f4⟩, f5, f6⟩ := HC.out w' hw'; go_simp; first | exact rfl | exact ⟨rfl, rfl⟩)); clear hK K))
      ((with_reducible refine wpRead_step (fun K hK => ?_)); go_simp; first | ((with_reducible refine hK _ ?_); clear hK K) | (apply Exists.intro; (with_reducible refine ⟨fun w' hw' => ?_, hK _ ?_⟩); ((obtain ⟨⟨f1, f2⟩, ⟨f3, f4⟩, f5, f6⟩ := HC.out w' hw'; go_simp; first | exact rfl | exact ⟨rfl, rfl⟩)); clear hK K))
      with_reducible refine wpRead_nil ?_
      refine held_one 10 (by kernel_rfl) ?_
      simp only [pick, List.getD_cons_zero, List.getD_cons_succ]
      go_wp2_with fail
      refine ⟨GX.out.2, ?_⟩
      refine held_one 11 (by kernel_rfl) ?_
      simp only [pick, List.getD_cons_zero, List.getD_cons_succ]
      go_wp2_with fail
      refine ⟨GX.out.2, ?_⟩
      refine wpAnyH_done (by kernel_rfl) ?_ _
      go_wp2_with (at_builtin; refine halt ?_)
      refine Halted.go ?_
      have hal := (Below.refl V.heap.size V).alloc (Nat.le_refl _) (.cells #[.int .u8 10, .int .u8 1, .int .u8 0, .int .u8 5, .int .u8 0, .int .u8 0, .int .u8 0, .int .u8 70] 5)
      have hone : RB.Sl (V.alloc (.cells #[.int .u8 10, .int .u8 1, .int .u8 0, .int .u8 5, .int .u8 0, .int .u8 0, .int .u8 0, .int .u8 70] 5)) (some ⟨V.heap.size, 0, none⟩) 8 8 [10, 1, 0, 5, 0, 0, 0, 70] := sl_flat (R := RB) (M := [10, 1, 0, 5, 0, 0, 0, 70]) (hnew _ _) (by decide)
      have hbw := bcall GX.out.1 (Nat.le_refl _) hal
      refine Rep.append_list T27 rfl _ _ rfl rfl (GO.out.below hal) (M := [10, 1, 0, 5, 0, 0, 0, 70]) rfl hone (fun e => by cases e) (by decide) (by decide) hbw.size ?_
      intro v9 V9 ho9 hb9 _
      have ho : RB.Own V9 W5.heap.size v9 (dB.take (8 * 1)) := ho9
      obtain ⟨o9, d9, rfl, -, -⟩ := ho.sl0
      have GZ := Lib.hid (And.intro ho (hbw.trans hb9))
      clear hal hone hbw ho9 ho hb9
      go_wp2_with fail
      exact ⟨⟨1, by decide, rfl, GZ.out⟩, by decide⟩
    · have G := Lib.hid (And.intro hown (And.intro hb (bcall F5.out.1 (Nat.le_refl _) hb)))
      obtain ⟨oe, ce, rfl, -, -⟩ := hown.sl0
      clear hown hb
      go_wp2_with fail
      refine wp_region_heldP (ExB w) (by kernel_rfl) ?_
      have hdr := (Below.refl w2.heap.size w2).drew
      have GX := Lib.hid (And.intro (bcall G.out.2.1 (Nat.le_refl _) hdr) (bcall G.out.2.2 (Nat.le_refl _) hdr))
      have GO := Lib.hid (G.out.1.below hdr)
      clear hdr
      generalize w2.drew = V at *
      refine held_reads [0, 1, 2, 3, 4, 5, 6, 7, 8, 9] (g := 2) rfl (by kernel_rfl) GX.out.2 (fun _ _ d _ _ h => by cases d <;> exact h) ?_
      simp only [pick, List.getD_cons_zero, List.getD_cons_succ]
      ((with_reducible refine wpRead_step (fun K hK => ?_)); go_simp; first | ((with_reducible refine hK _ ?_); clear hK K) | (apply Exists.intro; (with_reducible refine ⟨fun w' hw' => ?_, hK _ ?_⟩); ((obtain ⟨⟨f1, f2⟩, ⟨f3, f4⟩, f5, f6⟩ := HC.out w' hw'; go_simp; first | exact rfl | exact ⟨rfl, rfl⟩)); clear hK K))
      ((with_reducible refine wpRead_step (fun K hK => ?_)); go_simp; first | ((with_reducible refine hK _ ?_); clear hK K) | (apply Exists.intro; (with_reducible refine ⟨fun w' hw' => ?_, hK _ ?_⟩); ((obtain ⟨⟨f1, f2⟩, ⟨f3, f4⟩, f5, f6⟩ := HC.out w' hw'; go_simp; first | exact rfl | exact ⟨rfl, rfl⟩)); clear hK K))
      ((with_reducible refine wpRead_step (fun K hK => ?_)); go_simp; first | ((with_reducible refine hK _ ?_); clear hK K) | (apply Exists.intro; (with_reducible refine ⟨fun w' hw' => ?_, hK _ ?_⟩); ((obtain ⟨⟨f1, f2⟩, ⟨f3, f4⟩, f5, f6⟩ := HC.out w' hw'; go_simp; first | exact rfl | exact ⟨rfl, rfl⟩)); clear hK K))
      ((with_reducible refine wpRead_step (fun K hK => ?_)); go_simp; first | ((with_reducible refine hK _ ?_); clear hK K) | (apply Exists.intro; (with_reducible refine ⟨fun w' hw' => ?_, hK _ ?_⟩); ((obtain ⟨⟨f1, f2⟩, ⟨f3, f4⟩, f5, f6⟩ := HC.out w' hw'; go_simp; first | exact rfl | exact ⟨rfl, rfl⟩)); clear hK K))
      ((with_reducible refine wpRead_step (fun K hK => ?_)); go_simp; first | ((with_reducible refine hK _ ?_); clear hK K) | (apply Exists.intro; (with_reducible refine ⟨fun w' hw' => ?_, hK _ ?_⟩); ((obtain ⟨⟨f1, f2⟩, ⟨f3, f4⟩, f5, f6⟩ := HC.out w' hw'; go_simp; first | exact rfl | exact ⟨rfl, rfl⟩)); clear hK K))
      ((with_reducible refine wpRead_step (fun K hK => ?_)); go_simp; first | ((with_reducible refine hK _ ?_); clear hK K) | (apply Exists.intro; (with_reducible refine ⟨fun w' hw' => ?_, hK _ ?_⟩); ((obtain ⟨⟨f1, f2⟩, ⟨f3, f4⟩, f5, f6⟩ := HC.out w' hw'; go_simp; first | exact rfl | exact ⟨rfl, rfl⟩)); clear hK K))
      ((with_reducible refine wpRead_step (fun K hK => ?_)); go_simp; first | ((with_reducible refine hK _ ?_); clear hK K) | (apply Exists.intro; (with_reducible refine ⟨fun w' hw' => ?_, hK _ ?_⟩); ((obtain ⟨⟨f1, f2⟩, ⟨f3, f4⟩, f5, f6⟩ := HC.out w' hw'; go_simp; first | exact rfl | exact ⟨rfl, rfl⟩)); clear hK K))
      ((with_reducible refine wpRead_step (fun K hK => ?_)); go_simp; first | ((with_reducible refine hK _ ?_); clear hK K) | (apply Exists.intro; (with_reducible refine ⟨fun w' hw' => ?_, hK _ ?_⟩); ((obtain ⟨⟨f1, f2⟩, ⟨f3, f4⟩, f5, f6⟩ := HC.out w' hw'; go_simp; first | exact rfl | exact ⟨rfl, rfl⟩)); clear hK K))
      ((with_reducible refine wpRead_step (fun K hK => ?_)); go_simp; first | ((with_reducible refine hK _ ?_); clear hK K) | (apply Exists.intro; (with_reducible refine ⟨fun w' hw' => ?_, hK _ ?_⟩); ((obtain ⟨⟨f1, f2⟩, ⟨f3, f4⟩, f5, f6⟩ := HC.out w' hw'; go_simp; first | exact rfl | exact ⟨rfl, rfl⟩)); clear hK K))
      ((with_reducible refine wpRead_step (fun K hK => ?_)); go_simp; first | ((with_reducible refine hK _ ?_); clear hK K) | (apply Exists.intro; (with_reducible refine ⟨fun w' hw' => ?_, hK _ ?_⟩); ((obtain ⟨⟨f1, f2⟩, ⟨f3, f4⟩, f5, f6⟩ := HC.out w' hw'; go_simp; first | exact rfl | exact ⟨rfl, rfl⟩)); clear hK K))
      with_reducible refine wpRead_nil ?_
      refine held_one 10 (by kernel_rfl) ?_
      simp only [pick, List.getD_cons_zero, List.getD_cons_succ]
      go_wp2_with fail
      refine ⟨GX.out.2, ?_⟩
      refine held_one 11 (by kernel_rfl) ?_
      simp only [pick, List.getD_cons_zero, List.getD_cons_succ]
      go_wp2_with fail
      refine ⟨GX.out.2, ?_⟩
      refine wpAnyH_done (by kernel_rfl) ?_ _
      go_wp2_with (at_builtin; refine halt ?_)
      refine Halted.go ?_
      have hal := (Below.refl V.heap.size V).alloc (Nat.le_refl _) (.cells #[.int .u8 10, .int .u8 0, .int .u8 0, .int .u8 5, .int .u8 0, .int .u8 0, .int .u8 0, .int .u8 8] 5)
      have hone : RB.Sl (V.alloc (.cells #[.int .u8 10, .int .u8 0, .int .u8 0, .int .u8 5, .int .u8 0, .int .u8 0, .int .u8 0, .int .u8 8] 5)) (some ⟨V.heap.size, 0, none⟩) 8 8 [10, 0, 0, 5, 0, 0, 0, 8] := sl_flat (R := RB) (M := [10, 0, 0, 5, 0, 0, 0, 8]) (hnew _ _) (by decide)
      have hbw := bcall GX.out.1 (Nat.le_refl _) hal
      refine Rep.append_list T27 rfl _ _ rfl rfl (GO.out.below hal) (M := [10, 0, 0, 5, 0, 0, 0, 8]) rfl hone (fun e => by cases e) (by decide) (by decide) hbw.size ?_
      intro v9 V9 ho9 hb9 _
      have ho : RB.Own V9 W5.heap.size v9 (dB.take (8 * 2)) := ho9
      obtain ⟨o9, d9, rfl, -, -⟩ := ho.sl0
      have GZ := Lib.hid (And.intro ho (hbw.trans hb9))
      clear hal hone hbw ho9 ho hb9
      go_wp2_with fail
      exact ⟨⟨2, by decide, rfl, GZ.out⟩, by decide⟩
    · have G := Lib.hid (And.intro hown (And.intro hb (bcall F5.out.1 (Nat.le_refl _) hb)))
      obtain ⟨oe, ce, rfl, -, -⟩ := hown.sl0
      clear hown hb
      go_wp2_with fail
      refine wp_region_heldP (ExB w) (by kernel_rfl) ?_
      have hdr := (Below.refl w2.heap.size w2).drew
      have GX := Lib.hid (And.intro (bcall G.out.2.1 (Nat.le_refl _) hdr) (bcall G.out.2.2 (Nat.le_refl _) hdr))
      have GO := Lib.hid (G.out.1.below hdr)
      clear hdr
      generalize w2.drew = V at *
      refine held_reads [0, 1, 2, 3, 4, 5, 6, 7, 8, 9] (g := 2) rfl (by kernel_rfl) GX.out.2 (fun _ _ d _ _ h => by cases d <;> exact h) ?_
      simp only [pick, List.getD_cons_zero, List.getD_cons_succ]
      ((with_reducible refine wpRead_step (fun K hK => ?_)); go_simp; first | ((with_reducible refine hK _ ?_); clear hK K) | (apply Exists.intro; (with_reducible refine ⟨fun w' hw' => ?_, hK _ ?_⟩); ((obtain ⟨⟨f1, f2⟩, ⟨f3, f4⟩, f5, f6⟩ := HC.out w' hw'; go_simp; first | exact rfl | exact ⟨rfl, rfl⟩)); clear hK K))
      ((with_reducible refine wpRead_step (fun K hK => ?_)); go_simp; first | ((with_reducible refine hK _ ?_); clear hK K) | (apply Exists.intro; (with_reducible refine ⟨fun w' hw' => ?_, hK _ ?_⟩); ((obtain ⟨⟨f1, f2⟩, ⟨f3, f4⟩, f5, f6⟩ := HC.out w' hw'; go_simp; first | exact rfl | exact ⟨rfl, rfl⟩)); clear hK K))
      ((with_reducible refine wpRead_step (fun K hK => ?_)); go_simp; first | ((with_reducible refine hK _ ?_); clear hK K) | (apply Exists.intro; (with_reducible refine ⟨fun w' hw' => ?_, hK _ ?_⟩); ((obtain ⟨⟨f1, f2⟩, ⟨f3, f4⟩, f5, f6⟩ := HC.out w' hw'; go_simp; first | exact rfl | exact ⟨rfl, rfl⟩)); clear hK K))
      ((with_reducible refine wpRead_step (fun K hK => ?_)); go_simp; first | ((with_reducible refine hK _ ?_); clear hK K) | (apply Exists.intro; (with_reducible refine ⟨fun w' hw' => ?_, hK _ ?_⟩); ((obtain ⟨⟨f1, f2⟩, ⟨f3, f4⟩, f5, f6⟩ := HC.out w' hw'; go_simp; first | exact rfl | exact ⟨rfl, rfl⟩)); clear hK K))
      ((with_reducible refine wpRead_step (fun K hK => ?_)); go_simp; first | ((with_reducible refine hK _ ?_); clear hK K) | (apply Exists.intro; (with_reducible refine ⟨fun w' hw' => ?_, hK _ ?_⟩); ((obtain ⟨⟨f1, f2⟩, ⟨f3, f4⟩, f5, f6⟩ := HC.out w' hw'; go_simp; first | exact rfl | exact ⟨rfl, rfl⟩)); clear hK K))
      ((with_reducible refine wpRead_step (fun K hK => ?_)); go_simp; first | ((with_reducible refine hK _ ?_); clear hK K) | (apply Exists.intro; (with_reducible refine ⟨fun w' hw' => ?_, hK _ ?_⟩); ((obtain ⟨⟨f1, f2⟩, ⟨f3, f4⟩, f5, f6⟩ := HC.out w' hw'; go_simp; first | exact rfl | exact ⟨rfl, rfl⟩)); clear hK K))
      ((with_reducible refine wpRead_step (fun K hK => ?_)); go_simp; first | ((with_reducible refine hK _ ?_); clear hK K) | (apply Exists.intro; (with_reducible refine ⟨fun w' hw' => ?_, hK _ ?_⟩); ((obtain ⟨⟨f1, f2⟩, ⟨f3, f4⟩, f5, f6⟩ := HC.out w' hw'; go_simp; first | exact rfl | exact ⟨rfl, rfl⟩)); clear hK K))
      ((with_reducible refine wpRead_step (fun K hK => ?_)); go_simp; first | ((with_reducible refine hK _ ?_); clear hK K) | (apply Exists.intro; (with_reducible refine ⟨fun w' hw' => ?_, hK _ ?_⟩); ((obtain ⟨⟨f1, f2⟩, ⟨f3, f4⟩, f5, f6⟩ := HC.out w' hw'; go_simp; first | exact rfl | exact ⟨rfl, rfl⟩)); clear hK K))
      ((with_reducible refine wpRead_step (fun K hK => ?_)); go_simp; first | ((with_reducible refine hK _ ?_); clear hK K) | (apply Exists.intro; (with_reducible refine ⟨fun w' hw' => ?_, hK _ ?_⟩); ((obtain ⟨⟨f1, f2⟩, ⟨f3, f4⟩, f5, f6⟩ := HC.out w' hw'; go_simp; first | exact rfl | exact ⟨rfl, rfl⟩)); clear hK K))
      ((with_reducible refine wpRead_step (fun K hK => ?_)); go_simp; first | ((with_reducible refine hK _ ?_); clear hK K) | (apply Exists.intro; (with_reducible refine ⟨fun w' hw' => ?_, hK _ ?_⟩); ((obtain ⟨⟨f1, f2⟩, ⟨f3, f4⟩, f5, f6⟩ := HC.out w' hw'; go_simp; first | exact rfl | exact ⟨rfl, rfl⟩)); clear hK K))
      with_reducible refine wpRead_nil ?_
      refine held_one 10 (by kernel_rfl) ?_
      simp only [pick, List.getD_cons_zero, List.getD_cons_succ]
      go_wp2_with fail
      refine ⟨GX.out.2, ?_⟩
      refine held_one 11 (by kernel_rfl) ?_
      simp only [pick, List.getD_cons_zero, List.getD_cons_succ]
      go_wp2_with fail
      refine ⟨GX.out.2, ?_⟩
      refine wpAnyH_done (by kernel_rfl) ?_ _
      go_wp2_with (at_builtin; refine halt ?_)
      refine Halted.go ?_
      have hal := (Below.refl V.heap.size V).alloc (Nat.le_refl _) (.cells #[.int .u8 11, .int .u8 0, .int .u8 0, .int .u8 0, .int .u8 0, .int .u8 0, .int .u8 0, .int .u8 1] 5)
      have hone : RB.Sl (V.alloc (.cells #[.int .u8 11, .int .u8 0, .int .u8 0, .int .u8 0, .int .u8 0, .int .u8 0, .int .u8 0, .int .u8 1] 5)) (some ⟨V.heap.size, 0, none⟩) 8 8 [11, 0, 0, 0, 0, 0, 0, 1] := sl_flat (R := RB) (M := [11, 0, 0, 0, 0, 0, 0, 1]) (hnew _ _) (by decide)
      have hbw := bcall GX.out.1 (Nat.le_refl _) hal
      refine Rep.append_list T27 rfl _ _ rfl rfl (GO.out.below hal) (M := [11, 0, 0, 0, 0, 0, 0, 1]) rfl hone (fun e => by cases e) (by decide) (by decide) hbw.size ?_
      intro v9 V9 ho9 hb9 _
      have ho : RB.Own V9 W5.heap.size v9 (dB.take (8 * 3)) := ho9
      obtain ⟨o9, d9, rfl, -, -⟩ := ho.sl0
      have GZ := Lib.hid (And.intro ho (hbw.trans hb9))
      clear hal hone hbw ho9 ho hb9
      go_wp2_with fail
      exact ⟨⟨3, by decide, rfl, GZ.out⟩, by decide⟩
    · have ho : RB.Own w2 W5.heap.size _ dB := hown
      obtain ⟨a9, c9, rfl, hd9⟩ := dok_own ho dB_by
      rw [show dB.length = 24 from rfl] at hd9 ⊢
      have hk := hb
      have hq := (hb.block _ (lt_of_blk F5.out.2.1)).trans F5.out.2.1
      have hsl : SlOk RSt StOk W5 ⟨some ⟨qs, 0, none⟩, 1, 1, [((2 : Int), (⟨a2, 12, c2, usB⟩ : SlV Nat))]⟩ := F5.out.2.2.1
      have hd2 : DOk W5 ⟨a2, 12, c2, usB⟩ := (hsl.all _ List.mem_cons_self).2
      have z3 : w2.cell? ⟨q7, 3, none⟩ = some (.slice (some ⟨qs, 0, none⟩) 1 1) := cell_of hq rfl
      have hal := (Below.refl w2.heap.size w2).alloc (Nat.le_refl _) (.cells #[.int .i64 300, .slice a9 24 c9] 83)
      have hbw := bcall hb (Nat.le_refl _) hal
      have z4 : (w2.alloc (.cells #[.int .i64 300, .slice a9 24 c9] 83)).cell? ⟨q7, 3, none⟩ = some (.slice (some ⟨qs, 0, none⟩) 1 1) := cell_of ((hal.block _ (lt_of_blk hq)).trans hq) rfl
      have hone : RSt.Sl (w2.alloc (.cells #[.int .i64 300, .slice a9 24 c9] 83)) (some ⟨w2.heap.size, 0, none⟩) 1 1 [((300 : Int), (⟨a9, 24, c9, dB⟩ : SlV Nat))] := Rep.sl_one (R := RSt) (y := ((300 : Int), (⟨a9, 24, c9, dB⟩ : SlV Nat))) (hnew _ _)
      have G := Lib.hid (And.intro (bcall F5.out.1 (Nat.le_refl _) hbw) (And.intro ((hal.block _ (lt_of_blk hq)).trans hq) (And.intro (hsl.sl.keep hbw) (And.intro hone (And.intro (hd2.keep hbw) (hd9.keep hal))))))
      clear ho hd9 hk hq hsl hd2 hal hbw hone hown hb
      go_wp2_with (at_builtin; refine halt ?_)
      refine Halted.go ?_
      clear z3 z4
      generalize w2.alloc (.cells #[.int .i64 300, .slice a9 24 c9] 83) = V1 at *
      generalize w2.heap.size = q9 at *
      refine Rep.append_cut T22 rfl _ _ rfl rfl G.out.2.2.1 rfl G.out.2.2.2.1 (by decide) (by decide) (by decide) ?_
      intro v10 V10 ho10 hb10
      have ho10 : RSt.Own V10 V1.heap.size v10 [((2 : Int), (⟨a2, 12, c2, usB⟩ : SlV Nat)), ((300 : Int), (⟨a9, 24, c9, dB⟩ : SlV Nat))] := ho10
      have hq := (hb10.block _ (lt_of_blk G.out.2.1)).trans G.out.2.1
      obtain ⟨g, cap, rfl, hgg, hc1, hc2⟩ : ∃ g cap, v10 = .slice (some ⟨g, 0, none⟩) 2 cap ∧ V1.heap.size ≤ g ∧ 2 ≤ cap ∧ cap ≤ maxLen := by
        rcases ho10.cases with ⟨-, h⟩ | ⟨g, cap, h1, h2, h3, h4, h5, -⟩
        · cases h
        · exact ⟨g, cap, h1, h2, h4, h5⟩
      have f7 := free_of (o := 3) hq
      have e7 := cell_of (o := 3) hq rfl
      have hset := (SetB.self hq).store (o := 3) (lt_of_blk hq) (.slice (some ⟨g, 0, none⟩) 2 cap)
      have hz := setCell_blk hq 3 (.slice (some ⟨g, 0, none⟩) 2 cap)
      have hq7v : q7 < V1.heap.size := lt_of_blk G.out.2.1
      have hq7g : q7 < g := Nat.lt_of_lt_of_le (lt_of_blk G.out.2.1) hgg
      have hdk : ∀ {a : Option Addr} {n c : Nat} {l : List Nat}, DOk V10 ⟨a, n, c, l⟩ → DOk (V10.setCell ⟨q7, 3, none⟩ (.slice (some ⟨g, 0, none⟩) 2 cap)) ⟨a, n, c, l⟩ := fun {a n c l} hd => by
        have hd : SlOk RB (fun _ b => b < 256) V10 ⟨a, n, c, l⟩ := hd
        refine ⟨⟨hd.sl.len, hd.sl.max, fun h0 => ?_⟩, hd.nil, hd.nc, hd.cm, hd.all⟩
        obtain ⟨b, o, e, hr⟩ := hd.sl.row h0
        have hne : b ≠ q7 := fun e2 => by
          have h1 := hr.get 0 (Nat.lt_of_lt_of_eq (show 0 < n from h0) (show n = l.length from hd.sl.len)) 0 (by decide)
          rw [e2, cell_blk hq] at h1
          rcases o with _ | _ | _ | _ | o <;> simp [RB] at h1
        exact ⟨b, o, e, hr.keep (hset.other hne)⟩
      have hsl2 : RSt.Sl (V10.setCell ⟨q7, 3, none⟩ (.slice (some ⟨g, 0, none⟩) 2 cap)) (some ⟨g, 0, none⟩) 2 cap [((2 : Int), (⟨a2, 12, c2, usB⟩ : SlV Nat)), ((300 : Int), (⟨a9, 24, c9, dB⟩ : SlV Nat))] := by
        have ho11 := ho10.keep (w' := V10.setCell ⟨q7, 3, none⟩ (.slice (some ⟨g, 0, none⟩) 2 cap)) (fun b hb => hset.other (fun e => by have := own_ge ho10 hb; omega))
        obtain ⟨oa, c, h1, -, -, h2, -⟩ := ho11.sl
        injection h1 with h3 h4 h5
        subst h3 h5
        exact h2
      have z0 : (V10.setCell ⟨q7, 3, none⟩ (.slice (some ⟨g, 0, none⟩) 2 cap)).cell? ⟨q7, 0, none⟩ = some (.int .i64 0) := cell_of hz rfl
      have z1 : (V10.setCell ⟨q7, 3, none⟩ (.slice (some ⟨g, 0, none⟩) 2 cap)).cell? ⟨q7, 1, none⟩ = some (.int .i64 0) := cell_of hz rfl
      have z2 : (V10.setCell ⟨q7, 3, none⟩ (.slice (some ⟨g, 0, none⟩) 2 cap)).cell? ⟨q7, 2, none⟩ = some (.int .i64 3) := cell_of hz rfl
      have z3 : (V10.setCell ⟨q7, 3, none⟩ (.slice (some ⟨g, 0, none⟩) 2 cap)).cell? ⟨q7, 3, none⟩ = some (.slice (some ⟨g, 0, none⟩) 2 cap) := cell_of hz rfl
      have hsts : SlOk RSt StOk (V10.setCell ⟨q7, 3, none⟩ (.slice (some ⟨g, 0, none⟩) 2 cap)) (pk1 (some ⟨g, 0, none⟩) cap a2 c2 a9 c9).ss := ⟨hsl2, (fun e => by cases e), hc1, hc2, fun x hx => by
        rcases List.mem_cons.1 hx with rfl | hx
        · exact ⟨⟨show (-9223372036854775808 : Int) ≤ 2 by decide, show (2 : Int) ≤ 9223372036854775807 by decide⟩, hdk (G.out.2.2.2.2.1.keep hb10)⟩
        · rw [List.mem_singleton] at hx
          subst hx
          exact ⟨⟨show (-9223372036854775808 : Int) ≤ 300 by decide, show (300 : Int) ≤ 9223372036854775807 by decide⟩, hdk (G.out.2.2.2.2.2.keep hb10)⟩⟩
      have hqw : w.heap.size ≤ q7 := by have := HQ.out; have := F3.out.2.2.2.2; omega
      have H := Lib.hid (And.intro ((bcall G.out.1 (Nat.le_refl _) hb10).trans (hset.below hqw)) (show StsOk (V10.setCell ⟨q7, 3, none⟩ (.slice (some ⟨g, 0, none⟩) 2 cap)) (pk1 (some ⟨g, 0, none⟩) cap a2 c2 a9 c9).ss from hsts))
      clear ho10 hb10 hq hset hz hq7g hq7v hdk hsl2 hsts hgg hc1 hc2 hqw
      go_wp2_with fail
      clear z0 z1 z2 z3 f7 e7
      generalize V10.setCell ⟨q7, 3, none⟩ (.slice (some ⟨g, 0, none⟩) 2 cap) = V11 at *
      refine (show Calls Try.prog 39 #[(pk1 (some ⟨g, 0, none⟩) cap a2 c2 a9 c9).v] V11 _ from rput_ok (pk1 (some ⟨g, 0, none⟩) cap a2 c2 a9 c9) V11 H.out.2 (okP1 _ _ _ _ _ _) (by simp [pk1])).mono ?_
      rw [pkB1]
      rintro e W9 ⟨⟨v9, rfl, ho9⟩, hb9⟩
      have HZ := Lib.hid (And.intro (ho9.mono H.out.1.size) (bcall H.out.1 (Nat.le_refl _) hb9))
      clear ho9 hb9
      go_wp2_with fail
      go_ret
      exact ⟨_, rfl, HZ.out⟩
end Go.Proofs.Ytcbpdjenncbbeaa.Ip
/- SameFlows; facts for lives. -/
namespace Go.Proofs.Ytcbpdjenncbbeaa.Ip
open Go.RowKit

set_option maxRecDepth 100000 in
theorem fsame_any {w : World} {oa ob : Option Addr} {n ca cb : Nat} {l : List Fl} (h1 : RFl.Sl w oa n ca l) (h2 : RFl.Sl w ob n cb l) : Calls Try.prog 20 #[.slice oa n ca, .slice ob n cb] w fun e w' => e = .returned (.bool true) ∧ Below w.heap.size w w' := by
  have hmax := h1.max
  have F := Lib.hid (And.intro h1 h2)
  clear h1 h2
  go_enter Try.func20, Try.ntmps20
  go_wp2_with fail
  go_loopw [5] (fun iv wr => ∃ i : Nat, i ≤ n ∧ iv = .int .i64 i ∧ Below w.heap.size w wr) (fun iv _ => n - (intOf iv).toNat)
  case atStart => exact ⟨0, Nat.zero_le _, rfl, Below.refl _ _⟩
  case round =>
    obtain ⟨i, hi, rfl, hb⟩ := hrel
    obtain ⟨w2, rfl⟩ : ∃ w2 : World, w2 = wr := ⟨_, rfl⟩
    by_cases hlt : i < n
    · have hil : ((i : Int) < (n : Int)) = True := by simp; omega
      have hi0 : ((0 : Int) ≤ (i : Int)) = True := by simp
      have hw3 := wrapS hlt hmax
      obtain ⟨b0, o0, rfl, hbb, hat⟩ := (F.out.1.keep hb).at hlt
      obtain ⟨b1, o1, rfl, hbb1, hat1⟩ := (F.out.2.keep hb).at hlt
      generalize l.getD i default = x at *
      have c0 := hat 0 (by decide)
      have c1 := hat 1 (by decide)
      have c2 := hat 2 (by decide)
      have d0 := hat1 0 (by decide)
      have d1 := hat1 1 (by decide)
      have d2 := hat1 2 (by decide)
      simp only [RFl, Nat.add_zero, List.getElem?_cons_zero, List.getElem?_cons_succ] at c0 c1 c2 d0 d1 d2
      have HB := Lib.hid hb.drew
      clear hb hat hat1 hbb hbb1
      go_wp2_with fail
      refine wp_region_quiet_tail (fun w' => w' = w2.drew) 8 (by kernel_rfl) (by kernel_rfl) rfl ?_
      simp only [List.take_succ_cons, List.take_zero, List.drop_succ_cons, List.drop_zero]
      iterate 8 ((with_reducible refine wpQuiet_step (fun K hK => ?_)); go_simp; first | (rw [if_neg (by decide)]; (with_reducible refine hK _ ?_); clear hK K) | ((with_reducible refine hK _ ?_); clear hK K) | (apply Exists.intro; (with_reducible refine ⟨fun w' hw' => ?_, hK _ ?_⟩); (subst hw'; first | (go_simp; first | exact rfl | exact ⟨rfl, rfl⟩) | exact rfl | exact ⟨rfl, rfl⟩); clear hK K))
      refine wpQuiet_nil ?_
      rintro _ rfl
      go_wp2_with fail
      exact ⟨⟨i + 1, hlt, by first | rw [hw3] | rw [Int.natCast_succ], HB.out⟩, by first | (rw [hw3]; exact mSucc hlt) | (rw [← Int.natCast_succ]; exact mSucc hlt)⟩
    · obtain rfl : n = i := by omega
      have hil : ((n : Int) < (n : Int)) = False := by simp
      have HB := Lib.hid hb
      clear hb
      go_wp2_with fail
      go_ret
      exact ⟨rfl, HB.out⟩

theorem sl_butG {α : Type} [Inhabited α] {R : Rep α} {W W' : World} {bs : List Nat} {g n c : Nat} {L : List α} (h : R.Sl W (some ⟨g, 0, none⟩) n c L) (hb : But W W' bs) (hg : g ∉ bs) : R.Sl W' (some ⟨g, 0, none⟩) n c L := ⟨h.len, h.max, fun h0 => by
  obtain ⟨b, o, e, hr⟩ := h.row h0
  cases e
  exact ⟨g, 0, rfl, hr.keep (hb.block _ hr.lt hg)⟩⟩
theorem ColAt.keepBut {w w' : World} {cb kb nb : Nat} {es : List (MR.Ent TK)} {k1 : Nat} {ns : List (MR.Ent Int)} {k2 : Nat} {lost bad : Int} (h : ColAt w cb kb nb es k1 ns k2 lost bad) {bs : List Nat} (hb : But w w' bs) (h1 : cb ∉ bs) (h2 : kb ∉ bs) (h3 : nb ∉ bs) : ColAt w' cb kb nb es k1 ns k2 lost bad :=
  ⟨(hb.block _ (lt_of_blk h.col) h1).trans h.col, h.kn.blk_iff TN (hb.block _ (lt_of_blk h.kn.blk) h2), h.nx.blk_iff IN (hb.block _ (lt_of_blk h.nx.blk) h3), h.ne⟩
theorem tot_lts {w : World} {B x tb : Nat} {N : Nat → Nat → Option Nat} {G : List GE} {rest : Int} (h : TotAt w B x tb N G rest) : ∀ b ∈ bsG x G, B ≤ b ∧ b < w.heap.size := fun b hb => by
  rcases List.mem_cons.1 hb with rfl | hb
  · exact ⟨h.low.1, lt_of_blk h.tot⟩
  · obtain ⟨e, he, rfl⟩ := List.mem_map.1 hb
    exact ⟨h.low.2.2 e he, lt_of_blk (h.cnt e he)⟩
theorem tot_keepBut {w w' : World} {B x tb : Nat} {N : Nat → Nat → Option Nat} {G : List GE} {rest : Int} (h : TotAt w B x tb N G rest) {bs : List Nat} (hb : But w w' bs) (hbs : ∀ b ∈ bs, b < B) : TotAt w' B x tb N G rest := by
  have hx : ∀ k, B ≤ k → k < w.heap.size → w'.heap[k]? = w.heap[k]? := fun k h1 h2 => hb.block _ h2 (fun h3 => by have := hbs k h3; omega)
  refine ⟨(hx _ h.low.1 (lt_of_blk h.tot)).trans h.tot, h.tr.keep (fun k hk => hx k (h.low.2.1 k hk) ?_), fun e he => (hx _ (h.low.2.2 e he) (lt_of_blk (h.cnt e he))).trans (h.cnt e he), h.dis, h.low, h.sep⟩
  obtain ⟨M, hM, -⟩ := h.tr
  exact hM.lt hk
def PL2 : List PKi := [(167837696, 16), (167772160, 8)]
def PZ2 : List PKi := [(0, 0), (0, 0)]
theorem ovE1 : ovE PL2 = 0 := by decide
theorem ovE2 : ovE PZ2 = 20 := by decide
theorem ovL1 : ovL PL2 = [((167772160, 8), 0), ((167837696, 16), 0)] := by decide
theorem add1 : addAll ([((167772160, 8), 0), ((167837696, 16), 0)], 0) fs3 = ([((167772160, 8), 8), ((167837696, 16), 70)], 1) := by decide
theorem fl3 : flowsOf 3 dB 3 = fs3 := fl1
theorem getput1 (k1 : Nat) (v : Value) : MR.get? (MR.put ([] : List (MR.Ent TK)) ((3 : Int), (300 : Int)) v k1) ((3 : Int), (300 : Int)) = some v := by rw [MR.get?_put]; exact if_pos rfl
theorem getput2 (k1 : Nat) (v : Value) : MR.get? (MR.put ([] : List (MR.Ent Int)) (3 : Int) v k1) (3 : Int) = some v := by rw [MR.get?_put]; exact if_pos rfl
theorem lenput1 (k1 : Nat) (v : Value) : (MR.put ([] : List (MR.Ent TK)) ((3 : Int), (300 : Int)) v k1).length = 1 := by rfl
theorem lenput2 (k1 k2 : Nat) (v u : Value) : (MR.put (MR.put ([] : List (MR.Ent TK)) ((3 : Int), (300 : Int)) v k1) ((3 : Int), (300 : Int)) u k2).length = 1 := by rfl
theorem own_sl3 {α : Type} [Inhabited α] {R : Rep α} {w : World} {base : Nat} {v : Value} {L : List α} (h : R.Own w base v L) (h0 : 0 < L.length) : ∃ g c, v = .slice (some ⟨g, 0, none⟩) L.length c ∧ R.Sl w (some ⟨g, 0, none⟩) L.length c L ∧ base ≤ g := by
  rcases h.cases with ⟨rfl, rfl⟩ | ⟨g, cap, rfl, hg, hl, h1, h2, hr, -⟩
  · exact absurd h0 (Nat.lt_irrefl _)
  · exact ⟨g, cap, rfl, ⟨rfl, by omega, fun _ => ⟨g, 0, rfl, hr⟩⟩, hg⟩
theorem own_nil {w : World} {base : Nat} {v : Value} {L : List Nat} (h : RB.Own w base v L) : ∃ oa c, v = .slice oa L.length c ∧ RB.Sl w oa L.length c L ∧ (oa = none → c = 0) := by
  rcases h.cases with ⟨rfl, rfl⟩ | ⟨g, cap, rfl, hg, hl, h1, h2, hr, -⟩
  · exact ⟨none, 0, rfl, Rep.sl_nil, fun _ => rfl⟩
  · exact ⟨some ⟨g, 0, none⟩, cap, rfl, ⟨rfl, by omega, fun _ => ⟨g, 0, rfl, hr⟩⟩, fun e => by cases e⟩
theorem own_empty {α : Type} [Inhabited α] {R : Rep α} {w : World} {base : Nat} {v : Value} (h : R.Own w base v []) : ∃ oa c, v = .slice oa 0 c := by
  rcases h.cases with ⟨rfl, -⟩ | ⟨g, cap, rfl, -⟩
  · exact ⟨none, 0, rfl⟩
  · exact ⟨some ⟨g, 0, none⟩, cap, rfl⟩
theorem fsep {w : World} {B x tb : Nat} {N : Nat → Nat → Option Nat} {G : List GE} {rest : Int} (h : TotAt w B x tb N G rest) {g n c : Nat} {L : List Fl} (hs : RFl.Sl w (some ⟨g, 0, none⟩) n c L) (h0 : 0 < n) : g ∉ bsG x G := by
  obtain ⟨b, o, e, hr⟩ := hs.row h0
  cases e
  exact h.flow_sep (hr.get 0 (Nat.lt_of_lt_of_eq h0 hs.len))
end Go.Proofs.Ytcbpdjenncbbeaa.Ip
/- lives. -/
namespace Go.Proofs.Ytcbpdjenncbbeaa.Ip
open Go.RowKit

set_option maxRecDepth 100000 in
set_option maxHeartbeats 16000000 in
theorem lives32 (w : World) : Calls Try.prog 6 #[] w fun e w' => e = .returned (.bool true) ∧ Below w.heap.size w w' := by
  have hal := (Below.refl w.heap.size w).alloc (Nat.le_refl _) (.cells #[.int .i64 3, .int .u32 167837701, .int .i64 70, .int .i64 3, .int .u32 167772165, .int .i64 8, .int .i64 3, .int .u32 184549376, .int .i64 1] 44)
  have hl : RFl.Sl (w.alloc (.cells #[.int .i64 3, .int .u32 167837701, .int .i64 70, .int .i64 3, .int .u32 167772165, .int .i64 8, .int .i64 3, .int .u32 184549376, .int .i64 1] 44)) (some ⟨w.heap.size, 0, none⟩) 3 3 fs3 := sl_flat (R := RFl) (M := fs3) (hnew _ _) (by decide)
  have F0 := Lib.hid (And.intro hal hl)
  clear hal hl
  go_enter Try.func6, Try.ntmps6
  go_wp2_with fail
  generalize w.alloc (.cells #[.int .i64 3, .int .u32 167837701, .int .i64 70, .int .i64 3, .int .u32 167772165, .int .i64 8, .int .i64 3, .int .u32 184549376, .int .i64 1] 44) = W1 at *
  refine (cnew_any W1).mono ?_
  rintro e W2 ⟨⟨cb, kb, nb, rfl, hc, h1, h2, h3⟩, hb⟩
  have hO : w.heap.size < cb ∧ w.heap.size < kb ∧ w.heap.size < nb ∧ cb < W2.heap.size ∧ kb < W2.heap.size ∧ nb < W2.heap.size := by
    have h0 : w.heap.size < W1.heap.size := F0.out.2.row (by decide) |>.elim fun b h => by obtain ⟨o, e, hr⟩ := h; cases e; exact hr.lt
    exact ⟨by omega, by omega, by omega, lt_of_blk hc.col, lt_of_blk hc.kn.blk, lt_of_blk hc.nx.blk⟩
  have F1 := Lib.hid (And.intro (bcall F0.out.1 (Nat.le_refl _) hb) (And.intro (F0.out.2.keep hb) (hc)))
  clear F0
  clear hb hc h1 h2 h3
  have HO := Lib.hid hO
  clear hO
  go_wp2_with fail
  have hal := (Below.refl W2.heap.size W2).alloc (Nat.le_refl _) (.cells #[.int .u32 167837696, .int .i64 16, .int .u32 167772160, .int .i64 8] 46)
  have hl : RPk.Sl (W2.alloc (.cells #[.int .u32 167837696, .int .i64 16, .int .u32 167772160, .int .i64 8] 46)) (some ⟨W2.heap.size, 0, none⟩) 2 2 PL2 := sl_flat (R := RPk) (M := PL2) (hnew _ _) (by decide)
  have hle := hal.size
  have F2 := Lib.hid (And.intro (bcall F1.out.1 (Nat.le_refl _) hal) (And.intro (F1.out.2.1.keep hal) (And.intro (F1.out.2.2.keep hal) (And.intro hl (hle)))))
  clear F1
  clear hal hl hle
  generalize W2.alloc (.cells #[.int .u32 167837696, .int .i64 16, .int .u32 167772160, .int .i64 8] 46) = W3 at *
  refine (over_any F2.out.2.2.2.1 (fun p hp => by simp [PL2] at hp; rcases hp with rfl | rfl <;> decide) (by decide)).mono ?_
  rw [ovE1, ovL1]
  rintro e W4 ⟨(⟨h, -⟩ | ⟨-, x, tb, N, G, rfl, ht, hG⟩), hb⟩
  · exact absurd rfl h
  have F3 := Lib.hid (And.intro (bcall F2.out.1 (Nat.le_refl _) hb) (And.intro (F2.out.2.1.keep hb) (And.intro (F2.out.2.2.1.keep hb) (And.intro F2.out.2.2.2.2 (And.intro ht (hG))))))
  clear F2
  clear hb ht hG
  go_wp2_with fail
  have hal := (Below.refl W4.heap.size W4).alloc (Nat.le_refl _) (.cells #[.int .u32 0, .int .i64 0, .int .u32 0, .int .i64 0] 46)
  have hl : RPk.Sl (W4.alloc (.cells #[.int .u32 0, .int .i64 0, .int .u32 0, .int .i64 0] 46)) (some ⟨W4.heap.size, 0, none⟩) 2 2 PZ2 := sl_flat (R := RPk) (M := PZ2) (hnew _ _) (by decide)
  have F4 := Lib.hid (And.intro (bcall F3.out.1 (Nat.le_refl _) hal) (And.intro (F3.out.2.1.keep hal) (And.intro (F3.out.2.2.1.keep hal) (And.intro F3.out.2.2.2.1 (And.intro (F3.out.2.2.2.2.1.keep hal) (And.intro F3.out.2.2.2.2.2 (hl)))))))
  clear F3
  clear hal hl
  generalize W4.alloc (.cells #[.int .u32 0, .int .i64 0, .int .u32 0, .int .i64 0] 46) = W5 at *
  refine (over_any F4.out.2.2.2.2.2.2 (fun p hp => by simp [PZ2] at hp; rcases hp with rfl | rfl <;> decide) (by decide)).mono ?_
  rw [ovE2]
  rintro e W6 ⟨(⟨-, rfl⟩ | ⟨h, -⟩), hb⟩
  rotate_left
  · exact absurd h (by decide)
  have F5 := Lib.hid (And.intro (bcall F4.out.1 (Nat.le_refl _) hb) (And.intro (F4.out.2.1.keep hb) (And.intro (F4.out.2.2.1.keep hb) (And.intro F4.out.2.2.2.1 (And.intro (F4.out.2.2.2.2.1.keep hb) (F4.out.2.2.2.2.2.1))))))
  clear F4
  clear hb
  go_wp2_with fail
  refine (flows1 F5.out.2.1).mono ?_
  rintro e W7 ⟨v7, rfl, ho, hb⟩
  obtain ⟨oa7, c7, rfl, hs7, hn7⟩ := own_nil ho
  have F6 := Lib.hid (And.intro (bcall F5.out.1 (Nat.le_refl _) hb) (And.intro (F5.out.2.1.keep hb) (And.intro (F5.out.2.2.1.keep hb) (And.intro F5.out.2.2.2.1 (And.intro (F5.out.2.2.2.2.1.keep hb) (And.intro F5.out.2.2.2.2.2 (hs7)))))))
  clear F5
  have HN := Lib.hid hn7
  clear hb ho hs7 hn7
  go_wp2_with fail
  refine (take1 F6.out.2.2.1 (by decide) (x1 := 0) (x2 := none) (x3 := 0) (x4 := 0) rfl rfl rfl F6.out.2.2.2.2.2.2 HN.out).mono ?_
  rintro e W8 ⟨v8, fa8, fc8, rfl, ho, hc, hb⟩
  rw [fl3] at ho
  obtain ⟨g8, c8, rfl, hs8, hg8⟩ := own_sl3 ho (by decide)
  have hlen8 : fs3.length = 3 := rfl
  rw [hlen8] at hs8 ⊢
  clear hlen8
  have hlt : ∀ b ∈ [cb, kb, nb], b < W2.heap.size ∧ w.heap.size < b := fun b hb => by
    have ho := HO.out
    simp only [List.mem_cons, List.not_mem_nil, or_false] at hb
    rcases hb with rfl | rfl | rfl <;> omega
  have hBw := F6.out.2.2.2.1
  have hbb := Below.step F6.out.1 F6.out.1.size hb (fun b hb => Nat.le_of_lt (hlt b hb).2)
  have hll := sl_butG F6.out.2.1 hb (fun hm => by have := (hlt _ hm).2; omega)
  have htt := tot_keepBut F6.out.2.2.2.2.1 hb (fun b hb => Nat.lt_of_lt_of_le (hlt b hb).1 hBw)
  have hgm : g8 ∉ [cb, kb, nb] := fun hm => by have := (hlt _ hm).1; have h1 := F6.out.2.2.2.2.1.low.1; have h2 := lt_of_blk F6.out.2.2.2.2.1.tot; omega
  have F7 := Lib.hid (And.intro hbb (And.intro hll (And.intro hc (And.intro htt (And.intro F6.out.2.2.2.2.2.1 (And.intro hs8 ((And.intro hgm (And.intro hlt hBw)))))))))
  clear F6
  clear HN hb hc ho hs8 hg8 hbb hll htt hgm hlt hBw
  go_wp2_with fail
  refine (flows2 W8).mono ?_
  rintro e W9 ⟨v9, rfl, ho, hb⟩
  obtain ⟨oa9, c9, rfl, hs9, hn9⟩ := own_nil ho
  have F8 := Lib.hid (And.intro (bcall F7.out.1 (Nat.le_refl _) hb) (And.intro (F7.out.2.1.keep hb) (And.intro (F7.out.2.2.1.keep hb) (And.intro (F7.out.2.2.2.1.keep hb) (And.intro F7.out.2.2.2.2.1 (And.intro (F7.out.2.2.2.2.2.1.keep hb) (And.intro F7.out.2.2.2.2.2.2 (hs9))))))))
  clear F7
  have HN := Lib.hid hn9
  clear hb ho hs9 hn9
  go_wp2_with fail
  refine (take2 F8.out.2.2.1 (by rw [lenput1]; decide) (x1 := 300) (x2 := fa8) (x3 := 2) (x4 := fc8) (by rw [getput1]; rfl) (by rw [getput2]; rfl) (by rw [getput2]; rfl) F8.out.2.2.2.2.2.2.2 HN.out).mono ?_
  rintro e WA ⟨vA, faA, fcA, rfl, ho, hc0, hb⟩
  obtain ⟨es, j1, ns, j2, hc, hel⟩ : ∃ es j1 ns j2, ColAt WA cb kb nb es j1 ns j2 2 0 ∧ es.length = 1 := ⟨_, _, _, _, hc0, lenput2 _ _ _ _⟩
  clear hc0
  obtain ⟨oaA, cA, rfl⟩ := own_empty ho
  have hbb := Below.step F8.out.1 F8.out.1.size hb (fun b hb => Nat.le_of_lt (F8.out.2.2.2.2.2.2.1.2.1 b hb).2)
  have hll := sl_butG F8.out.2.1 hb (fun hm => by have := (F8.out.2.2.2.2.2.2.1.2.1 _ hm).2; omega)
  have htt := tot_keepBut F8.out.2.2.2.1 hb (fun b hb => Nat.lt_of_lt_of_le (F8.out.2.2.2.2.2.2.1.2.1 b hb).1 F8.out.2.2.2.2.2.2.1.2.2)
  have hmm := sl_butG F8.out.2.2.2.2.2.1 hb F8.out.2.2.2.2.2.2.1.1
  have F9 := Lib.hid (And.intro hbb (And.intro hll (And.intro hc (And.intro htt (And.intro F8.out.2.2.2.2.1 (And.intro hmm (F8.out.2.2.2.2.2.2.1)))))))
  clear F8
  have HL := Lib.hid hel
  clear HN hb hc ho hbb hll htt hmm hel
  go_wp2_with fail
  have hal := (Below.refl WA.heap.size WA).alloc (Nat.le_refl _) (.cells #[.int .u8 1] 5)
  have hl : RB.Sl (WA.alloc (.cells #[.int .u8 1] 5)) (some ⟨WA.heap.size, 0, none⟩) 1 1 [1] := sl_flat (R := RB) (M := [1]) (hnew _ _) (by decide)
  have F10 := Lib.hid (And.intro (bcall F9.out.1 (Nat.le_refl _) hal) (And.intro (F9.out.2.1.keep hal) (And.intro (F9.out.2.2.1.keep hal) (And.intro (F9.out.2.2.2.1.keep hal) (And.intro F9.out.2.2.2.2.1 (And.intro (F9.out.2.2.2.2.2.1.keep hal) (And.intro F9.out.2.2.2.2.2.2 (hl))))))))
  clear F9
  clear hal hl
  generalize WA.alloc (.cells #[.int .u8 1] 5) = WB at *
  refine (take_bad F10.out.2.2.1 F10.out.2.2.2.2.2.2.2 (fun e => by cases e)).mono ?_
  rintro e WC ⟨rfl, hb⟩
  have F11 := Lib.hid (And.intro (bcall F10.out.1 (Nat.le_refl _) hb) (And.intro (F10.out.2.1.keep hb) (And.intro (F10.out.2.2.1.keep hb) (And.intro (F10.out.2.2.2.1.keep hb) (And.intro F10.out.2.2.2.2.1 (And.intro (F10.out.2.2.2.2.2.1.keep hb) (F10.out.2.2.2.2.2.2.1)))))))
  clear F10
  clear hb
  go_wp2_with fail
  refine (adds_any F11.out.2.2.2.1 F11.out.2.2.2.2.2.1 (fun f hf => by simp [fs3] at hf; rcases hf with rfl | rfl | rfl <;> decide)).mono ?_
  rintro e WD ⟨rfl, G2, r2, ht, hbs, hadd, hb⟩
  rw [F11.out.2.2.2.2.1, add1] at hadd
  obtain ⟨hG2, rfl⟩ : G2.map gC = [((167772160, 8), 8), ((167837696, 16), 70)] ∧ r2 = 1 := by
    injection hadd with h1 h2
    exact ⟨h1.symm, h2.symm⟩
  have hlow : ∀ b ∈ bsG x G, W2.heap.size ≤ b := fun b hb => Nat.le_trans F11.out.2.2.2.2.2.2.2.2 (tot_lts F11.out.2.2.2.1 b hb).1
  have hw2 : w.heap.size ≤ W2.heap.size := by have := HO.out; omega
  have hbb := Below.step F11.out.1 F11.out.1.size hb (fun b hb => Nat.le_trans hw2 (hlow b hb))
  have hll := sl_butG F11.out.2.1 hb (fsep F11.out.2.2.2.1 F11.out.2.1 (by decide))
  have hmm := sl_butG F11.out.2.2.2.2.2.1 hb (fsep F11.out.2.2.2.1 F11.out.2.2.2.2.2.1 (by decide))
  have hcc := F11.out.2.2.1.keepBut hb (fun hm => by have := hlow _ hm; have := HO.out; omega) (fun hm => by have := hlow _ hm; have := HO.out; omega) (fun hm => by have := hlow _ hm; have := HO.out; omega)
  have F12 := Lib.hid (And.intro hbb (And.intro hll (And.intro hcc (And.intro ht (And.intro hG2 (hmm))))))
  clear F11
  clear hb hadd hG2 ht hbs hlow hw2 hbb hll hmm hcc
  go_wp2_with fail
  refine (report_any F12.out.2.2.2.1 (by have h1 := congrArg List.length F12.out.2.2.2.2.1; rw [List.length_map] at h1; rw [h1]; decide) 2 9).mono ?_
  rw [F12.out.2.2.2.2.1]
  rintro e WE ⟨⟨v, rfl, ho⟩, hb⟩
  obtain ⟨gE', cE, rfl, hsE, hgE⟩ := own_sl3 ho (by decide)
  have hl2 : ([((167772160, 8), 8), ((167837696, 16), 70)] : List KC).length = 2 := rfl
  rw [hl2] at hsE ⊢
  clear hl2 hgE
  have F13 := Lib.hid (And.intro (bcall F12.out.1 (Nat.le_refl _) hb) (And.intro (F12.out.2.1.keep hb) (And.intro (F12.out.2.2.1.keep hb) (And.intro (F12.out.2.2.2.1.keep hb) (And.intro F12.out.2.2.2.2.1 (And.intro (F12.out.2.2.2.2.2.keep hb) (hsE)))))))
  clear F12
  clear hb ho hsE
  go_wp2_with (with_reducible refine halt_store 35 rfl ?_)
  refine Halted.go ?_
  have hal := (Below.refl WE.heap.size WE).alloc (Nat.le_refl _) (.cells #[.int .i64 0, .int .i64 0, .slice none 0 0] 35)
  have hzz := hnew WE (.cells #[.int .i64 0, .int .i64 0, .slice none 0 0] 35)
  refine store_whole rfl 35 _ _ rfl WE.heap.size #[.int .i64 2, .int .i64 9, .slice (some ⟨gE', 0, none⟩) 2 cE] rfl rfl hzz rfl (by kernel_rfl) (by simp [Value.oneCell']) ?_
  intro WG hz hsz
  have hb := Below.trans hal (hsz.below (Nat.le_refl _))
  obtain ⟨q9, hq9⟩ : ∃ q, WE.heap.size = q := ⟨_, rfl⟩
  rw [hq9] at hz
  try rw [hq9]
  have F14 := Lib.hid (And.intro (bcall F13.out.1 (Nat.le_refl _) hb) (And.intro (F13.out.2.1.keep hb) (And.intro (F13.out.2.2.1.keep hb) (And.intro (F13.out.2.2.2.1.keep hb) (And.intro F13.out.2.2.2.2.1 (And.intro (F13.out.2.2.2.2.2.1.keep hb) (And.intro (F13.out.2.2.2.2.2.2.keep hb) (hz))))))))
  clear F13
  clear hb hal hzz hz hsz hq9
  go_wp2_with fail
  refine (fsame_any F14.out.2.1 F14.out.2.2.2.2.2.1).mono ?_
  rintro e WH ⟨rfl, hb⟩
  have F15 := Lib.hid (And.intro (bcall F14.out.1 (Nat.le_refl _) hb) (And.intro (F14.out.2.1.keep hb) (And.intro (F14.out.2.2.1.keep hb) (And.intro (F14.out.2.2.2.1.keep hb) (And.intro F14.out.2.2.2.2.1 (And.intro (F14.out.2.2.2.2.2.1.keep hb) (And.intro (F14.out.2.2.2.2.2.2.1.keep hb) (((hb.block _ (lt_of_blk F14.out.2.2.2.2.2.2.2)).trans F14.out.2.2.2.2.2.2.2)))))))))
  clear F14
  clear hb
  go_wp2_with fail
  refine (clost_any F15.out.2.2.1).mono ?_
  rintro e WI ⟨rfl, rfl⟩
  go_wp2_with fail
  refine (cbad_any F15.out.2.2.1).mono ?_
  rintro e WI ⟨rfl, rfl⟩
  go_wp2_with fail
  refine (cknown_any F15.out.2.2.1).mono ?_
  rw [HL.out]
  rintro e WI ⟨rfl, rfl⟩
  have y0 := cell_of (o := 0) F15.out.2.2.2.2.2.2.2 rfl
  have y1 := cell_of (o := 1) F15.out.2.2.2.2.2.2.2 rfl
  have y2 := cell_of (o := 2) F15.out.2.2.2.2.2.2.2 rfl
  go_wp2_with fail
  clear y0 y1 y2
  have hal := (Below.refl WI.heap.size WI).alloc (Nat.le_refl _) (.cells #[.int .u32 167772160, .int .i64 8, .int .i64 8, .int .u32 167837696, .int .i64 16, .int .i64 70] 48)
  have hl : RCt.Sl (WI.alloc (.cells #[.int .u32 167772160, .int .i64 8, .int .i64 8, .int .u32 167837696, .int .i64 16, .int .i64 70] 48)) (some ⟨WI.heap.size, 0, none⟩) 2 2 [((167772160, 8), 8), ((167837696, 16), 70)] := sl_flat (R := RCt) (M := [((167772160, 8), 8), ((167837696, 16), 70)]) (hnew _ _) (by decide)
  have F16 := Lib.hid (And.intro (bcall F15.out.1 (Nat.le_refl _) hal) (And.intro (F15.out.2.1.keep hal) (And.intro (F15.out.2.2.1.keep hal) (And.intro (F15.out.2.2.2.1.keep hal) (And.intro F15.out.2.2.2.2.1 (And.intro (F15.out.2.2.2.2.2.1.keep hal) (And.intro (F15.out.2.2.2.2.2.2.1.keep hal) (And.intro ((hal.block _ (lt_of_blk F15.out.2.2.2.2.2.2.2)).trans F15.out.2.2.2.2.2.2.2) (hl)))))))))
  clear F15
  clear hal hl
  generalize WI.alloc (.cells #[.int .u32 167772160, .int .i64 8, .int .i64 8, .int .u32 167837696, .int .i64 16, .int .i64 70] 48) = WJ at *
  refine (csame_any F16.out.2.2.2.2.2.2.1 F16.out.2.2.2.2.2.2.2.2).mono ?_
  rintro e WK ⟨rfl, hb⟩
  have F17 := Lib.hid (And.intro (bcall F16.out.1 (Nat.le_refl _) hb) (And.intro (F16.out.2.1.keep hb) (And.intro (F16.out.2.2.1.keep hb) (And.intro (F16.out.2.2.2.1.keep hb) (And.intro F16.out.2.2.2.2.1 (And.intro (F16.out.2.2.2.2.2.1.keep hb) (And.intro (F16.out.2.2.2.2.2.2.1.keep hb) (And.intro ((hb.block _ (lt_of_blk F16.out.2.2.2.2.2.2.2.1)).trans F16.out.2.2.2.2.2.2.2.1) ((F16.out.2.2.2.2.2.2.2.2.keep hb))))))))))
  clear F16
  clear hb
  go_wp2_with fail
  refine (rest_any F17.out.2.2.2.1).mono ?_
  rintro e WL ⟨rfl, rfl⟩
  go_wp2_with fail
  go_ret
  exact ⟨rfl, F17.out.1⟩
end Go.Proofs.Ytcbpdjenncbbeaa.Ip
