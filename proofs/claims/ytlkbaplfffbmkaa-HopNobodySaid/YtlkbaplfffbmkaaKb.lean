/- The reference's Sort of interfaces. -/
import Derived.Test.YtlkbaplfffbmkaaKa
import Derived.Test.YtlkbaplfffbmkaaAc
namespace Go.Proofs.Ytlkbaplfffbmkaa
open Go.RowKit

def insI (out : List If) (x : If) : List If := out.takeWhile (fun y => decide (y.id < x.id)) ++ x :: out.dropWhile (fun y => decide (y.id < x.id))
def sortI (l : List If) : List If := l.foldl insI []
theorem insI_length (out : List If) (x : If) : (insI out x).length = out.length + 1 := by
  have := congrArg List.length (List.takeWhile_append_dropWhile (p := fun y : If => decide (y.id < x.id)) (l := out))
  unfold insI
  rw [List.length_append] at this
  rw [List.length_append, List.length_cons]
  omega
theorem sortI_length (l : List If) : (sortI l).length = l.length := by
  have : ∀ (l out : List If), (l.foldl insI out).length = out.length + l.length := by
    intro l
    induction l with
    | nil => intro out; rfl
    | cons x r ih => intro out; rw [List.foldl_cons, ih, insI_length, List.length_cons]; omega
  have h := this l []
  rw [List.length_nil, Nat.zero_add] at h
  exact h
theorem sortI_succ {l : List If} {i : Nat} (hi : i < l.length) : sortI (l.take (i + 1)) = insI (sortI (l.take i)) (l.getD i default) := by
  unfold sortI
  rw [List.take_succ_eq_append_getElem hi, List.foldl_append]
  simp [List.getD_eq_getElem?_getD, hi]
theorem insI_mem {out : List If} {x y : If} : y ∈ insI out x ↔ y = x ∨ y ∈ out := by
  have : y ∈ out ↔ y ∈ out.takeWhile (fun y => decide (y.id < x.id)) ++ out.dropWhile (fun y => decide (y.id < x.id)) := by rw [List.takeWhile_append_dropWhile]
  rw [this]
  unfold insI
  simp only [List.mem_append, List.mem_cons]
  constructor
  · rintro (h | h | h)
    · exact .inr (.inl h)
    · exact .inl h
    · exact .inr (.inr h)
  · rintro (h | h | h)
    · exact .inr (.inl h)
    · exact .inl h
    · exact .inr (.inr h)
theorem sortI_mem {l : List If} {y : If} : y ∈ sortI l ↔ y ∈ l := by
  have : ∀ (l out : List If), y ∈ l.foldl insI out ↔ y ∈ out ∨ y ∈ l := by
    intro l
    induction l with
    | nil => intro out; simp
    | cons x r ih =>
      intro out
      rw [List.foldl_cons, ih, insI_mem, List.mem_cons]
      constructor
      · rintro ((h | h) | h)
        · exact .inr (.inl h)
        · exact .inl h
        · exact .inr (.inr h)
      · rintro (h | h | h)
        · exact .inl (.inr h)
        · exact .inl (.inl h)
        · exact .inr h
  have h := this l []
  unfold sortI
  simpa using h
theorem insI_cut {out : List If} {x : If} {k : Nat} (h1 : ∀ j, j < k → (out.getD j default).id < x.id) (h2 : k = out.length ∨ k < out.length ∧ ¬ (out.getD k default).id < x.id) : out.take k ++ [x] ++ out.drop k = insI out x := by
  induction out generalizing k with
  | nil =>
    obtain rfl : k = 0 := by
      rcases h2 with h | h
      · simpa using h
      · simp at h
    rfl
  | cons y r ih =>
    cases k with
    | zero =>
      have hy : ¬ y.id < x.id := by
        rcases h2 with h | h
        · simp at h
        · exact h.2
      unfold insI
      simp [hy]
    | succ k =>
      have hy : y.id < x.id := h1 0 (by omega)
      have := ih (k := k) (fun j hj => h1 (j + 1) (by omega)) (by
        rcases h2 with h | h
        · exact .inl (by simpa using h)
        · exact .inr ⟨by simpa using h.1, h.2⟩)
      unfold insI at *
      simp [hy] at this ⊢
      exact this
def IfAt (b o : Nat) (x : If) (w : World) : Prop := w.cell? ⟨b, o, none⟩ = some (.int .i64 x.id) ∧ w.cell? ⟨b, o + 1, none⟩ = some (.int .i64 x.r) ∧ w.cell? ⟨b, o + 2, none⟩ = some (.int .u32 (x.ad : Int)) ∧ w.cell? ⟨b, o + 3, none⟩ = some (.int .i64 x.ln) ∧ w.cell? ⟨b, o + 4, none⟩ = some (.int .i64 x.cp)
theorem T23 : Rep.Ty Try.prog 22 RIf 40 := Rep.Ty.mk' (z := .agg #[.int .i64 0, .int .i64 0, .int .u32 0, .int .i64 0, .int .i64 0]) Try.underlying22 (by kernel_rfl) rfl
set_option maxRecDepth 100000 in
set_option maxHeartbeats 2000000 in
theorem rsort_any {w : World} {oa : Option Addr} {n c : Nat} {l : List If} (h : Ifs w oa n c l) (hn : n ≤ 4294967296) : Calls Try.prog 20 #[.slice oa n c] w fun e w' => ∃ v, e = .returned v ∧ RIf.Own w' w.heap.size v (sortI l) ∧ Below w.heap.size w w' := by
  have HL := Lib.hid h.sl.len
  have F := Lib.hid h
  have hmax := h.sl.max
  clear h
  go_enter Try.func20, Try.ntmps20
  go_wp2_with fail
  go_loopw [3, 4] (fun ov iv wr => ∃ i : Nat, i ≤ n ∧ iv = .int .i64 i ∧ RIf.Own wr w.heap.size ov (sortI (l.take i)) ∧ Below w.heap.size w wr) (fun _ iv _ => n - (intOf iv).toNat)
  case atStart => exact ⟨0, Nat.zero_le _, rfl, Rep.Own.nil _ _, Below.refl _ _⟩
  case round =>
    obtain ⟨i, hi, rfl, hown, hb⟩ := hrel
    obtain ⟨w2, rfl⟩ : ∃ w2 : World, w2 = wr := ⟨_, rfl⟩
    by_cases hlt : i < n
    · have hil : ((i : Int) < (n : Int)) = True := by simp; omega
      have hw3 := wrapS hlt hmax
      have hlen : l.length = n := HL.out.symm
      have hsl : (sortI (l.take i)).length = i := by rw [sortI_length, List.length_take]; omega
      have t1 := sortI_succ (l := l) (i := i) (by omega)
      obtain ⟨x, hx⟩ : ∃ x, l.getD i default = x := ⟨_, rfl⟩
      obtain ⟨b0, o0, hoa⟩ : ∃ b0 o0, oa = some ⟨b0, o0, none⟩ := by obtain ⟨b0, o0, e, -⟩ := F.out.sl.at hlt; exact ⟨b0, o0, e⟩
      subst hoa
      have hxc : ∀ w', Below w.heap.size w w' → IfAt b0 (o0 + i * 5) x w' := fun w' hw' => by
        obtain ⟨b1, o1, e1, -, hat⟩ := (F.out.keep hw').sl.at hlt
        obtain ⟨rfl, rfl⟩ : b0 = b1 ∧ o0 = o1 := by simp only [Option.some.injEq, Addr.mk.injEq] at e1; exact ⟨e1.1, e1.2.1⟩
        rw [hx] at hat
        have c0 := hat 0 (by decide)
        have c1 := hat 1 (by decide)
        have c2 := hat 2 (by decide)
        have c3 := hat 3 (by decide)
        have c4 := hat 4 (by decide)
        simp only [RIf, Nat.add_zero, List.getElem?_cons_zero, List.getElem?_cons_succ] at c0 c1 c2 c3 c4
        exact ⟨c0, c1, c2, c3, c4⟩
      have HX := Lib.hid hxc
      rw [hx] at t1
      clear hxc hx
      generalize sortI (l.take i) = L at *
      rcases hown.cases with ⟨rfl, rfl⟩ | ⟨g, cap, hv, hg, hgl, h1, h2, hrow, hfr, hcur⟩
      · obtain rfl : i = 0 := by simpa using hsl.symm
        rw [show ((0 : Nat) : Int) = 0 from rfl]
        have hx0 := HX.out
        rw [Nat.zero_mul, Nat.add_zero] at hx0
        have HX := Lib.hid hx0
        clear hx0
        go_wp2_with fail
        go_loopw [5] (fun kv wr => kv = .int .i64 0 ∧ wr = w2) (fun _ _ => 0)
        case atStart => exact ⟨rfl, rfl⟩
        case round =>
          obtain ⟨rfl, rfl⟩ := hrel
          go_wp2_with fail
          refine wp_region_heldP (fun w' => w' = wr.drew) (by kernel_rfl) ?_
          refine held_reads [0, 1, 2, 3, 4, 5, 6, 7, 8, 9, 10, 11, 12, 13, 14, 15, 16] (g := 0) rfl (by kernel_rfl) rfl (fun _ _ d _ _ h => by cases d <;> exact h) ?_
          simp only [pick, List.getD_cons_zero, List.getD_cons_succ]
          iterate 17 ((with_reducible refine wpRead_step (fun K hK => ?_)); go_simp; first | (rw [if_neg (by decide)]; (with_reducible refine hK _ ?_); clear hK K) | ((with_reducible refine hK _ ?_); clear hK K) | (apply Exists.intro; (with_reducible refine ⟨fun w' hw' => ?_, hK _ ?_⟩); (subst hw'; go_simp; first | exact rfl | exact ⟨rfl, rfl⟩); clear hK K))
          with_reducible refine wpRead_nil ?_
          refine wpAnyH_done (by kernel_rfl) ?_ _
          go_wp2_with fail
          have HT := Lib.hid (And.intro (bcall hb (Nat.le_refl _) ((Below.refl wr.heap.size wr).alloc (Nat.le_refl _) (.cells #[] 34)).drew) (And.intro (Rep.sl_nil : RIf.Sl (wr.alloc (.cells #[] 34)).drew (some ⟨wr.heap.size, 0, none⟩) 0 0 ([] : List If)) (And.intro (show (some ⟨wr.heap.size, 0, none⟩ : Option Addr) = none → (0 : Nat) = 0 from fun _ => rfl) (Rep.sl_nil : RIf.Sl (wr.alloc (.cells #[] 34)).drew none 0 0 ([] : List If)))))
          clear hb hown
          generalize (wr.alloc (.cells #[] 34)).drew = Wt at *
          generalize wr.heap.size = q6 at *
          refine wp_region_heldP (Below w.heap.size w) (by kernel_rfl) ?_
          refine held_reads [0, 1, 2, 3, 4, 5, 6, 7, 10] (g := 4) rfl (by kernel_rfl) HT.out.1.drew (fun _ _ d _ _ h => by cases d <;> exact h) ?_
          simp only [pick, List.getD_cons_zero, List.getD_cons_succ]
          iterate 9 ((with_reducible refine wpRead_step (fun K hK => ?_)); go_simp; first | ((with_reducible refine hK _ ?_); clear hK K) | (apply Exists.intro; (with_reducible refine ⟨fun w' hw' => ?_, hK _ ?_⟩); (obtain ⟨f0, f1, f2, f3, f4⟩ := HX.out _ hw'; go_simp; first | exact rfl | exact ⟨rfl, rfl⟩); clear hK K))
          with_reducible refine wpRead_nil ?_
          have hd := (Below.refl Wt.heap.size Wt).drew
          have HT := Lib.hid (And.intro (bcall HT.out.1 (Nat.le_refl _) hd) (And.intro (HT.out.2.1.keep hd) (And.intro HT.out.2.2.1 (HT.out.2.2.2.keep hd))))
          clear hd
          generalize Wt.drew = W5 at *
          refine held_one 8 (by kernel_rfl) ?_
          simp only [pick, List.getD_cons_zero, List.getD_cons_succ]
          go_wp2_with fail
          have hal := (Below.refl W5.heap.size W5).alloc (Nat.le_refl _) (.cells #[.int .i64 x.id, .int .i64 x.r, .int .u32 (x.ad : Int), .int .i64 x.ln, .int .i64 x.cp] 34)
          have hone : RIf.Sl (W5.alloc (.cells #[.int .i64 x.id, .int .i64 x.r, .int .u32 (x.ad : Int), .int .i64 x.ln, .int .i64 x.cp] 34)) (some ⟨W5.heap.size, 0, none⟩) 1 1 [x] := Rep.sl_one (R := RIf) (y := x) (hnew _ _)
          have HT := Lib.hid (And.intro (bcall HT.out.1 (Nat.le_refl _) hal) (And.intro (HT.out.2.1.keep hal) (And.intro HT.out.2.2.1 (And.intro (HT.out.2.2.2.keep hal) hone))))
          clear hal hone
          generalize W5.alloc (.cells #[.int .i64 x.id, .int .i64 x.r, .int .u32 (x.ad : Int), .int .i64 x.ln, .int .i64 x.cp] 34) = W6 at *
          generalize W5.heap.size = q5 at *
          refine ⟨HT.out.1, ?_⟩
          refine held_one 9 (by kernel_rfl) ?_
          simp only [pick, List.getD_cons_zero, List.getD_cons_succ]
          go_wp2_with (at_builtin; refine halt ?_)
          refine Halted.go ?_
          refine Rep.append_cut T23 rfl _ _ rfl rfl HT.out.2.2.2.1 rfl HT.out.2.2.2.2 (by omega) (by unfold maxLen; omega) (by omega) ?_
          intro v7 W7 hown7 hb7
          have hbb := bcall HT.out.1 (Nat.le_refl _) hb7
          have HT := Lib.hid (And.intro hbb (And.intro (HT.out.2.1.keep hb7) (And.intro HT.out.2.2.1 (hown7.mono HT.out.1.size))))
          clear hbb hb7 hown7
          go_wp2_with fail
          refine ⟨HT.out.1, ?_⟩
          refine held_one 11 (by kernel_rfl) ?_
          simp only [pick, List.getD_cons_zero, List.getD_cons_succ]
          go_wp2_with (at_builtin; refine halt ?_)
          refine Halted.go ?_
          refine Rep.append_list T23 rfl _ _ rfl rfl HT.out.2.2.2 rfl HT.out.2.1 (fun _ => rfl) (by unfold maxLen; simp) (by simp) HT.out.1.size ?_
          intro v8 W8 hown8 hb8 _
          have hbb := HT.out.1.trans hb8
          rw [show ([] ++ [x] ++ [] : List If) = insI [] x from rfl, ← t1] at hown8
          have HT := Lib.hid (And.intro hbb hown8)
          clear hbb hb8 hown8
          go_wp2_with fail
          refine ⟨HT.out.1, ?_⟩
          refine held_one 12 (by kernel_rfl) ?_
          simp only [pick, List.getD_cons_zero, List.getD_cons_succ]
          go_wp2_with fail
          refine ⟨HT.out.1, ?_⟩
          refine wpAnyH_done (by kernel_rfl) ?_ _
          go_wp2_with fail
          exact ⟨⟨1, hlt, rfl, HT.out.2, HT.out.1⟩, by show n - 1 < n - 0; omega⟩
      · rw [hsl] at hv h1
        subst hv
        have HR := Lib.hid (And.intro hrow (And.intro hb hgl))
        clear hown hcur hfr hrow hb hgl hg
        go_wp2_with fail
        go_loopw [5] (fun kv wr => ∃ k : Nat, k ≤ i ∧ kv = .int .i64 k ∧ (∀ j, j < k → (L.getD j default).id < x.id) ∧ Below w2.heap.size w2 wr) (fun kv _ => i - (intOf kv).toNat)
        case atStart => exact ⟨0, Nat.zero_le _, rfl, fun j hj => by omega, Below.refl _ _⟩
        case round =>
          obtain ⟨k, hk, rfl, hless, hb3⟩ := hrel
          have hrow3 := HR.out.1.below hb3
          have hbw3 := bcall HR.out.2.1 (Nat.le_refl _) hb3
          have hg3 : g < wr.heap.size := by have := HR.out.2.2; have := hb3.size; omega
          have hkc : k ≤ cap := by omega
          have HK := Lib.hid (And.intro hrow3 (And.intro hbw3 (And.intro hless hg3)))
          have HB3 := Lib.hid hb3
          obtain ⟨z0, z1, z2, z3, z4⟩ := HX.out _ hbw3.drew
          have hd := (Below.refl wr.heap.size wr).drew
          by_cases hkt : k < i
          · have hki : ((k : Int) < (i : Int)) = True := by simp; omega
            have hwk := wrapS hkt (by omega)
            have y0 := (hrow3.below hd).get k (by rw [hsl]; exact hkt) 0 (by decide)
            simp only [RIf, Nat.add_zero, Nat.zero_add, List.getElem?_cons_zero] at y0
            obtain ⟨y, hy⟩ : ∃ y, L.getD k default = y := ⟨_, rfl⟩
            rw [hy] at y0
            clear hrow3 hbw3 hg3 hless hb3 hd
            by_cases hyx : y.id < x.id
            · have hyt : (y.id < x.id) = True := by simp [hyx]
              go_wp2_with fail
              refine wp_region_heldP (fun w' => w' = wr.drew) (by kernel_rfl) ?_
              refine held_reads [0, 1, 2, 3, 4, 5, 6, 7, 8, 9, 10, 11, 12, 13, 14, 15, 16] (g := 0) rfl (by kernel_rfl) rfl (fun _ _ d _ _ h => by cases d <;> exact h) ?_
              simp only [pick, List.getD_cons_zero, List.getD_cons_succ]
              iterate 17 ((with_reducible refine wpRead_step (fun K hK => ?_)); go_simp; first | (rw [if_neg (by decide)]; (with_reducible refine hK _ ?_); clear hK K) | ((with_reducible refine hK _ ?_); clear hK K) | (apply Exists.intro; (with_reducible refine ⟨fun w' hw' => ?_, hK _ ?_⟩); (subst hw'; go_simp; first | exact rfl | exact ⟨rfl, rfl⟩); clear hK K))
              with_reducible refine wpRead_nil ?_
              refine wpAnyH_done (by kernel_rfl) ?_ _
              go_wp2_with fail
              exact ⟨⟨k + 1, hkt, by first | rw [hwk] | rw [Int.natCast_succ], fun j hj => by
                rcases Nat.lt_succ_iff_lt_or_eq.1 hj with h | rfl
                · exact HK.out.2.2.1 j h
                · rw [hy]; exact hyx, HB3.out.drew⟩, by first | (rw [hwk]; exact mSucc hkt) | (rw [← Int.natCast_succ]; exact mSucc hkt)⟩
            · have hyt : (y.id < x.id) = False := by simp; omega
              go_wp2_with fail
              refine wp_region_heldP (fun w' => w' = wr.drew) (by kernel_rfl) ?_
              refine held_reads [0, 1, 2, 3, 4, 5, 6, 7, 8, 9, 10, 11, 12, 13, 14, 15, 16] (g := 0) rfl (by kernel_rfl) rfl (fun _ _ d _ _ h => by cases d <;> exact h) ?_
              simp only [pick, List.getD_cons_zero, List.getD_cons_succ]
              iterate 17 ((with_reducible refine wpRead_step (fun K hK => ?_)); go_simp; first | (rw [if_neg (by decide)]; (with_reducible refine hK _ ?_); clear hK K) | ((with_reducible refine hK _ ?_); clear hK K) | (apply Exists.intro; (with_reducible refine ⟨fun w' hw' => ?_, hK _ ?_⟩); (subst hw'; go_simp; first | exact rfl | exact ⟨rfl, rfl⟩); clear hK K))
              with_reducible refine wpRead_nil ?_
              refine wpAnyH_done (by kernel_rfl) ?_ _
              go_wp2_with (at_builtin; refine halt ?_)
              refine Halted.go ?_
              have hd := (Below.refl wr.heap.size wr).drew
              have hb0 := hd.alloc (Nat.le_refl _) (.cells #[] 34)
              generalize hsa : (some ⟨g, k * 5, none⟩ : Option Addr) = sa
              have hs1 : RIf.Sl (wr.drew.alloc (.cells #[] 34)) sa (i - k) (cap - k) (L.drop k) := ⟨by rw [List.length_drop, hsl], by unfold maxLen; omega, fun h0 => ⟨g, k * 5, hsa.symm, by have := (HK.out.1.below hb0).drop k; rw [Nat.zero_add] at this; exact this⟩⟩
              have hs2 : RIf.Sl (wr.drew.alloc (.cells #[] 34)) (some ⟨g, 0, none⟩) k k (L.take k) := ⟨by rw [List.length_take, hsl]; omega, by unfold maxLen; omega, fun _ => ⟨g, 0, rfl, (HK.out.1.below hb0).take k⟩⟩
              have hsn : sa = none → cap - k = 0 := fun e => by rw [e] at hsa; cases hsa
              have hbw := bcall HK.out.2.1 (Nat.le_refl _) hb0
              have hemp : RIf.Own (wr.drew.alloc (.cells #[] 34)) w.heap.size (.slice (some ⟨wr.heap.size, 0, none⟩) 0 0) ([] : List If) := Rep.own_empty (hnew wr.drew _) HK.out.2.1.size
              have HA := Lib.hid (And.intro hs1 (And.intro hs2 (And.intro hsn (And.intro hbw hemp))))
              clear hs1 hs2 hsn hbw hsa hd hb0 hemp
              refine Rep.append_list T23 rfl _ _ rfl (L := []) (M := L.drop k) rfl HA.out.2.2.2.2 rfl HA.out.1 HA.out.2.2.1 (by rw [List.length_nil]; unfold maxLen; omega) (by rw [List.length_nil]; omega) HA.out.2.2.2.1.size ?_
              intro v6 Wt hown6 hb6 hgr
              have hs2' : RIf.Sl Wt (some ⟨g, 0, none⟩) k k (L.take k) := ⟨HA.out.2.1.len, HA.out.2.1.max, fun h0 => by
                obtain ⟨b, o, e, hr⟩ := HA.out.2.1.row h0
                cases e
                exact ⟨g, 0, rfl, hr.keep (hgr.block g hr.lt (fun e => by injection e with e; have := HK.out.2.2.2; dsimp only at e; omega))⟩⟩
              obtain ⟨a6, c6, rfl, hsl6, hn6⟩ := hown6.sl0
              rw [List.nil_append] at hsl6 ⊢
              rw [List.length_drop, hsl] at hsl6 ⊢
              have HT := Lib.hid (And.intro (HA.out.2.2.2.1.trans hb6) (And.intro hsl6 (And.intro hn6 hs2')))
              have hcut := insI_cut (out := L) (x := x) (k := k) HK.out.2.2.1 (.inr ⟨by omega, by rw [hy]; exact Int.not_lt.2 hyx⟩)
              clear hown6 hb6 hgr hs2' hsl6 hn6 HA HK
              go_wp2_with fail
              refine wp_region_heldP (Below w.heap.size w) (by kernel_rfl) ?_
              refine held_reads [0, 1, 2, 3, 4, 5, 6, 7, 10] (g := 4) rfl (by kernel_rfl) HT.out.1.drew (fun _ _ d _ _ h => by cases d <;> exact h) ?_
              simp only [pick, List.getD_cons_zero, List.getD_cons_succ]
              iterate 9 ((with_reducible refine wpRead_step (fun K hK => ?_)); go_simp; first | ((with_reducible refine hK _ ?_); clear hK K) | (apply Exists.intro; (with_reducible refine ⟨fun w' hw' => ?_, hK _ ?_⟩); (obtain ⟨f0, f1, f2, f3, f4⟩ := HX.out _ hw'; go_simp; first | exact rfl | exact ⟨rfl, rfl⟩); clear hK K))
              with_reducible refine wpRead_nil ?_
              have hd := (Below.refl Wt.heap.size Wt).drew
              have HT := Lib.hid (And.intro (bcall HT.out.1 (Nat.le_refl _) hd) (And.intro (HT.out.2.1.keep hd) (And.intro HT.out.2.2.1 (HT.out.2.2.2.keep hd))))
              clear hd
              generalize Wt.drew = W5 at *
              refine held_one 8 (by kernel_rfl) ?_
              simp only [pick, List.getD_cons_zero, List.getD_cons_succ]
              go_wp2_with fail
              have hal := (Below.refl W5.heap.size W5).alloc (Nat.le_refl _) (.cells #[.int .i64 x.id, .int .i64 x.r, .int .u32 (x.ad : Int), .int .i64 x.ln, .int .i64 x.cp] 34)
              have hone : RIf.Sl (W5.alloc (.cells #[.int .i64 x.id, .int .i64 x.r, .int .u32 (x.ad : Int), .int .i64 x.ln, .int .i64 x.cp] 34)) (some ⟨W5.heap.size, 0, none⟩) 1 1 [x] := Rep.sl_one (R := RIf) (y := x) (hnew _ _)
              have HT := Lib.hid (And.intro (bcall HT.out.1 (Nat.le_refl _) hal) (And.intro (HT.out.2.1.keep hal) (And.intro HT.out.2.2.1 (And.intro (HT.out.2.2.2.keep hal) hone))))
              clear hal hone
              generalize W5.alloc (.cells #[.int .i64 x.id, .int .i64 x.r, .int .u32 (x.ad : Int), .int .i64 x.ln, .int .i64 x.cp] 34) = W6 at *
              generalize W5.heap.size = q5 at *
              refine ⟨HT.out.1, ?_⟩
              refine held_one 9 (by kernel_rfl) ?_
              simp only [pick, List.getD_cons_zero, List.getD_cons_succ]
              go_wp2_with (at_builtin; refine halt ?_)
              refine Halted.go ?_
              refine Rep.append_cut T23 rfl _ _ rfl rfl HT.out.2.2.2.1 rfl HT.out.2.2.2.2 (by omega) (by unfold maxLen; omega) (by omega) ?_
              intro v7 W7 hown7 hb7
              have hbb := bcall HT.out.1 (Nat.le_refl _) hb7
              have HT := Lib.hid (And.intro hbb (And.intro (HT.out.2.1.keep hb7) (And.intro HT.out.2.2.1 (hown7.mono HT.out.1.size))))
              clear hbb hb7 hown7
              go_wp2_with fail
              refine ⟨HT.out.1, ?_⟩
              refine held_one 11 (by kernel_rfl) ?_
              simp only [pick, List.getD_cons_zero, List.getD_cons_succ]
              go_wp2_with (at_builtin; refine halt ?_)
              refine Halted.go ?_
              refine Rep.append_list T23 rfl _ _ rfl rfl HT.out.2.2.2 rfl HT.out.2.1 HT.out.2.2.1 (by rw [List.length_append, List.length_take, List.length_singleton, hsl]; unfold maxLen; omega) (by rw [List.length_append, List.length_take, List.length_singleton, hsl]; omega) HT.out.1.size ?_
              intro v8 W8 hown8 hb8 _
              have hbb := HT.out.1.trans hb8
              rw [hcut, ← t1] at hown8
              have HT := Lib.hid (And.intro hbb hown8)
              clear hbb hb8 hown8
              go_wp2_with fail
              refine ⟨HT.out.1, ?_⟩
              refine held_one 12 (by kernel_rfl) ?_
              simp only [pick, List.getD_cons_zero, List.getD_cons_succ]
              go_wp2_with fail
              refine ⟨HT.out.1, ?_⟩
              refine wpAnyH_done (by kernel_rfl) ?_ _
              go_wp2_with fail
              exact ⟨⟨i + 1, hlt, by first | rw [hw3] | rw [Int.natCast_succ], HT.out.2, HT.out.1⟩, by first | (rw [hw3]; exact mSucc hlt) | (rw [← Int.natCast_succ]; exact mSucc hlt)⟩
          · obtain rfl : i = k := by omega
            have hki : ((i : Int) < (i : Int)) = False := by simp
            clear hrow3 hbw3 hg3 hless hb3 hd
            have hdn : L.drop i = [] := List.drop_eq_nil_of_le (by omega)
            by_cases hci : cap = i
            · subst hci
              go_wp2_with fail
              refine wp_region_heldP (fun w' => w' = wr.drew) (by kernel_rfl) ?_
              refine held_reads [0, 1, 2, 3, 4, 5, 6, 7, 8, 9, 10, 11, 12, 13, 14, 15, 16] (g := 0) rfl (by kernel_rfl) rfl (fun _ _ d _ _ h => by cases d <;> exact h) ?_
              simp only [pick, List.getD_cons_zero, List.getD_cons_succ]
              iterate 17 ((with_reducible refine wpRead_step (fun K hK => ?_)); go_simp; first | (rw [if_neg (by decide)]; (with_reducible refine hK _ ?_); clear hK K) | ((with_reducible refine hK _ ?_); clear hK K) | (apply Exists.intro; (with_reducible refine ⟨fun w' hw' => ?_, hK _ ?_⟩); (subst hw'; go_simp; first | exact rfl | exact ⟨rfl, rfl⟩); clear hK K))
              with_reducible refine wpRead_nil ?_
              refine wpAnyH_done (by kernel_rfl) ?_ _
              go_wp2_with (at_builtin; refine halt ?_)
              refine Halted.go ?_
              have hd := (Below.refl wr.heap.size wr).drew
              have hb0 := hd.alloc (Nat.le_refl _) (.cells #[] 34)
              have hs1 : RIf.Sl (wr.drew.alloc (.cells #[] 34)) (some ⟨g, 0, none⟩) 0 0 (L.drop cap) := by rw [hdn]; exact Rep.sl_nil
              have hs2 : RIf.Sl (wr.drew.alloc (.cells #[] 34)) (some ⟨g, 0, none⟩) cap cap (L.take cap) := ⟨by rw [List.length_take, hsl]; omega, by unfold maxLen; omega, fun _ => ⟨g, 0, rfl, (HK.out.1.below hb0).take cap⟩⟩
              have hsn : ((some ⟨g, 0, none⟩) : Option Addr) = none → 0 = 0 := fun e => by cases e
              have hbw := bcall HK.out.2.1 (Nat.le_refl _) hb0
              have hemp : RIf.Own (wr.drew.alloc (.cells #[] 34)) w.heap.size (.slice (some ⟨wr.heap.size, 0, none⟩) 0 0) ([] : List If) := Rep.own_empty (hnew wr.drew _) HK.out.2.1.size
              have HA := Lib.hid (And.intro hs1 (And.intro hs2 (And.intro hsn (And.intro hbw hemp))))
              clear hs1 hs2 hsn hbw hd hb0 hemp
              refine Rep.append_list T23 rfl _ _ rfl (L := []) (M := L.drop cap) rfl HA.out.2.2.2.2 rfl HA.out.1 HA.out.2.2.1 (by rw [List.length_nil]; unfold maxLen; omega) (by rw [List.length_nil]; omega) HA.out.2.2.2.1.size ?_
              intro v6 Wt hown6 hb6 hgr
              have hs2' : RIf.Sl Wt (some ⟨g, 0, none⟩) cap cap (L.take cap) := ⟨HA.out.2.1.len, HA.out.2.1.max, fun h0 => by
                obtain ⟨b, o, e, hr⟩ := HA.out.2.1.row h0
                cases e
                exact ⟨g, 0, rfl, hr.keep (hgr.block g hr.lt (fun e => by injection e with e; have := HK.out.2.2.2; dsimp only at e; omega))⟩⟩
              obtain ⟨a6, c6, rfl, hsl6, hn6⟩ := hown6.sl0
              rw [List.nil_append] at hsl6 ⊢
              rw [List.length_drop, hsl, Nat.sub_self] at hsl6 ⊢
              have HT := Lib.hid (And.intro (HA.out.2.2.2.1.trans hb6) (And.intro hsl6 (And.intro hn6 hs2')))
              have hcut := insI_cut (out := L) (x := x) (k := cap) HK.out.2.2.1 (.inl hsl.symm)
              clear hown6 hb6 hgr hs2' hsl6 hn6 HA HK
              go_wp2_with fail
              refine wp_region_heldP (Below w.heap.size w) (by kernel_rfl) ?_
              refine held_reads [0, 1, 2, 3, 4, 5, 6, 7, 10] (g := 4) rfl (by kernel_rfl) HT.out.1.drew (fun _ _ d _ _ h => by cases d <;> exact h) ?_
              simp only [pick, List.getD_cons_zero, List.getD_cons_succ]
              iterate 9 ((with_reducible refine wpRead_step (fun K hK => ?_)); go_simp; first | ((with_reducible refine hK _ ?_); clear hK K) | (apply Exists.intro; (with_reducible refine ⟨fun w' hw' => ?_, hK _ ?_⟩); (obtain ⟨f0, f1, f2, f3, f4⟩ := HX.out _ hw'; go_simp; first | exact rfl | exact ⟨rfl, rfl⟩); clear hK K))
              with_reducible refine wpRead_nil ?_
              have hd := (Below.refl Wt.heap.size Wt).drew
              have HT := Lib.hid (And.intro (bcall HT.out.1 (Nat.le_refl _) hd) (And.intro (HT.out.2.1.keep hd) (And.intro HT.out.2.2.1 (HT.out.2.2.2.keep hd))))
              clear hd
              generalize Wt.drew = W5 at *
              refine held_one 8 (by kernel_rfl) ?_
              simp only [pick, List.getD_cons_zero, List.getD_cons_succ]
              go_wp2_with fail
              have hal := (Below.refl W5.heap.size W5).alloc (Nat.le_refl _) (.cells #[.int .i64 x.id, .int .i64 x.r, .int .u32 (x.ad : Int), .int .i64 x.ln, .int .i64 x.cp] 34)
              have hone : RIf.Sl (W5.alloc (.cells #[.int .i64 x.id, .int .i64 x.r, .int .u32 (x.ad : Int), .int .i64 x.ln, .int .i64 x.cp] 34)) (some ⟨W5.heap.size, 0, none⟩) 1 1 [x] := Rep.sl_one (R := RIf) (y := x) (hnew _ _)
              have HT := Lib.hid (And.intro (bcall HT.out.1 (Nat.le_refl _) hal) (And.intro (HT.out.2.1.keep hal) (And.intro HT.out.2.2.1 (And.intro (HT.out.2.2.2.keep hal) hone))))
              clear hal hone
              generalize W5.alloc (.cells #[.int .i64 x.id, .int .i64 x.r, .int .u32 (x.ad : Int), .int .i64 x.ln, .int .i64 x.cp] 34) = W6 at *
              generalize W5.heap.size = q5 at *
              refine ⟨HT.out.1, ?_⟩
              refine held_one 9 (by kernel_rfl) ?_
              simp only [pick, List.getD_cons_zero, List.getD_cons_succ]
              go_wp2_with (at_builtin; refine halt ?_)
              refine Halted.go ?_
              refine Rep.append_cut T23 rfl _ _ rfl rfl HT.out.2.2.2.1 rfl HT.out.2.2.2.2 (by omega) (by unfold maxLen; omega) (by omega) ?_
              intro v7 W7 hown7 hb7
              have hbb := bcall HT.out.1 (Nat.le_refl _) hb7
              have HT := Lib.hid (And.intro hbb (And.intro (HT.out.2.1.keep hb7) (And.intro HT.out.2.2.1 (hown7.mono HT.out.1.size))))
              clear hbb hb7 hown7
              go_wp2_with fail
              refine ⟨HT.out.1, ?_⟩
              refine held_one 11 (by kernel_rfl) ?_
              simp only [pick, List.getD_cons_zero, List.getD_cons_succ]
              go_wp2_with (at_builtin; refine halt ?_)
              refine Halted.go ?_
              refine Rep.append_list T23 rfl _ _ rfl rfl HT.out.2.2.2 rfl HT.out.2.1 HT.out.2.2.1 (by rw [List.length_append, List.length_take, List.length_singleton, hsl]; unfold maxLen; omega) (by rw [List.length_append, List.length_take, List.length_singleton, hsl]; omega) HT.out.1.size ?_
              intro v8 W8 hown8 hb8 _
              have hbb := HT.out.1.trans hb8
              rw [hcut, ← t1] at hown8
              have HT := Lib.hid (And.intro hbb hown8)
              clear hbb hb8 hown8
              go_wp2_with fail
              refine ⟨HT.out.1, ?_⟩
              refine held_one 12 (by kernel_rfl) ?_
              simp only [pick, List.getD_cons_zero, List.getD_cons_succ]
              go_wp2_with fail
              refine ⟨HT.out.1, ?_⟩
              refine wpAnyH_done (by kernel_rfl) ?_ _
              go_wp2_with fail
              exact ⟨⟨cap + 1, hlt, by first | rw [hw3] | rw [Int.natCast_succ], HT.out.2, HT.out.1⟩, by first | (rw [hw3]; exact mSucc hlt) | (rw [← Int.natCast_succ]; exact mSucc hlt)⟩
            · have hci2 : i < cap := by omega
              go_wp2_with fail
              refine wp_region_heldP (fun w' => w' = wr.drew) (by kernel_rfl) ?_
              refine held_reads [0, 1, 2, 3, 4, 5, 6, 7, 8, 9, 10, 11, 12, 13, 14, 15, 16] (g := 0) rfl (by kernel_rfl) rfl (fun _ _ d _ _ h => by cases d <;> exact h) ?_
              simp only [pick, List.getD_cons_zero, List.getD_cons_succ]
              iterate 17 ((with_reducible refine wpRead_step (fun K hK => ?_)); go_simp; first | (rw [if_neg (by decide)]; (with_reducible refine hK _ ?_); clear hK K) | ((with_reducible refine hK _ ?_); clear hK K) | (apply Exists.intro; (with_reducible refine ⟨fun w' hw' => ?_, hK _ ?_⟩); (subst hw'; go_simp; first | exact rfl | exact ⟨rfl, rfl⟩); clear hK K))
              with_reducible refine wpRead_nil ?_
              refine wpAnyH_done (by kernel_rfl) ?_ _
              go_wp2_with (at_builtin; refine halt ?_)
              refine Halted.go ?_
              have hd := (Below.refl wr.heap.size wr).drew
              have hb0 := hd.alloc (Nat.le_refl _) (.cells #[] 34)
              have hs1 : RIf.Sl (wr.drew.alloc (.cells #[] 34)) (some ⟨g, i * 5, none⟩) 0 (cap - i) (L.drop i) := by rw [hdn]; exact Rep.sl_nil
              have hs2 : RIf.Sl (wr.drew.alloc (.cells #[] 34)) (some ⟨g, 0, none⟩) i i (L.take i) := ⟨by rw [List.length_take, hsl]; omega, by unfold maxLen; omega, fun _ => ⟨g, 0, rfl, (HK.out.1.below hb0).take i⟩⟩
              have hsn : ((some ⟨g, i * 5, none⟩) : Option Addr) = none → (cap - i) = 0 := fun e => by cases e
              have hbw := bcall HK.out.2.1 (Nat.le_refl _) hb0
              have hemp : RIf.Own (wr.drew.alloc (.cells #[] 34)) w.heap.size (.slice (some ⟨wr.heap.size, 0, none⟩) 0 0) ([] : List If) := Rep.own_empty (hnew wr.drew _) HK.out.2.1.size
              have HA := Lib.hid (And.intro hs1 (And.intro hs2 (And.intro hsn (And.intro hbw hemp))))
              clear hs1 hs2 hsn hbw hd hb0 hemp
              refine Rep.append_list T23 rfl _ _ rfl (L := []) (M := L.drop i) rfl HA.out.2.2.2.2 rfl HA.out.1 HA.out.2.2.1 (by rw [List.length_nil]; unfold maxLen; omega) (by rw [List.length_nil]; omega) HA.out.2.2.2.1.size ?_
              intro v6 Wt hown6 hb6 hgr
              have hs2' : RIf.Sl Wt (some ⟨g, 0, none⟩) i i (L.take i) := ⟨HA.out.2.1.len, HA.out.2.1.max, fun h0 => by
                obtain ⟨b, o, e, hr⟩ := HA.out.2.1.row h0
                cases e
                exact ⟨g, 0, rfl, hr.keep (hgr.block g hr.lt (fun e => by injection e with e; have := HK.out.2.2.2; dsimp only at e; omega))⟩⟩
              obtain ⟨a6, c6, rfl, hsl6, hn6⟩ := hown6.sl0
              rw [List.nil_append] at hsl6 ⊢
              rw [List.length_drop, hsl, Nat.sub_self] at hsl6 ⊢
              have HT := Lib.hid (And.intro (HA.out.2.2.2.1.trans hb6) (And.intro hsl6 (And.intro hn6 hs2')))
              have hcut := insI_cut (out := L) (x := x) (k := i) HK.out.2.2.1 (.inl hsl.symm)
              clear hown6 hb6 hgr hs2' hsl6 hn6 HA HK
              go_wp2_with fail
              refine wp_region_heldP (Below w.heap.size w) (by kernel_rfl) ?_
              refine held_reads [0, 1, 2, 3, 4, 5, 6, 7, 10] (g := 4) rfl (by kernel_rfl) HT.out.1.drew (fun _ _ d _ _ h => by cases d <;> exact h) ?_
              simp only [pick, List.getD_cons_zero, List.getD_cons_succ]
              iterate 9 ((with_reducible refine wpRead_step (fun K hK => ?_)); go_simp; first | ((with_reducible refine hK _ ?_); clear hK K) | (apply Exists.intro; (with_reducible refine ⟨fun w' hw' => ?_, hK _ ?_⟩); (obtain ⟨f0, f1, f2, f3, f4⟩ := HX.out _ hw'; go_simp; first | exact rfl | exact ⟨rfl, rfl⟩); clear hK K))
              with_reducible refine wpRead_nil ?_
              have hd := (Below.refl Wt.heap.size Wt).drew
              have HT := Lib.hid (And.intro (bcall HT.out.1 (Nat.le_refl _) hd) (And.intro (HT.out.2.1.keep hd) (And.intro HT.out.2.2.1 (HT.out.2.2.2.keep hd))))
              clear hd
              generalize Wt.drew = W5 at *
              refine held_one 8 (by kernel_rfl) ?_
              simp only [pick, List.getD_cons_zero, List.getD_cons_succ]
              go_wp2_with fail
              have hal := (Below.refl W5.heap.size W5).alloc (Nat.le_refl _) (.cells #[.int .i64 x.id, .int .i64 x.r, .int .u32 (x.ad : Int), .int .i64 x.ln, .int .i64 x.cp] 34)
              have hone : RIf.Sl (W5.alloc (.cells #[.int .i64 x.id, .int .i64 x.r, .int .u32 (x.ad : Int), .int .i64 x.ln, .int .i64 x.cp] 34)) (some ⟨W5.heap.size, 0, none⟩) 1 1 [x] := Rep.sl_one (R := RIf) (y := x) (hnew _ _)
              have HT := Lib.hid (And.intro (bcall HT.out.1 (Nat.le_refl _) hal) (And.intro (HT.out.2.1.keep hal) (And.intro HT.out.2.2.1 (And.intro (HT.out.2.2.2.keep hal) hone))))
              clear hal hone
              generalize W5.alloc (.cells #[.int .i64 x.id, .int .i64 x.r, .int .u32 (x.ad : Int), .int .i64 x.ln, .int .i64 x.cp] 34) = W6 at *
              generalize W5.heap.size = q5 at *
              refine ⟨HT.out.1, ?_⟩
              refine held_one 9 (by kernel_rfl) ?_
              simp only [pick, List.getD_cons_zero, List.getD_cons_succ]
              go_wp2_with (at_builtin; refine halt ?_)
              refine Halted.go ?_
              refine Rep.append_cut T23 rfl _ _ rfl rfl HT.out.2.2.2.1 rfl HT.out.2.2.2.2 (by omega) (by unfold maxLen; omega) (by omega) ?_
              intro v7 W7 hown7 hb7
              have hbb := bcall HT.out.1 (Nat.le_refl _) hb7
              have HT := Lib.hid (And.intro hbb (And.intro (HT.out.2.1.keep hb7) (And.intro HT.out.2.2.1 (hown7.mono HT.out.1.size))))
              clear hbb hb7 hown7
              go_wp2_with fail
              refine ⟨HT.out.1, ?_⟩
              refine held_one 11 (by kernel_rfl) ?_
              simp only [pick, List.getD_cons_zero, List.getD_cons_succ]
              go_wp2_with (at_builtin; refine halt ?_)
              refine Halted.go ?_
              refine Rep.append_list T23 rfl _ _ rfl rfl HT.out.2.2.2 rfl HT.out.2.1 HT.out.2.2.1 (by rw [List.length_append, List.length_take, List.length_singleton, hsl]; unfold maxLen; omega) (by rw [List.length_append, List.length_take, List.length_singleton, hsl]; omega) HT.out.1.size ?_
              intro v8 W8 hown8 hb8 _
              have hbb := HT.out.1.trans hb8
              rw [hcut, ← t1] at hown8
              have HT := Lib.hid (And.intro hbb hown8)
              clear hbb hb8 hown8
              go_wp2_with fail
              refine ⟨HT.out.1, ?_⟩
              refine held_one 12 (by kernel_rfl) ?_
              simp only [pick, List.getD_cons_zero, List.getD_cons_succ]
              go_wp2_with fail
              refine ⟨HT.out.1, ?_⟩
              refine wpAnyH_done (by kernel_rfl) ?_ _
              go_wp2_with fail
              exact ⟨⟨i + 1, hlt, by first | rw [hw3] | rw [Int.natCast_succ], HT.out.2, HT.out.1⟩, by first | (rw [hw3]; exact mSucc hlt) | (rw [← Int.natCast_succ]; exact mSucc hlt)⟩
    · obtain rfl : n = i := by omega
      have hil : ((n : Int) < (n : Int)) = False := by simp
      rw [List.take_of_length_le (by rw [HL.out]; exact Nat.le_refl _)] at hown
      have HB := Lib.hid (And.intro hown hb)
      clear hb hown
      go_wp2_with fail
      go_ret
      exact ⟨_, rfl, HB.out⟩
end Go.Proofs.Ytlkbaplfffbmkaa
